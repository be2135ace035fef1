/- Walks: bytes and frames compared; a record of few parts; a frame as the reference has it. Ahead of it: Walks: the words of a record, as the program tells them (all kinds but pred); a version's text; words joined. -/
import Derived.Test.YtjedgiiplebofaaGreatDoorU30
import Derived.Test.YtjedgiiplebofaaGreatDoorU29
import Derived.Test.YtjedgiiplebofaaGreatDoorU32
import Derived.BigQuiet
import Derived.Deep.QuietTactic
import Derived.Laws.IdiomStrings
namespace Go.Proofs.YtjedgiiplebofaaGreatDoor
open Go.RowKit Go
set_option linter.unusedVariables false
set_option linter.unusedSimpArgs false
theorem dd20 (u : Nat) (h : u < 18446744073709551616) : (⟨(Lib.decDigits u).toArray⟩ : ByteArray).size ≤ 20 := by rw [← ba_size]; simpa using decDigits_le20 u h
theorem joinS_any (S : Nat → Prop) (l : List (List UInt8)) (v : Value) (sep : List UInt8) (w : World) (h : RepS w S l v) (hl : l.length ≤ 1000000) (hlen : (Lib.join l sep).length ≤ 140737488355328) :
    Calls Tryz.prog 144 #[v, .string ⟨sep.toArray⟩] w fun e w' => e = .returned (.string ⟨(Lib.join l sep).toArray⟩) ∧ Below w.heap.size w w' := by
  obtain ⟨_, _, ad, cap, rfl, hcap⟩ := h.shape
  cases l with
  | nil =>
    refine (Tryz.strings_Join_none ad cap _ w).mono ?_
    rintro e w' ⟨rfl, rfl⟩
    exact ⟨rfl, Below.refl _ _⟩
  | cons x r =>
    obtain ⟨bl, off, rfl, _, hc⟩ := h.at (by simp)
    have hm : ((x :: r).map fun x => (⟨x.toArray⟩ : ByteArray)).map (·.data.toList) = x :: r := by simp [Function.comp_def]
    have hs : (⟨sep.toArray⟩ : ByteArray).data.toList = sep := by simp
    have hj := Tryz.strings_Join bl off cap ((x :: r).map fun x => (⟨x.toArray⟩ : ByteArray)) ⟨sep.toArray⟩ w (fun j y hy => by
      have hjl : j < (x :: r).length := by have := (List.getElem?_eq_some_iff.1 hy).1; simpa using this
      rw [hc j hjl]
      simp only [List.getElem?_map, Option.map_eq_some_iff] at hy
      obtain ⟨z, hz, rfl⟩ := hy
      rw [(List.getElem?_eq_some_iff.1 hz).2]) (World.block_lt_of_cell? w _ (hc 0 (by simp))) (by rw [List.length_map]; omega) (by rw [List.length_map]; exact hcap) (by rw [hm, hs]; exact hlen)
    rw [hm, hs, List.length_map] at hj
    exact hj
set_option maxHeartbeats 2000000 in
set_option maxRecDepth 100000 in
theorem recVText_any (a b : Nat) (w : World) (ha : a < 18446744073709551616) (hb : b < 18446744073709551616) (hL : Lv w.heap.size w) :
    Calls Tryz.prog 39 #[.agg #[.int .u64 a, .int .u64 b]] w fun e w' => e = .returned (.string ⟨(verT a b).toArray⟩) ∧ Below w.heap.size w w' := by
  have zA := dd20 a ha
  have zB := dd20 b hb
  have HD : Hid (∀ W : World, Lv W.heap.size W → Calls Tryz.prog 102 #[.int .u64 a] W fun e w' => e = .returned (.string ⟨(Lib.decDigits a).toArray⟩) ∧ Below W.heap.size W w') := Lib.hid (fun W h => recDigits_any a W ha h)
  have HE : Hid (∀ W : World, Lv W.heap.size W → Calls Tryz.prog 102 #[.int .u64 b] W fun e w' => e = .returned (.string ⟨(Lib.decDigits b).toArray⟩) ∧ Below W.heap.size W w') := Lib.hid (fun W h => recDigits_any b W hb h)
  have HT : Hid (∀ DA DB : ByteArray, DA = ⟨(Lib.decDigits a).toArray⟩ → DB = ⟨(Lib.decDigits b).toArray⟩ → DA ++ ⟨#[46]⟩ ++ DB = ⟨(verT a b).toArray⟩) := Lib.hid (by rintro _ _ rfl rfl; exact Value.string.inj (str_ext' (by simp [verT])))
  generalize hDA : (⟨(Lib.decDigits a).toArray⟩ : ByteArray) = DA at zA HD
  generalize hDB : (⟨(Lib.decDigits b).toArray⟩ : ByteArray) = DB at zB HE
  have HAB := Lib.hid (HT.out DA DB hDA.symm hDB.symm)
  rw [← HAB.out]
  have hb0 : Below w.heap.size w (w.alloc (.cells #[.int .u64 a, .int .u64 b] 25)) := (Below.refl _ _).alloc (Nat.le_refl _) _
  have hh0 : (w.alloc (.cells #[.int .u64 a, .int .u64 b] 25)).heap[w.heap.size]? = some (.cells #[.int .u64 a, .int .u64 b] 25 (0, 0)) := heap_alloc_at _ _ _ rfl
  have HL := Lib.hid ((hL.below hb0).mono hb0.size)
  have HB := Lib.hid (And.intro hb0 hh0)
  clear hL hDA hDB hb0 hh0 HT HAB
  go_enter Tryz.func39, Tryz.ntmps39
  go_wp2_with fail
  generalize hW : w.alloc (.cells #[.int .u64 a, .int .u64 b] 25) = W at HL HB ⊢
  have l0 : w.heap.size < W.heap.size := (Array.getElem?_eq_some_iff.1 HB.out.2).1
  have b0 : W.cell? ⟨w.heap.size, 0, none⟩ = some (.int .u64 a) := by rw [cell_of_row W _ 0 _ _ _ HB.out.2]; rfl
  have b1 : W.cell? ⟨w.heap.size, 1, none⟩ = some (.int .u64 b) := by rw [cell_of_row W _ 1 _ _ _ HB.out.2]; rfl
  clear hW
  refine wp_region_prs (w0 := W) rfl [.eq (.pointer (some ⟨w.heap.size, 0, none⟩)), .eq (.int .u64 a), .eq (.string DA), .eq (.string (DA ++ ⟨#[46]⟩)), .eq (.pointer (some ⟨w.heap.size, 1, none⟩)), .eq (.int .u64 b), .eq (.string DB), .eq (.string (DA ++ ⟨#[46]⟩ ++ DB)), .eq (.string (DA ++ ⟨#[46]⟩ ++ DB))] (by kernel_rfl) ⟨?_, ?_, ?_, ?_, ?_, ?_, ?_, ?_, ?_, trivial⟩ (fun vs => [(3, (.pointer (some ⟨w.heap.size, 0, none⟩))), (4, (.int .u64 a)), (5, (.string DA)), (6, (.string (DA ++ ⟨#[46]⟩))), (7, (.pointer (some ⟨w.heap.size, 1, none⟩))), (8, (.int .u64 b)), (9, (.string DB)), (10, (.string (DA ++ ⟨#[46]⟩ ++ DB))), (2, (.string (DA ++ ⟨#[46]⟩ ++ DB)))]) (fun _ => rfl) ?_
  · refine RStep.mk rfl rfl (fun S a wx K Q hR hK => ?_)
    have t1 : a.tmps[1]? = some (.pointer (some ⟨w.heap.size, 0, none⟩)) := (hR.old 1 (by kernel_rfl)).trans (by kernel_rfl)
    go_simp
    exact hK _ _ (Below.refl _ _) rfl
  · refine RStep.mk rfl rfl (fun S a wx K Q hR hK => ?_)
    have t3 := hR.eq 0 (by kernel_rfl) rfl rfl
    have y0 := (hR.bel.cell l0).trans b0
    go_simp
    exact hK _ _ (Below.refl _ _) rfl
  · refine RStep.mk rfl rfl (fun S a wx K Q hR hK => ?_)
    have t4 := hR.eq 1 (by kernel_rfl) rfl rfl
    go_simp
    go_at_call 102
    refine (HD.out _ ((HL.out.below hR.bel).mono hR.bel.size)).mono ?_
    rintro e w' ⟨rfl, hbx⟩
    exact hK _ _ hbx rfl
  · refine RStep.mk rfl rfl (fun S a wx K Q hR hK => ?_)
    have t5 := hR.eq 2 (by kernel_rfl) rfl rfl
    have q : ¬ 9223372036854775807 < DA.size + 1 := by omega
    go_simp
    (try go_ints)
    exact hK _ _ (Below.refl _ _) rfl
  · refine RStep.mk rfl rfl (fun S a wx K Q hR hK => ?_)
    have t1 : a.tmps[1]? = some (.pointer (some ⟨w.heap.size, 0, none⟩)) := (hR.old 1 (by kernel_rfl)).trans (by kernel_rfl)
    go_simp
    exact hK _ _ (Below.refl _ _) rfl
  · refine RStep.mk rfl rfl (fun S a wx K Q hR hK => ?_)
    have t7 := hR.eq 4 (by kernel_rfl) rfl rfl
    have y0 := (hR.bel.cell l0).trans b1
    go_simp
    exact hK _ _ (Below.refl _ _) rfl
  · refine RStep.mk rfl rfl (fun S a wx K Q hR hK => ?_)
    have t8 := hR.eq 5 (by kernel_rfl) rfl rfl
    go_simp
    go_at_call 102
    refine (HE.out _ ((HL.out.below hR.bel).mono hR.bel.size)).mono ?_
    rintro e w' ⟨rfl, hbx⟩
    exact hK _ _ hbx rfl
  · refine RStep.mk rfl rfl (fun S a wx K Q hR hK => ?_)
    have t6 := hR.eq 3 (by kernel_rfl) rfl rfl
    have t9 := hR.eq 6 (by kernel_rfl) rfl rfl
    have q : ¬ 9223372036854775807 < DA.size + 1 + DB.size := by omega
    go_simp
    (try go_ints)
    exact hK _ _ (Below.refl _ _) rfl
  · refine RStep.mk rfl rfl (fun S a wx K Q hR hK => ?_)
    have t10 := hR.eq 7 (by kernel_rfl) rfl rfl
    go_simp
    exact hK _ _ (Below.refl _ _) rfl
  intro S1 vs w1 hD
  have HN := Lib.hid (HB.out.1.trans (hD.bel.mono HB.out.1.size))
  simp only [putsL, List.foldl_cons, List.foldl_nil]
  clear hD b0 b1
  go_simp
  go_wp2_with fail
  go_ret
  exact ⟨rfl, HN.out⟩
def WordsK (k fid : Nat) : Prop := ∀ (S : Nat → Prop) (own : Bool) (r : Rec) (k0 : Int) (k1 k2 : Nat) (k3 : Option Addr) (k4 k5 : Nat) (k6 : Option Addr) (n6 k7 : Nat) (w : World), n6 = r.es.length → r.k = (k : Int) → r.p.size ≤ 900 → r.es.length ≤ 10000 → r.nums → r.right = true →
  RepE w S own r.p (.agg #[.int .i64 k0, .int .u64 k1, .int .u64 k2, .slice k3 k4 k5]) → RepN w S own r.es (.slice k6 n6 k7) → Lv w.heap.size w →
  Calls Tryz.prog fid #[.agg #[.int .i64 r.k, .int .u64 r.t, .int .u64 r.x, .int .u64 r.w, .int .u64 r.n, .int .u64 r.v, .int .i64 k0, .int .u64 k1, .int .u64 k2, .slice k3 k4 k5, .slice k6 n6 k7]] w fun e w' => ∃ v, e = .returned v ∧ RepS w' (fun b => w.heap.size ≤ b) r.tail v ∧ Below w.heap.size w w'
theorem repS_of_block {w : World} {S : Nat → Prop} {v : Value} {n : Nat} {l : List (List UInt8)} {cs : Array Value} (h : pBlock n n cs S v w) (hcs : cs.toList = strs l) (hn : n = l.length) (hl : n ≤ 9223372036854775807) : RepS w S l v := by
  obtain ⟨g, T, rfl, hS, hh⟩ := h
  refine ⟨by simp [strs_length], by omega, _, _, by rw [hn], by omega, fun _ => ⟨g, 0, rfl, hS, fun j hj => ?_⟩⟩
  rw [cell_of_row w g (0 + j) cs T (0, 0) hh]
  refine ⟨?_, fun _ => by rw [frozen_of_row w _ _ _ _ hh]⟩
  rw [Nat.zero_add, ← Array.getElem?_toList, hcs]
  exact List.getElem?_eq_getElem hj
structure Tp (r : Rec) (DX DV TO : ByteArray) : Prop where
  dx : ∀ W : World, Lv W.heap.size W → Calls Tryz.prog 102 #[.int .u64 r.x] W fun e w' => e = .returned (.string DX) ∧ Below W.heap.size W w'
  dv : ∀ W : World, Lv W.heap.size W → Calls Tryz.prog 102 #[.int .u64 r.v] W fun e w' => e = .returned (.string DV) ∧ Below W.heap.size W w'
  tt : ∀ W : World, Lv W.heap.size W → Calls Tryz.prog 39 #[.agg #[.int .u64 r.w, .int .u64 r.n]] W fun e w' => e = .returned (.string TO) ∧ Below W.heap.size W w'
  e2 : DX = ⟨(Lib.decDigits r.x).toArray⟩
  e3 : DV = ⟨(Lib.decDigits r.v).toArray⟩
  e4 : TO = ⟨(verT r.w r.n).toArray⟩
theorem Tp.mk' (r : Rec) (h : r.nums) : ∃ DX DV TO, Tp r DX DV TO :=
  ⟨_, _, _, fun W hL => recDigits_any _ W h.2.1 hL, fun W hL => recDigits_any _ W h.2.2.2.2.1 hL, fun W hL => recVText_any _ _ W h.2.2.1 h.2.2.2.1 hL, rfl, rfl, rfl⟩
set_option maxRecDepth 100000 in
theorem wordsK_none (k : Nat) (hk : k = 1 ∨ k = 6 ∨ k = 7) : WordsK k 156 := by
  intro S own r k0 k1 k2 k3 k4 k5 k6 n6 k7 w hn6 hkk hsz hle hnums hr he hes hL
  have ht : r.tail = [] := by unfold Rec.tail; rw [if_neg (by omega), if_neg (by omega), if_neg (by omega), if_neg (by omega)]
  have HT := Lib.hid ht
  clear he hes hL ht hkk hk hn6 hr
  go_enter Tryz.func156, Tryz.ntmps156
  go_wp2_with fail
  go_ret
  refine ⟨_, rfl, ?_, (Below.refl _ _).alloc (Nat.le_refl _) _⟩
  rw [HT.out]
  exact Sl.nil _ _ _ _
set_option maxHeartbeats 4000000 in
set_option maxRecDepth 100000 in
theorem wordsK_read : WordsK 2 219 := by
  intro S own r k0 k1 k2 k3 k4 k5 k6 n6 k7 w hn6 hkk hsz hle hnums hr he hes hL
  have ht : r.tail = [Lib.decDigits r.x, verT r.w r.n] := by unfold Rec.tail; simp [hkk]
  obtain ⟨DX, DV, TO, hT⟩ := Tp.mk' r hnums
  have HT := Lib.hid hT
  have HTL := Lib.hid ht
  have hb0 : Below w.heap.size w (w.alloc (.cells #[.int .i64 r.k, .int .u64 r.t, .int .u64 r.x, .int .u64 r.w, .int .u64 r.n, .int .u64 r.v, .int .i64 k0, .int .u64 k1, .int .u64 k2, .slice k3 k4 k5, .slice k6 n6 k7] 31)) := (Below.refl _ _).alloc (Nat.le_refl _) _
  have hh0 : (w.alloc (.cells #[.int .i64 r.k, .int .u64 r.t, .int .u64 r.x, .int .u64 r.w, .int .u64 r.n, .int .u64 r.v, .int .i64 k0, .int .u64 k1, .int .u64 k2, .slice k3 k4 k5, .slice k6 n6 k7] 31)).heap[w.heap.size]? = some (.cells #[.int .i64 r.k, .int .u64 r.t, .int .u64 r.x, .int .u64 r.w, .int .u64 r.n, .int .u64 r.v, .int .i64 k0, .int .u64 k1, .int .u64 k2, .slice k3 k4 k5, .slice k6 n6 k7] 31 (0, 0)) := heap_alloc_at _ _ _ rfl
  have HL := Lib.hid ((hL.below hb0).mono hb0.size)
  have HB := Lib.hid (And.intro hb0 hh0)
  clear hn6 hkk hr he hes hL hT ht hb0 hh0
  go_enter Tryz.func219, Tryz.ntmps219
  go_wp2_with fail
  generalize hW : w.alloc (.cells #[.int .i64 r.k, .int .u64 r.t, .int .u64 r.x, .int .u64 r.w, .int .u64 r.n, .int .u64 r.v, .int .i64 k0, .int .u64 k1, .int .u64 k2, .slice k3 k4 k5, .slice k6 n6 k7] 31) = W at HL HB ⊢
  have l0 : w.heap.size < W.heap.size := (Array.getElem?_eq_some_iff.1 HB.out.2).1
  have b2 : W.cell? ⟨w.heap.size, 2, none⟩ = some (.int .u64 r.x) := by rw [cell_of_row W _ 2 _ _ _ HB.out.2]; rfl
  have b3 : W.cell? ⟨w.heap.size, 3, none⟩ = some (.int .u64 r.w) := by rw [cell_of_row W _ 3 _ _ _ HB.out.2]; rfl
  have b4 : W.cell? ⟨w.heap.size, 4, none⟩ = some (.int .u64 r.n) := by rw [cell_of_row W _ 4 _ _ _ HB.out.2]; rfl
  have b5 : W.cell? ⟨w.heap.size, 5, none⟩ = some (.int .u64 r.v) := by rw [cell_of_row W _ 5 _ _ _ HB.out.2]; rfl
  clear hW
  refine wp_region_prs (w0 := W) rfl [.eq (.pointer (some ⟨w.heap.size, 2, none⟩)), .eq (.int .u64 r.x), .eq (.string DX), .eq (.pointer (some ⟨w.heap.size, 3, none⟩)), .eq (.agg #[.int .u64 r.w, .int .u64 r.n]), .eq (.string TO), .of (pBlock 2 2 #[.string DX, .string TO]), .of (pBlock 2 2 #[.string DX, .string TO])] (by kernel_rfl) ⟨?_, ?_, ?_, ?_, ?_, ?_, ?_, ?_, ?_, ?_, trivial⟩ (fun vs => [(3, (.pointer (some ⟨w.heap.size, 2, none⟩))), (4, (.int .u64 r.x)), (5, (.string DX)), (6, (.pointer (some ⟨w.heap.size, 3, none⟩))), (7, (.agg #[.int .u64 r.w, .int .u64 r.n])), (8, (.string TO)), (9, vs 6), (2, vs 7)]) (fun _ => rfl) ?_
  · refine RStep.mk rfl rfl (fun S a wx K Q hR hK => ?_)
    have t1 : a.tmps[1]? = some (.pointer (some ⟨w.heap.size, 0, none⟩)) := (hR.old 1 (by kernel_rfl)).trans (by kernel_rfl)
    go_simp
    exact hK _ _ (Below.refl _ _) rfl
  · refine RStep.mk rfl rfl (fun S a wx K Q hR hK => ?_)
    have t3 := hR.eq 0 (by kernel_rfl) rfl rfl
    have y0 := (hR.bel.cell l0).trans b2
    go_simp
    exact hK _ _ (Below.refl _ _) rfl
  · refine RStep.mk rfl rfl (fun S a wx K Q hR hK => ?_)
    have t4 := hR.eq 1 (by kernel_rfl) rfl rfl
    go_simp
    go_at_call 102
    refine (HT.out.dx _ ((HL.out.below hR.bel).mono hR.bel.size)).mono ?_
    rintro e w' ⟨rfl, hbx⟩
    exact hK _ _ hbx rfl
  · refine RStep.mk rfl rfl (fun S a wx K Q hR hK => ?_)
    have t1 : a.tmps[1]? = some (.pointer (some ⟨w.heap.size, 0, none⟩)) := (hR.old 1 (by kernel_rfl)).trans (by kernel_rfl)
    go_simp
    exact hK _ _ (Below.refl _ _) rfl
  · refine RStep.mk rfl rfl (fun S a wx K Q hR hK => ?_)
    have t6 := hR.eq 3 (by kernel_rfl) rfl rfl
    have y0 := (hR.bel.cell l0).trans b3
    have y1 := (hR.bel.cell l0).trans b4
    go_simp
    exact hK _ _ (Below.refl _ _) rfl
  · refine RStep.mk rfl rfl (fun S a wx K Q hR hK => ?_)
    have t7 := hR.eq 4 (by kernel_rfl) rfl rfl
    go_simp
    go_at_call 39
    refine (HT.out.tt _ ((HL.out.below hR.bel).mono hR.bel.size)).mono ?_
    rintro e w' ⟨rfl, hbx⟩
    exact hK _ _ hbx rfl
  · exact steadyBlock _ _ _
  · refine RStep.mk rfl rfl (fun S a wx K Q hR hK => ?_)
    have t5 := hR.eq 2 (by kernel_rfl) rfl rfl
    have t8 := hR.eq 5 (by kernel_rfl) rfl rfl
    go_simp
    exact hK _ _ ((Below.refl _ _).alloc (Nat.le_refl _) _) ⟨_, _, rfl, hR.new _ (Nat.le_refl _), heap_alloc_at _ _ _ rfl⟩
  · exact steadyBlock _ _ _
  · refine RStep.mk rfl rfl (fun S a wx K Q hR hK => ?_)
    obtain ⟨u9, t9, f9⟩ := hR.of 6 (by kernel_rfl) rfl rfl
    obtain ⟨g9, T9, rfl, hS9, hh9⟩ := (show pBlock 2 2 #[.string DX, .string TO] S u9 wx from f9)
    go_simp
    exact hK _ _ (Below.refl _ _) ⟨g9, T9, rfl, hS9, hh9⟩
  intro S1 vs w1 hD
  have hfin : RepS w1 (fun b => w.heap.size ≤ b) r.tail (vs 7) := by
    rw [HTL.out]
    have h1 := Sl.keep (S' := fun b => w.heap.size ≤ b) (repS_of_block (l := [Lib.decDigits r.x, verT r.w r.n]) (hD.ofs 7 _ rfl) (by rw [HT.out.e2, HT.out.e4]; rfl) rfl (by omega)) (by omega) (fun _ _ _ => rfl) (fun b _ hb => Nat.le_trans HB.out.1.size (hD.low b hb))
    exact h1
  have hbl := hD.bel
  obtain ⟨_, vad, vcap, hvs, _⟩ := hfin.shape.2
  rw [hvs] at hfin
  have HN := Lib.hid (And.intro hfin (HB.out.1.trans (hbl.mono HB.out.1.size)))
  simp only [putsL, List.foldl_cons, List.foldl_nil]
  rw [hvs]
  clear hD b2 b3 b4 b5 hfin hbl hvs
  go_simp
  go_wp2_with fail
  go_ret
  exact ⟨_, rfl, HN.out.1, HN.out.2⟩
set_option maxHeartbeats 4000000 in
set_option maxRecDepth 100000 in
theorem wordsK_write : WordsK 3 225 := by
  intro S own r k0 k1 k2 k3 k4 k5 k6 n6 k7 w hn6 hkk hsz hle hnums hr he hes hL
  have ht : r.tail = [Lib.decDigits r.x, Lib.decDigits r.v] := by unfold Rec.tail; simp [hkk]
  obtain ⟨DX, DV, TO, hT⟩ := Tp.mk' r hnums
  have HT := Lib.hid hT
  have HTL := Lib.hid ht
  have hb0 : Below w.heap.size w (w.alloc (.cells #[.int .i64 r.k, .int .u64 r.t, .int .u64 r.x, .int .u64 r.w, .int .u64 r.n, .int .u64 r.v, .int .i64 k0, .int .u64 k1, .int .u64 k2, .slice k3 k4 k5, .slice k6 n6 k7] 31)) := (Below.refl _ _).alloc (Nat.le_refl _) _
  have hh0 : (w.alloc (.cells #[.int .i64 r.k, .int .u64 r.t, .int .u64 r.x, .int .u64 r.w, .int .u64 r.n, .int .u64 r.v, .int .i64 k0, .int .u64 k1, .int .u64 k2, .slice k3 k4 k5, .slice k6 n6 k7] 31)).heap[w.heap.size]? = some (.cells #[.int .i64 r.k, .int .u64 r.t, .int .u64 r.x, .int .u64 r.w, .int .u64 r.n, .int .u64 r.v, .int .i64 k0, .int .u64 k1, .int .u64 k2, .slice k3 k4 k5, .slice k6 n6 k7] 31 (0, 0)) := heap_alloc_at _ _ _ rfl
  have HL := Lib.hid ((hL.below hb0).mono hb0.size)
  have HB := Lib.hid (And.intro hb0 hh0)
  clear hn6 hkk hr he hes hL hT ht hb0 hh0
  go_enter Tryz.func225, Tryz.ntmps225
  go_wp2_with fail
  generalize hW : w.alloc (.cells #[.int .i64 r.k, .int .u64 r.t, .int .u64 r.x, .int .u64 r.w, .int .u64 r.n, .int .u64 r.v, .int .i64 k0, .int .u64 k1, .int .u64 k2, .slice k3 k4 k5, .slice k6 n6 k7] 31) = W at HL HB ⊢
  have l0 : w.heap.size < W.heap.size := (Array.getElem?_eq_some_iff.1 HB.out.2).1
  have b2 : W.cell? ⟨w.heap.size, 2, none⟩ = some (.int .u64 r.x) := by rw [cell_of_row W _ 2 _ _ _ HB.out.2]; rfl
  have b3 : W.cell? ⟨w.heap.size, 3, none⟩ = some (.int .u64 r.w) := by rw [cell_of_row W _ 3 _ _ _ HB.out.2]; rfl
  have b4 : W.cell? ⟨w.heap.size, 4, none⟩ = some (.int .u64 r.n) := by rw [cell_of_row W _ 4 _ _ _ HB.out.2]; rfl
  have b5 : W.cell? ⟨w.heap.size, 5, none⟩ = some (.int .u64 r.v) := by rw [cell_of_row W _ 5 _ _ _ HB.out.2]; rfl
  clear hW
  refine wp_region_prs (w0 := W) rfl [.eq (.pointer (some ⟨w.heap.size, 2, none⟩)), .eq (.int .u64 r.x), .eq (.string DX), .eq (.pointer (some ⟨w.heap.size, 5, none⟩)), .eq (.int .u64 r.v), .eq (.string DV), .of (pBlock 2 2 #[.string DX, .string DV]), .of (pBlock 2 2 #[.string DX, .string DV])] (by kernel_rfl) ⟨?_, ?_, ?_, ?_, ?_, ?_, ?_, ?_, ?_, ?_, trivial⟩ (fun vs => [(3, (.pointer (some ⟨w.heap.size, 2, none⟩))), (4, (.int .u64 r.x)), (5, (.string DX)), (6, (.pointer (some ⟨w.heap.size, 5, none⟩))), (7, (.int .u64 r.v)), (8, (.string DV)), (9, vs 6), (2, vs 7)]) (fun _ => rfl) ?_
  · refine RStep.mk rfl rfl (fun S a wx K Q hR hK => ?_)
    have t1 : a.tmps[1]? = some (.pointer (some ⟨w.heap.size, 0, none⟩)) := (hR.old 1 (by kernel_rfl)).trans (by kernel_rfl)
    go_simp
    exact hK _ _ (Below.refl _ _) rfl
  · refine RStep.mk rfl rfl (fun S a wx K Q hR hK => ?_)
    have t3 := hR.eq 0 (by kernel_rfl) rfl rfl
    have y0 := (hR.bel.cell l0).trans b2
    go_simp
    exact hK _ _ (Below.refl _ _) rfl
  · refine RStep.mk rfl rfl (fun S a wx K Q hR hK => ?_)
    have t4 := hR.eq 1 (by kernel_rfl) rfl rfl
    go_simp
    go_at_call 102
    refine (HT.out.dx _ ((HL.out.below hR.bel).mono hR.bel.size)).mono ?_
    rintro e w' ⟨rfl, hbx⟩
    exact hK _ _ hbx rfl
  · refine RStep.mk rfl rfl (fun S a wx K Q hR hK => ?_)
    have t1 : a.tmps[1]? = some (.pointer (some ⟨w.heap.size, 0, none⟩)) := (hR.old 1 (by kernel_rfl)).trans (by kernel_rfl)
    go_simp
    exact hK _ _ (Below.refl _ _) rfl
  · refine RStep.mk rfl rfl (fun S a wx K Q hR hK => ?_)
    have t6 := hR.eq 3 (by kernel_rfl) rfl rfl
    have y0 := (hR.bel.cell l0).trans b5
    go_simp
    exact hK _ _ (Below.refl _ _) rfl
  · refine RStep.mk rfl rfl (fun S a wx K Q hR hK => ?_)
    have t7 := hR.eq 4 (by kernel_rfl) rfl rfl
    go_simp
    go_at_call 102
    refine (HT.out.dv _ ((HL.out.below hR.bel).mono hR.bel.size)).mono ?_
    rintro e w' ⟨rfl, hbx⟩
    exact hK _ _ hbx rfl
  · exact steadyBlock _ _ _
  · refine RStep.mk rfl rfl (fun S a wx K Q hR hK => ?_)
    have t5 := hR.eq 2 (by kernel_rfl) rfl rfl
    have t8 := hR.eq 5 (by kernel_rfl) rfl rfl
    go_simp
    exact hK _ _ ((Below.refl _ _).alloc (Nat.le_refl _) _) ⟨_, _, rfl, hR.new _ (Nat.le_refl _), heap_alloc_at _ _ _ rfl⟩
  · exact steadyBlock _ _ _
  · refine RStep.mk rfl rfl (fun S a wx K Q hR hK => ?_)
    obtain ⟨u9, t9, f9⟩ := hR.of 6 (by kernel_rfl) rfl rfl
    obtain ⟨g9, T9, rfl, hS9, hh9⟩ := (show pBlock 2 2 #[.string DX, .string DV] S u9 wx from f9)
    go_simp
    exact hK _ _ (Below.refl _ _) ⟨g9, T9, rfl, hS9, hh9⟩
  intro S1 vs w1 hD
  have hfin : RepS w1 (fun b => w.heap.size ≤ b) r.tail (vs 7) := by
    rw [HTL.out]
    have h1 := Sl.keep (S' := fun b => w.heap.size ≤ b) (repS_of_block (l := [Lib.decDigits r.x, Lib.decDigits r.v]) (hD.ofs 7 _ rfl) (by rw [HT.out.e2, HT.out.e3]; rfl) rfl (by omega)) (by omega) (fun _ _ _ => rfl) (fun b _ hb => Nat.le_trans HB.out.1.size (hD.low b hb))
    exact h1
  have hbl := hD.bel
  obtain ⟨_, vad, vcap, hvs, _⟩ := hfin.shape.2
  rw [hvs] at hfin
  have HN := Lib.hid (And.intro hfin (HB.out.1.trans (hbl.mono HB.out.1.size)))
  simp only [putsL, List.foldl_cons, List.foldl_nil]
  rw [hvs]
  clear hD b2 b3 b4 b5 hfin hbl hvs
  go_simp
  go_wp2_with fail
  go_ret
  exact ⟨_, rfl, HN.out.1, HN.out.2⟩
set_option maxHeartbeats 4000000 in
set_option maxRecDepth 100000 in
theorem wordsK_delete : WordsK 4 230 := by
  intro S own r k0 k1 k2 k3 k4 k5 k6 n6 k7 w hn6 hkk hsz hle hnums hr he hes hL
  have ht : r.tail = [Lib.decDigits r.x] := by unfold Rec.tail; simp [hkk]
  obtain ⟨DX, DV, TO, hT⟩ := Tp.mk' r hnums
  have HT := Lib.hid hT
  have HTL := Lib.hid ht
  have hb0 : Below w.heap.size w (w.alloc (.cells #[.int .i64 r.k, .int .u64 r.t, .int .u64 r.x, .int .u64 r.w, .int .u64 r.n, .int .u64 r.v, .int .i64 k0, .int .u64 k1, .int .u64 k2, .slice k3 k4 k5, .slice k6 n6 k7] 31)) := (Below.refl _ _).alloc (Nat.le_refl _) _
  have hh0 : (w.alloc (.cells #[.int .i64 r.k, .int .u64 r.t, .int .u64 r.x, .int .u64 r.w, .int .u64 r.n, .int .u64 r.v, .int .i64 k0, .int .u64 k1, .int .u64 k2, .slice k3 k4 k5, .slice k6 n6 k7] 31)).heap[w.heap.size]? = some (.cells #[.int .i64 r.k, .int .u64 r.t, .int .u64 r.x, .int .u64 r.w, .int .u64 r.n, .int .u64 r.v, .int .i64 k0, .int .u64 k1, .int .u64 k2, .slice k3 k4 k5, .slice k6 n6 k7] 31 (0, 0)) := heap_alloc_at _ _ _ rfl
  have HL := Lib.hid ((hL.below hb0).mono hb0.size)
  have HB := Lib.hid (And.intro hb0 hh0)
  clear hn6 hkk hr he hes hL hT ht hb0 hh0
  go_enter Tryz.func230, Tryz.ntmps230
  go_wp2_with fail
  generalize hW : w.alloc (.cells #[.int .i64 r.k, .int .u64 r.t, .int .u64 r.x, .int .u64 r.w, .int .u64 r.n, .int .u64 r.v, .int .i64 k0, .int .u64 k1, .int .u64 k2, .slice k3 k4 k5, .slice k6 n6 k7] 31) = W at HL HB ⊢
  have l0 : w.heap.size < W.heap.size := (Array.getElem?_eq_some_iff.1 HB.out.2).1
  have b2 : W.cell? ⟨w.heap.size, 2, none⟩ = some (.int .u64 r.x) := by rw [cell_of_row W _ 2 _ _ _ HB.out.2]; rfl
  have b3 : W.cell? ⟨w.heap.size, 3, none⟩ = some (.int .u64 r.w) := by rw [cell_of_row W _ 3 _ _ _ HB.out.2]; rfl
  have b4 : W.cell? ⟨w.heap.size, 4, none⟩ = some (.int .u64 r.n) := by rw [cell_of_row W _ 4 _ _ _ HB.out.2]; rfl
  have b5 : W.cell? ⟨w.heap.size, 5, none⟩ = some (.int .u64 r.v) := by rw [cell_of_row W _ 5 _ _ _ HB.out.2]; rfl
  clear hW
  go_wp2_with fail
  refine (HT.out.dx W HL.out).mono ?_
  rintro e w1 ⟨rfl, hb1⟩
  have HN := Lib.hid (HB.out.1.trans (hb1.mono HB.out.1.size))
  clear hb1 b2 b3 b4 b5
  go_wp2_with fail
  go_ret
  refine ⟨_, rfl, ?_, HN.out.alloc HN.out.size _⟩
  rw [HTL.out]
  refine repS_of_block (n := 1) (cs := #[.string DX]) ⟨w1.heap.size, _, rfl, HN.out.size, heap_alloc_at _ _ _ rfl⟩ (by rw [HT.out.e2]; rfl) rfl (by omega)
end Go.Proofs.YtjedgiiplebofaaGreatDoor
namespace Go.Proofs.YtjedgiiplebofaaGreatDoor
open Go.RowKit Go
set_option linter.unusedVariables false
set_option linter.unusedSimpArgs false
theorem convB_any (S : Nat → Prop) (own : Bool) (l : List UInt8) (v : Value) (w : World) (h : RepB w S own l v) : (convert 47 9 v).run Tryz.prog w = .ok (.string ⟨l.toArray⟩) w := by
  obtain ⟨_, ad, cap, rfl, _⟩ := h.shape
  cases l with
  | nil =>
    cases ad with
    | none => rw [show ([] : List UInt8).length = 0 from rfl, run_convert_bytes_string (P := Tryz.prog) w 47 9 5 none 0 cap Tryz.underlying47 Tryz.underlying5 Tryz.underlying9]; rfl
    | some a => exact run_convert_bytes_back (P := Tryz.prog) w 47 9 5 a cap [] Tryz.underlying47 Tryz.underlying5 Tryz.underlying9 (fun j hj => by simp at hj)
  | cons c l =>
    obtain ⟨bl, off, rfl, _, hc⟩ := h.cell (by simp)
    exact run_convert_bytes_back (P := Tryz.prog) w 47 9 5 ⟨bl, off, none⟩ cap (c :: l) Tryz.underlying47 Tryz.underlying5 Tryz.underlying9 (fun j hj => by rw [Addr.add_lit]; exact (hc j hj).1)
theorem bytesEqual_any (S S' : Nat → Prop) (own own' : Bool) (l l' : List UInt8) (v v' : Value) (w : World) (h : RepB w S own l v) (h' : RepB w S' own' l' v') :
    Calls Tryz.prog 105 #[v, v'] w fun e w' => e = .returned (.bool (decide (l = l'))) ∧ w' = w := by
  have q1 := convB_any S own l v w h
  have q2 := convB_any S' own' l' v' w h'
  obtain ⟨A, hA⟩ : ∃ A : ByteArray, A = ⟨l.toArray⟩ := ⟨_, rfl⟩
  obtain ⟨B, hB⟩ : ∃ B : ByteArray, B = ⟨l'.toArray⟩ := ⟨_, rfl⟩
  rw [← hA] at q1
  rw [← hB] at q2
  have hd : (A.toList == B.toList) = decide (l = l') := by
    rw [hA, hB, ByteArray.toList_eq, ByteArray.toList_eq, Bool.eq_iff_iff]
    simp
  have HD := Lib.hid hd
  obtain ⟨_, ad, cap, rfl, _⟩ := h.shape
  obtain ⟨_, ad', cap', rfl, _⟩ := h'.shape
  clear h h' hA hB hd
  go_enter Tryz.func105, Tryz.ntmps105
  go_wp2_with fail
  go_ret
  refine ⟨ret_bool ?_, rfl⟩
  rw [← HD.out]
theorem frameSame_any (S S' : Nat → Prop) (own own' : Bool) (k k' : Nat) (l l' : List UInt8) (v v' : Value) (w : World) (h : RepB w S own l v) (h' : RepB w S' own' l' v') :
    Calls Tryz.prog 29 #[.agg #[.int .u8 (k : Nat), v], .agg #[.int .u8 (k' : Nat), v']] w fun e w' => e = .returned (.bool (decide (k = k') && decide (l = l'))) ∧ Below w.heap.size w w' := by
  obtain ⟨_, ad, cap, rfl, _⟩ := h.shape
  obtain ⟨_, ad', cap', rfl, _⟩ := h'.shape
  have hb : Below w.heap.size w ((w.alloc (.cells #[.int .u8 (k : Nat), .slice ad l.length cap] 49)).alloc (.cells #[.int .u8 (k' : Nat), .slice ad' l'.length cap'] 49)) := ((Below.refl _ _).alloc (Nat.le_refl _) _).alloc (by simp) _
  have HE := Lib.hid (bytesEqual_any S S' own own' l l' _ _ _ (h.below hb (Nat.le_refl _)) (h'.below hb (Nat.le_refl _)))
  have HB := Lib.hid hb
  clear h h' hb
  by_cases hk : k = k'
  · have t1 : ((k : Int) == (k' : Int)) = true := by simp; omega
    have HK := Lib.hid hk
    clear hk
    go_enter Tryz.func29, Tryz.ntmps29
    go_wp2_with fail
    refine HE.out.mono ?_
    rintro e w1 ⟨rfl, rfl⟩
    go_wp2_with fail
    go_ret
    exact ⟨ret_bool (by simp [HK.out]), HB.out⟩
  · have t1 : ((k : Int) == (k' : Int)) = false := by simp; omega
    have HK := Lib.hid hk
    clear hk
    go_enter Tryz.func29, Tryz.ntmps29
    go_wp2_with fail
    go_ret
    exact ⟨ret_bool (by simp [HK.out]), HB.out⟩
theorem docFewRec_any (S : Nat → Prop) (own : Bool) (r : Rec) (v : Value) (w : World) (hv : RepR w S own r v) :
    Calls Tryz.prog 25 #[v] w fun e w' => e = .returned (.bool (decide (r.es.length ≤ 60) && decide (r.p.size ≤ 60))) ∧ Below w.heap.size w w' := by
  obtain ⟨k0, k1, k2, k3, k4, k5, k6, k7, rfl, hk1, hk2, hnums, he, hes⟩ := hv.conc
  obtain ⟨n6, hn6⟩ : ∃ n6, n6 = r.es.length := ⟨_, rfl⟩
  have hb : Below w.heap.size w (w.alloc (.cells #[.int .i64 r.k, .int .u64 r.t, .int .u64 r.x, .int .u64 r.w, .int .u64 r.n, .int .u64 r.v, .int .i64 k0, .int .u64 k1, .int .u64 k2, .slice k3 k4 k5, .slice k6 n6 k7] 31)) := (Below.refl _ _).alloc (Nat.le_refl _) _
  have HE := Lib.hid (docFew_any S own r.p _ _ (he.below hb (Nat.le_refl _)))
  have HB := Lib.hid hb
  have hl := hes.shape.1
  rw [← hn6] at hl ⊢
  clear hv he hes hb hn6 hnums
  by_cases h6 : n6 ≤ 60
  · have t1 : decide ((n6 : Int) ≤ 60) = true := by simp; omega
    have HK := Lib.hid h6
    clear h6
    go_enter Tryz.func25, Tryz.ntmps25
    go_wp2_with fail
    refine HE.out.mono ?_
    rintro e w1 ⟨rfl, hb1⟩
    have HB1 := Lib.hid (HB.out.trans (hb1.mono (by simp)))
    clear hb1
    go_wp2_with fail
    go_ret
    exact ⟨ret_bool (by simp [HK.out]), HB1.out⟩
  · have t1 : decide ((n6 : Int) ≤ 60) = false := by simp; omega
    have HK := Lib.hid h6
    clear h6
    go_enter Tryz.func25, Tryz.ntmps25
    go_wp2_with fail
    go_ret
    exact ⟨ret_bool (by simp [HK.out]), HB.out⟩
end Go.Proofs.YtjedgiiplebofaaGreatDoor
