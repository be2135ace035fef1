/- Walks. -/
import Derived.Test.YtmgbhhmipmgcpaaGreatDoorQ30
import Derived.Test.YtmgbhhmipmgcpaaGreatDoorQ29
import Derived.Test.YtmgbhhmipmgcpaaGreatDoorQW29
set_option maxHeartbeats 8000000
set_option maxRecDepth 100000
namespace Go.Proofs.YtmgbhhmipmgcpaaGreatDoor
open Go.RowKit Go
set_option linter.unusedVariables false
set_option linter.unusedSimpArgs false
theorem yE (u : Nat) (h : u < 18446744073709551616) : (⟨(Lib.decDigits u).toArray⟩ : ByteArray).size ≤ 20 := by rw [← ah]; simpa using ak u h
theorem nJ (S : Nat → Prop) (l : List (List UInt8)) (v : Value) (sep : List UInt8) (w : World) (h : dm w S l v) (hl : l.length ≤ 1000000) (hlen : (Lib.join l sep).length ≤ 140737488355328) :
  Calls Tryz.prog 89 #[v, .string ⟨sep.toArray⟩] w fun e w' => e = .returned (.string ⟨(Lib.join l sep).toArray⟩) ∧ Below w.heap.size w w' := by
 obtain ⟨_, _, ad, cap, rfl, hcap⟩ := h.shape
 cases l with
 | nil =>
  refine (Tryz.strings_Join_none ad cap _ w).mono ?_
  rintro e w' ⟨rfl, rfl⟩
  exact ⟨rfl, br⟩
 | cons x r =>
  obtain ⟨bl, off, rfl, _, hc⟩ := h.at (by simp)
  have hm : ((x :: r).map fun x => (⟨x.toArray⟩ : ByteArray)).map (·.data.toList) = x :: r := by simp [Function.comp_def]
  have hs : (⟨sep.toArray⟩ : ByteArray).data.toList = sep := by simp
  have hj := Tryz.strings_Join bl off cap ((x :: r).map fun x => (⟨x.toArray⟩ : ByteArray)) ⟨sep.toArray⟩ w (fun j y hy => by
   have hjl : j < (x :: r).length := by have := (List.getElem?_eq_some_iff.1 hy).1; simpa using this
   rw [hc j hjl]
   simp only [List.getElem?_map, Option.map_eq_some_iff] at hy
   obtain ⟨z, hz, rfl⟩ := hy
   rw [(List.getElem?_eq_some_iff.1 hz).2]) (World.block_lt_of_cell? w _ (hc 0 (by simp))) (by rw [List.length_map]; omega) (by rw [List.length_map]; exact hcap) (by rw [hm, hs]; exact hlen)
  rw [hm, hs, List.length_map] at hj
  exact hj
theorem fM (a b : Nat) (w : World) (ha : a < 18446744073709551616) (hb : b < 18446744073709551616) (hL : Lv w.heap.size w) :
  Calls Tryz.prog 26 #[.agg #[.int .u64 a, .int .u64 b]] w fun e w' => e = .returned (.string ⟨(dU a b).toArray⟩) ∧ Below w.heap.size w w' := by
 have zA := yE a ha
 have zB := yE b hb
 have HD : Hid (∀ W : World, Lv W.heap.size W → Calls Tryz.prog 51 #[.int .u64 a] W fun e w' => e = .returned (.string ⟨(Lib.decDigits a).toArray⟩) ∧ Below W.heap.size W w') := hid (fun W h => bH a W ha h)
 have HE : Hid (∀ W : World, Lv W.heap.size W → Calls Tryz.prog 51 #[.int .u64 b] W fun e w' => e = .returned (.string ⟨(Lib.decDigits b).toArray⟩) ∧ Below W.heap.size W w') := hid (fun W h => bH b W hb h)
 have HT : Hid (∀ DA DB : ByteArray, DA = ⟨(Lib.decDigits a).toArray⟩ → DB = ⟨(Lib.decDigits b).toArray⟩ → DA ++ ⟨#[46]⟩ ++ DB = ⟨(dU a b).toArray⟩) := hid (by rintro _ _ rfl rfl; exact Value.string.inj (vM (by simp [dU])))
 generalize hDA : (⟨(Lib.decDigits a).toArray⟩ : ByteArray) = DA at zA HD
 generalize hDB : (⟨(Lib.decDigits b).toArray⟩ : ByteArray) = DB at zB HE
 have HAB := hid (HT.out DA DB hDA.symm hDB.symm)
 rw [← HAB.out]
 have hb0 : Below w.heap.size w (w.alloc (.cells #[.int .u64 a, .int .u64 b] 41)) := br.alloc nl _
 have hh0 : (w.alloc (.cells #[.int .u64 a, .int .u64 b] 41)).heap[w.heap.size]? = some (.cells #[.int .u64 a, .int .u64 b] 41 (0, 0)) := aa _ _ _ rfl
 have HL := hid ((hL.below hb0).mono hb0.size)
 have HB := hid (And.intro hb0 hh0)
 clear hL hDA hDB hb0 hh0 HT HAB
 go_enter Tryz.func26, Tryz.ntmps26
 go_wp2_with fail
 generalize hW : w.alloc (.cells #[.int .u64 a, .int .u64 b] 41) = W at HL HB ⊢
 have l0 : w.heap.size < W.heap.size := (Array.getElem?_eq_some_iff.1 HB.out.2).1
 have b0 : W.cell? ⟨w.heap.size, 0, none⟩ = some (.int .u64 a) := by rw [cell_of_row W _ 0 _ _ _ HB.out.2]; rfl
 have b1 : W.cell? ⟨w.heap.size, 1, none⟩ = some (.int .u64 b) := by rw [cell_of_row W _ 1 _ _ _ HB.out.2]; rfl
 clear hW
 refine aA (w0 := W) rfl [.eq (.pointer (some ⟨w.heap.size, 0, none⟩)), .eq (.int .u64 a), .eq (.string DA), .eq (.string (DA ++ ⟨#[46]⟩)), .eq (.pointer (some ⟨w.heap.size, 1, none⟩)), .eq (.int .u64 b), .eq (.string DB), .eq (.string (DA ++ ⟨#[46]⟩ ++ DB)), .eq (.string (DA ++ ⟨#[46]⟩ ++ DB))] (by kernel_rfl) ⟨?_, ?_, ?_, ?_, ?_, ?_, ?_, ?_, ?_, trivial⟩ (fun vs => [(3, (.pointer (some ⟨w.heap.size, 0, none⟩))), (4, (.int .u64 a)), (5, (.string DA)), (6, (.string (DA ++ ⟨#[46]⟩))), (7, (.pointer (some ⟨w.heap.size, 1, none⟩))), (8, (.int .u64 b)), (9, (.string DB)), (10, (.string (DA ++ ⟨#[46]⟩ ++ DB))), (2, (.string (DA ++ ⟨#[46]⟩ ++ DB)))]) (fun _ => rfl) ?_
 ·refine rs fun S a wx K Q hR hK => ?_
  have t1 : a.tmps[1]? = some (.pointer (some ⟨w.heap.size, 0, none⟩)) := hR.o 1
  go_simp
  exact hK _ _ br rfl
 ·refine rs fun S a wx K Q hR hK => ?_
  have t3 := hR.q 0
  have y0 := (hR.bel.cell l0).trans b0
  go_simp
  exact hK _ _ br rfl
 ·refine rs fun S a wx K Q hR hK => ?_
  have t4 := hR.q 1
  go_simp
  go_at_call 51
  refine (HD.out _ ((HL.out.below hR.bel).mono hR.bel.size)).mono ?_
  rintro e w' ⟨rfl, hbx⟩
  exact hK _ _ hbx rfl
 ·refine rs fun S a wx K Q hR hK => ?_
  have t5 := hR.q 2
  have q : ¬ 9223372036854775807 < DA.size + 1 := by omega
  go_simp
  (try go_ints)
  exact hK _ _ br rfl
 ·refine rs fun S a wx K Q hR hK => ?_
  have t1 : a.tmps[1]? = some (.pointer (some ⟨w.heap.size, 0, none⟩)) := hR.o 1
  go_simp
  exact hK _ _ br rfl
 ·refine rs fun S a wx K Q hR hK => ?_
  have t7 := hR.q 4
  have y0 := (hR.bel.cell l0).trans b1
  go_simp
  exact hK _ _ br rfl
 ·refine rs fun S a wx K Q hR hK => ?_
  have t8 := hR.q 5
  go_simp
  go_at_call 51
  refine (HE.out _ ((HL.out.below hR.bel).mono hR.bel.size)).mono ?_
  rintro e w' ⟨rfl, hbx⟩
  exact hK _ _ hbx rfl
 ·refine rs fun S a wx K Q hR hK => ?_
  have t6 := hR.q 3
  have t9 := hR.q 6
  have q : ¬ 9223372036854775807 < DA.size + 1 + DB.size := by omega
  go_simp
  (try go_ints)
  exact hK _ _ br rfl
 ·refine rs fun S a wx K Q hR hK => ?_
  have t10 := hR.q 7
  go_simp
  exact hK _ _ br rfl
 intro S1 vs w1 hD
 have HN := hid (HB.out.1.trans (hD.bel.mono HB.out.1.size))
 simp only [aM, List.foldl_cons, List.foldl_nil]
 clear hD b0 b1
 go_simp
 go_wp2_with fail
 go_ret
 exact ⟨rfl, HN.out⟩
def jU (k fid : Nat) : Prop := ∀ (S : Nat → Prop) (own : Bool) (r : Rec) (k0 : Int) (k1 k2 : Nat) (k3 : Option Addr) (k4 k5 : Nat) (k6 : Option Addr) (n6 k7 : Nat) (w : World), n6 = r.es.length → r.k = (k : Int) → r.p.size ≤ 900 → r.es.length ≤ 10000 → r.nums → r.right = true →
 av w S own r.p (.agg #[.int .i64 k0, .int .u64 k1, .int .u64 k2, .slice k3 k4 k5]) → bZ w S own r.es (.slice k6 n6 k7) → Lv w.heap.size w →
 Calls Tryz.prog fid #[.agg #[.int .i64 r.k, .int .u64 r.t, .int .u64 r.x, .int .u64 r.w, .int .u64 r.n, .int .u64 r.v, .int .i64 k0, .int .u64 k1, .int .u64 k2, .slice k3 k4 k5, .slice k6 n6 k7]] w fun e w' => ∃ v, e = .returned v ∧ dm w' (fun b => w.heap.size ≤ b) r.tail v ∧ Below w.heap.size w w'
theorem gH {w : World} {S : Nat → Prop} {v : Value} {n : Nat} {l : List (List UInt8)} {cs : Array Value} (h : gY n n cs S v w) (hcs : cs.toList = strs l) (hn : n = l.length) (hl : n ≤ 9223372036854775807) : dm w S l v := by
 obtain ⟨g, T, rfl, hS, hh⟩ := h
 refine ⟨by simp [bU], by omega, _, _, by rw [hn], by omega, fun _ => ⟨g, 0, rfl, hS, fun j hj => ?_⟩⟩
 rw [cell_of_row w g (0 + j) cs T (0, 0) hh]
 refine ⟨?_, fun _ => by rw [frozen_of_row w _ _ _ _ hh]⟩
 rw [Nat.zero_add, ← Array.getElem?_toList, hcs]
 exact List.getElem?_eq_getElem hj
structure Tp (r : Rec) (DX DV TO : ByteArray) : Prop where
 dx : ∀ W : World, Lv W.heap.size W → Calls Tryz.prog 51 #[.int .u64 r.x] W fun e w' => e = .returned (.string DX) ∧ Below W.heap.size W w'
 dv : ∀ W : World, Lv W.heap.size W → Calls Tryz.prog 51 #[.int .u64 r.v] W fun e w' => e = .returned (.string DV) ∧ Below W.heap.size W w'
 tt : ∀ W : World, Lv W.heap.size W → Calls Tryz.prog 26 #[.agg #[.int .u64 r.w, .int .u64 r.n]] W fun e w' => e = .returned (.string TO) ∧ Below W.heap.size W w'
 e2 : DX = ⟨(Lib.decDigits r.x).toArray⟩
 e3 : DV = ⟨(Lib.decDigits r.v).toArray⟩
 e4 : TO = ⟨(dU r.w r.n).toArray⟩
theorem Tp.mk' (r : Rec) (h : r.nums) : ∃ DX DV TO, Tp r DX DV TO :=
 ⟨_, _, _, fun W hL => bH _ W h.2.1 hL, fun W hL => bH _ W h.2.2.2.2.1 hL, fun W hL => fM _ _ W h.2.2.1 h.2.2.2.1 hL, rfl, rfl, rfl⟩
theorem iG (k : Nat) (hk : k = 1 ∨ k = 6 ∨ k = 7) : jU k 82 := by
 intro S own r k0 k1 k2 k3 k4 k5 k6 n6 k7 w hn6 hkk hsz hle hnums hr he hes hL
 have ht : r.tail = [] := by unfold Rec.tail; rw [if_neg (by omega), if_neg (by omega), if_neg (by omega), if_neg (by omega)]
 have HT := hid ht
 clear he hes hL ht hkk hk hn6 hr
 go_enter Tryz.func82, Tryz.ntmps82
 go_wp2_with fail
 go_ret
 refine ⟨_, rfl, ?_, br.alloc nl _⟩
 rw [HT.out]
 exact Sl.nil _ _ _ _
theorem qH : jU 2 118 := by
 intro S own r k0 k1 k2 k3 k4 k5 k6 n6 k7 w hn6 hkk hsz hle hnums hr he hes hL
 have ht : r.tail = [Lib.decDigits r.x, dU r.w r.n] := by unfold Rec.tail; simp [hkk]
 obtain ⟨DX, DV, TO, hT⟩ := Tp.mk' r hnums
 have HT := hid hT
 have HTL := hid ht
 have hb0 : Below w.heap.size w (w.alloc (.cells #[.int .i64 r.k, .int .u64 r.t, .int .u64 r.x, .int .u64 r.w, .int .u64 r.n, .int .u64 r.v, .int .i64 k0, .int .u64 k1, .int .u64 k2, .slice k3 k4 k5, .slice k6 n6 k7] 47)) := br.alloc nl _
 have hh0 : (w.alloc (.cells #[.int .i64 r.k, .int .u64 r.t, .int .u64 r.x, .int .u64 r.w, .int .u64 r.n, .int .u64 r.v, .int .i64 k0, .int .u64 k1, .int .u64 k2, .slice k3 k4 k5, .slice k6 n6 k7] 47)).heap[w.heap.size]? = some (.cells #[.int .i64 r.k, .int .u64 r.t, .int .u64 r.x, .int .u64 r.w, .int .u64 r.n, .int .u64 r.v, .int .i64 k0, .int .u64 k1, .int .u64 k2, .slice k3 k4 k5, .slice k6 n6 k7] 47 (0, 0)) := aa _ _ _ rfl
 have HL := hid ((hL.below hb0).mono hb0.size)
 have HB := hid (And.intro hb0 hh0)
 clear hn6 hkk hr he hes hL hT ht hb0 hh0
 go_enter Tryz.func118, Tryz.ntmps118
 go_wp2_with fail
 generalize hW : w.alloc (.cells #[.int .i64 r.k, .int .u64 r.t, .int .u64 r.x, .int .u64 r.w, .int .u64 r.n, .int .u64 r.v, .int .i64 k0, .int .u64 k1, .int .u64 k2, .slice k3 k4 k5, .slice k6 n6 k7] 47) = W at HL HB ⊢
 have l0 : w.heap.size < W.heap.size := (Array.getElem?_eq_some_iff.1 HB.out.2).1
 have b2 : W.cell? ⟨w.heap.size, 2, none⟩ = some (.int .u64 r.x) := by rw [cell_of_row W _ 2 _ _ _ HB.out.2]; rfl
 have b3 : W.cell? ⟨w.heap.size, 3, none⟩ = some (.int .u64 r.w) := by rw [cell_of_row W _ 3 _ _ _ HB.out.2]; rfl
 have b4 : W.cell? ⟨w.heap.size, 4, none⟩ = some (.int .u64 r.n) := by rw [cell_of_row W _ 4 _ _ _ HB.out.2]; rfl
 have b5 : W.cell? ⟨w.heap.size, 5, none⟩ = some (.int .u64 r.v) := by rw [cell_of_row W _ 5 _ _ _ HB.out.2]; rfl
 clear hW
 refine aA (w0 := W) rfl [.eq (.pointer (some ⟨w.heap.size, 2, none⟩)), .eq (.int .u64 r.x), .eq (.string DX), .eq (.pointer (some ⟨w.heap.size, 3, none⟩)), .eq (.agg #[.int .u64 r.w, .int .u64 r.n]), .eq (.string TO), .of (gY 2 2 #[.string DX, .string TO]), .of (gY 2 2 #[.string DX, .string TO])] (by kernel_rfl) ⟨?_, ?_, ?_, ?_, ?_, ?_, ?_, ?_, ?_, ?_, trivial⟩ (fun vs => [(3, (.pointer (some ⟨w.heap.size, 2, none⟩))), (4, (.int .u64 r.x)), (5, (.string DX)), (6, (.pointer (some ⟨w.heap.size, 3, none⟩))), (7, (.agg #[.int .u64 r.w, .int .u64 r.n])), (8, (.string TO)), (9, vs 6), (2, vs 7)]) (fun _ => rfl) ?_
 ·refine rs fun S a wx K Q hR hK => ?_
  have t1 : a.tmps[1]? = some (.pointer (some ⟨w.heap.size, 0, none⟩)) := hR.o 1
  go_simp
  exact hK _ _ br rfl
 ·refine rs fun S a wx K Q hR hK => ?_
  have t3 := hR.q 0
  have y0 := (hR.bel.cell l0).trans b2
  go_simp
  exact hK _ _ br rfl
 ·refine rs fun S a wx K Q hR hK => ?_
  have t4 := hR.q 1
  go_simp
  go_at_call 51
  refine (HT.out.dx _ ((HL.out.below hR.bel).mono hR.bel.size)).mono ?_
  rintro e w' ⟨rfl, hbx⟩
  exact hK _ _ hbx rfl
 ·refine rs fun S a wx K Q hR hK => ?_
  have t1 : a.tmps[1]? = some (.pointer (some ⟨w.heap.size, 0, none⟩)) := hR.o 1
  go_simp
  exact hK _ _ br rfl
 ·refine rs fun S a wx K Q hR hK => ?_
  have t6 := hR.q 3
  have y0 := (hR.bel.cell l0).trans b3
  have y1 := (hR.bel.cell l0).trans b4
  go_simp
  exact hK _ _ br rfl
 ·refine rs fun S a wx K Q hR hK => ?_
  have t7 := hR.q 4
  go_simp
  go_at_call 26
  refine (HT.out.tt _ ((HL.out.below hR.bel).mono hR.bel.size)).mono ?_
  rintro e w' ⟨rfl, hbx⟩
  exact hK _ _ hbx rfl
 ·exact fC _ _ _
 ·refine rs fun S a wx K Q hR hK => ?_
  have t5 := hR.q 2
  have t8 := hR.q 5
  go_simp
  exact hK _ _ (br.alloc nl _) ⟨_, _, rfl, hR.new _ nl, aa _ _ _ rfl⟩
 ·exact fC _ _ _
 ·refine rs fun S a wx K Q hR hK => ?_
  obtain ⟨u9, t9, f9⟩ := hR.f 6
  obtain ⟨g9, T9, rfl, hS9, hh9⟩ := (show gY 2 2 #[.string DX, .string TO] S u9 wx from f9)
  go_simp
  exact hK _ _ br ⟨g9, T9, rfl, hS9, hh9⟩
 intro S1 vs w1 hD
 have hfin : dm w1 (fun b => w.heap.size ≤ b) r.tail (vs 7) := by
  rw [HTL.out]
  have h1 := Sl.keep (S' := fun b => w.heap.size ≤ b) (gH (l := [Lib.decDigits r.x, dU r.w r.n]) (hD.ofs 7 _ rfl) (by rw [HT.out.e2, HT.out.e4]; rfl) rfl (by omega)) (by omega) (fun _ _ _ => rfl) (fun b _ hb => Nat.le_trans HB.out.1.size (hD.low b hb))
  exact h1
 have hbl := hD.bel
 obtain ⟨_, vad, vcap, hvs, _⟩ := hfin.shape.2
 rw [hvs] at hfin
 have HN := hid (And.intro hfin (HB.out.1.trans (hbl.mono HB.out.1.size)))
 simp only [aM, List.foldl_cons, List.foldl_nil]
 rw [hvs]
 clear hD b2 b3 b4 b5 hfin hbl hvs
 go_simp
 go_wp2_with fail
 go_ret
 exact ⟨_, rfl, HN.out.1, HN.out.2⟩
theorem oV : jU 3 124 := by
 intro S own r k0 k1 k2 k3 k4 k5 k6 n6 k7 w hn6 hkk hsz hle hnums hr he hes hL
 have ht : r.tail = [Lib.decDigits r.x, Lib.decDigits r.v] := by unfold Rec.tail; simp [hkk]
 obtain ⟨DX, DV, TO, hT⟩ := Tp.mk' r hnums
 have HT := hid hT
 have HTL := hid ht
 have hb0 : Below w.heap.size w (w.alloc (.cells #[.int .i64 r.k, .int .u64 r.t, .int .u64 r.x, .int .u64 r.w, .int .u64 r.n, .int .u64 r.v, .int .i64 k0, .int .u64 k1, .int .u64 k2, .slice k3 k4 k5, .slice k6 n6 k7] 47)) := br.alloc nl _
 have hh0 : (w.alloc (.cells #[.int .i64 r.k, .int .u64 r.t, .int .u64 r.x, .int .u64 r.w, .int .u64 r.n, .int .u64 r.v, .int .i64 k0, .int .u64 k1, .int .u64 k2, .slice k3 k4 k5, .slice k6 n6 k7] 47)).heap[w.heap.size]? = some (.cells #[.int .i64 r.k, .int .u64 r.t, .int .u64 r.x, .int .u64 r.w, .int .u64 r.n, .int .u64 r.v, .int .i64 k0, .int .u64 k1, .int .u64 k2, .slice k3 k4 k5, .slice k6 n6 k7] 47 (0, 0)) := aa _ _ _ rfl
 have HL := hid ((hL.below hb0).mono hb0.size)
 have HB := hid (And.intro hb0 hh0)
 clear hn6 hkk hr he hes hL hT ht hb0 hh0
 go_enter Tryz.func124, Tryz.ntmps124
 go_wp2_with fail
 generalize hW : w.alloc (.cells #[.int .i64 r.k, .int .u64 r.t, .int .u64 r.x, .int .u64 r.w, .int .u64 r.n, .int .u64 r.v, .int .i64 k0, .int .u64 k1, .int .u64 k2, .slice k3 k4 k5, .slice k6 n6 k7] 47) = W at HL HB ⊢
 have l0 : w.heap.size < W.heap.size := (Array.getElem?_eq_some_iff.1 HB.out.2).1
 have b2 : W.cell? ⟨w.heap.size, 2, none⟩ = some (.int .u64 r.x) := by rw [cell_of_row W _ 2 _ _ _ HB.out.2]; rfl
 have b3 : W.cell? ⟨w.heap.size, 3, none⟩ = some (.int .u64 r.w) := by rw [cell_of_row W _ 3 _ _ _ HB.out.2]; rfl
 have b4 : W.cell? ⟨w.heap.size, 4, none⟩ = some (.int .u64 r.n) := by rw [cell_of_row W _ 4 _ _ _ HB.out.2]; rfl
 have b5 : W.cell? ⟨w.heap.size, 5, none⟩ = some (.int .u64 r.v) := by rw [cell_of_row W _ 5 _ _ _ HB.out.2]; rfl
 clear hW
 refine aA (w0 := W) rfl [.eq (.pointer (some ⟨w.heap.size, 2, none⟩)), .eq (.int .u64 r.x), .eq (.string DX), .eq (.pointer (some ⟨w.heap.size, 5, none⟩)), .eq (.int .u64 r.v), .eq (.string DV), .of (gY 2 2 #[.string DX, .string DV]), .of (gY 2 2 #[.string DX, .string DV])] (by kernel_rfl) ⟨?_, ?_, ?_, ?_, ?_, ?_, ?_, ?_, ?_, ?_, trivial⟩ (fun vs => [(3, (.pointer (some ⟨w.heap.size, 2, none⟩))), (4, (.int .u64 r.x)), (5, (.string DX)), (6, (.pointer (some ⟨w.heap.size, 5, none⟩))), (7, (.int .u64 r.v)), (8, (.string DV)), (9, vs 6), (2, vs 7)]) (fun _ => rfl) ?_
 ·refine rs fun S a wx K Q hR hK => ?_
  have t1 : a.tmps[1]? = some (.pointer (some ⟨w.heap.size, 0, none⟩)) := hR.o 1
  go_simp
  exact hK _ _ br rfl
 ·refine rs fun S a wx K Q hR hK => ?_
  have t3 := hR.q 0
  have y0 := (hR.bel.cell l0).trans b2
  go_simp
  exact hK _ _ br rfl
 ·refine rs fun S a wx K Q hR hK => ?_
  have t4 := hR.q 1
  go_simp
  go_at_call 51
  refine (HT.out.dx _ ((HL.out.below hR.bel).mono hR.bel.size)).mono ?_
  rintro e w' ⟨rfl, hbx⟩
  exact hK _ _ hbx rfl
 ·refine rs fun S a wx K Q hR hK => ?_
  have t1 : a.tmps[1]? = some (.pointer (some ⟨w.heap.size, 0, none⟩)) := hR.o 1
  go_simp
  exact hK _ _ br rfl
 ·refine rs fun S a wx K Q hR hK => ?_
  have t6 := hR.q 3
  have y0 := (hR.bel.cell l0).trans b5
  go_simp
  exact hK _ _ br rfl
 ·refine rs fun S a wx K Q hR hK => ?_
  have t7 := hR.q 4
  go_simp
  go_at_call 51
  refine (HT.out.dv _ ((HL.out.below hR.bel).mono hR.bel.size)).mono ?_
  rintro e w' ⟨rfl, hbx⟩
  exact hK _ _ hbx rfl
 ·exact fC _ _ _
 ·refine rs fun S a wx K Q hR hK => ?_
  have t5 := hR.q 2
  have t8 := hR.q 5
  go_simp
  exact hK _ _ (br.alloc nl _) ⟨_, _, rfl, hR.new _ nl, aa _ _ _ rfl⟩
 ·exact fC _ _ _
 ·refine rs fun S a wx K Q hR hK => ?_
  obtain ⟨u9, t9, f9⟩ := hR.f 6
  obtain ⟨g9, T9, rfl, hS9, hh9⟩ := (show gY 2 2 #[.string DX, .string DV] S u9 wx from f9)
  go_simp
  exact hK _ _ br ⟨g9, T9, rfl, hS9, hh9⟩
 intro S1 vs w1 hD
 have hfin : dm w1 (fun b => w.heap.size ≤ b) r.tail (vs 7) := by
  rw [HTL.out]
  have h1 := Sl.keep (S' := fun b => w.heap.size ≤ b) (gH (l := [Lib.decDigits r.x, Lib.decDigits r.v]) (hD.ofs 7 _ rfl) (by rw [HT.out.e2, HT.out.e3]; rfl) rfl (by omega)) (by omega) (fun _ _ _ => rfl) (fun b _ hb => Nat.le_trans HB.out.1.size (hD.low b hb))
  exact h1
 have hbl := hD.bel
 obtain ⟨_, vad, vcap, hvs, _⟩ := hfin.shape.2
 rw [hvs] at hfin
 have HN := hid (And.intro hfin (HB.out.1.trans (hbl.mono HB.out.1.size)))
 simp only [aM, List.foldl_cons, List.foldl_nil]
 rw [hvs]
 clear hD b2 b3 b4 b5 hfin hbl hvs
 go_simp
 go_wp2_with fail
 go_ret
 exact ⟨_, rfl, HN.out.1, HN.out.2⟩
theorem mR : jU 4 129 := by
 intro S own r k0 k1 k2 k3 k4 k5 k6 n6 k7 w hn6 hkk hsz hle hnums hr he hes hL
 have ht : r.tail = [Lib.decDigits r.x] := by unfold Rec.tail; simp [hkk]
 obtain ⟨DX, DV, TO, hT⟩ := Tp.mk' r hnums
 have HT := hid hT
 have HTL := hid ht
 have hb0 : Below w.heap.size w (w.alloc (.cells #[.int .i64 r.k, .int .u64 r.t, .int .u64 r.x, .int .u64 r.w, .int .u64 r.n, .int .u64 r.v, .int .i64 k0, .int .u64 k1, .int .u64 k2, .slice k3 k4 k5, .slice k6 n6 k7] 47)) := br.alloc nl _
 have hh0 : (w.alloc (.cells #[.int .i64 r.k, .int .u64 r.t, .int .u64 r.x, .int .u64 r.w, .int .u64 r.n, .int .u64 r.v, .int .i64 k0, .int .u64 k1, .int .u64 k2, .slice k3 k4 k5, .slice k6 n6 k7] 47)).heap[w.heap.size]? = some (.cells #[.int .i64 r.k, .int .u64 r.t, .int .u64 r.x, .int .u64 r.w, .int .u64 r.n, .int .u64 r.v, .int .i64 k0, .int .u64 k1, .int .u64 k2, .slice k3 k4 k5, .slice k6 n6 k7] 47 (0, 0)) := aa _ _ _ rfl
 have HL := hid ((hL.below hb0).mono hb0.size)
 have HB := hid (And.intro hb0 hh0)
 clear hn6 hkk hr he hes hL hT ht hb0 hh0
 go_enter Tryz.func129, Tryz.ntmps129
 go_wp2_with fail
 generalize hW : w.alloc (.cells #[.int .i64 r.k, .int .u64 r.t, .int .u64 r.x, .int .u64 r.w, .int .u64 r.n, .int .u64 r.v, .int .i64 k0, .int .u64 k1, .int .u64 k2, .slice k3 k4 k5, .slice k6 n6 k7] 47) = W at HL HB ⊢
 have l0 : w.heap.size < W.heap.size := (Array.getElem?_eq_some_iff.1 HB.out.2).1
 have b2 : W.cell? ⟨w.heap.size, 2, none⟩ = some (.int .u64 r.x) := by rw [cell_of_row W _ 2 _ _ _ HB.out.2]; rfl
 have b3 : W.cell? ⟨w.heap.size, 3, none⟩ = some (.int .u64 r.w) := by rw [cell_of_row W _ 3 _ _ _ HB.out.2]; rfl
 have b4 : W.cell? ⟨w.heap.size, 4, none⟩ = some (.int .u64 r.n) := by rw [cell_of_row W _ 4 _ _ _ HB.out.2]; rfl
 have b5 : W.cell? ⟨w.heap.size, 5, none⟩ = some (.int .u64 r.v) := by rw [cell_of_row W _ 5 _ _ _ HB.out.2]; rfl
 clear hW
 go_wp2_with fail
 refine (HT.out.dx W HL.out).mono ?_
 rintro e w1 ⟨rfl, hb1⟩
 have HN := hid (HB.out.1.trans (hb1.mono HB.out.1.size))
 clear hb1 b2 b3 b4 b5
 go_wp2_with fail
 go_ret
 refine ⟨_, rfl, ?_, HN.out.alloc HN.out.size _⟩
 rw [HTL.out]
 refine gH (n := 1) (cs := #[.string DX]) ⟨w1.heap.size, _, rfl, HN.out.size, aa _ _ _ rfl⟩ (by rw [HT.out.e2]; rfl) rfl (by omega)
theorem oW (e : Ent) : Lib.join [Lib.decDigits e.x, dU e.w e.n, cB e.m] [58] = e.told := by
 rw [Lib.join_cons]
 simp [Lib.joinTail, Ent.told]
theorem sD (m : Bool) (q : Nat) (hq : q = if m then 1 else 0) : Lib.decDigits q = cB m := by
 subst hq
 cases m
 ·simp [cB, Lib.decDigits]
 ·simp [cB, Lib.decDigits]
structure Te (x a n : Nat) (m : Bool) (q : Nat) (EX EV EF EN : ByteArray) : Prop where
 dx : ∀ W : World, Lv W.heap.size W → Calls Tryz.prog 51 #[.int .u64 (x : Nat)] W fun r w' => r = .returned (.string EX) ∧ Below W.heap.size W w'
 tt : ∀ W : World, Lv W.heap.size W → Calls Tryz.prog 26 #[.agg #[.int .u64 (a : Nat), .int .u64 (n : Nat)]] W fun r w' => r = .returned (.string EV) ∧ Below W.heap.size W w'
 fl : ∀ W : World, Calls Tryz.prog 136 #[.bool m] W fun r w' => r = .returned (.int .u8 (q : Int)) ∧ w' = W
 df : ∀ W : World, Lv W.heap.size W → Calls Tryz.prog 51 #[.int .u64 (q : Nat)] W fun r w' => r = .returned (.string EF) ∧ Below W.heap.size W w'
 jn : ∀ W : World, Calls Tryz.prog 89 #[.slice (some ⟨W.heap.size, 0, none⟩) 3 3, .string ⟨#[58]⟩] (W.alloc (.cells #[.string EX, .string EV, .string EF] 9)) fun r w' => r = .returned (.string EN) ∧ Below W.heap.size W w'
 en : EN = ⟨(Ent.told ⟨x, a, n, m⟩).toArray⟩
theorem Te.mk' (x a n : Nat) (m : Bool) (h : Ent.ok ⟨x, a, n, m⟩) (q : Nat) (hq : q = if m then 1 else 0) : ∃ EX EV EF EN, Te x a n m q EX EV EF EN := by
 have hq2 : q < 18446744073709551616 := by rw [hq]; split <;> omega
 have hfd := sD m q hq
 have e := oW ⟨x, a, n, m⟩
 simp only at e
 have hl : (Lib.join [Lib.decDigits x, dU a n, cB m] [58]).length ≤ 140737488355328 := by
  rw [e]
  have h1 := ak _ h.1
  have h2 := ak _ h.2.1
  have h3 := ak _ h.2.2
  have h4 : (cB m).length = 1 := by unfold cB; split <;> rfl
  simp only [Ent.told, dU, List.length_append, List.length_cons] at h1 h2 h3 ⊢; omega
 refine ⟨_, _, ⟨(cB m).toArray⟩, ⟨(Ent.told ⟨x, a, n, m⟩).toArray⟩, fun W hL => bH _ W h.1 hL, fun W hL => fM _ _ W h.2.1 h.2.2 hL, fun W => ?_, fun W hL => ?_, fun W => ?_, rfl⟩
 ·refine (kC m q hq W).mono ?_
  rintro r w' ⟨rfl, rfl⟩
  exact ⟨rfl, rfl⟩
 ·rw [← hfd]; exact bH _ W hq2 hL
 ·have hj := nJ _ [Lib.decDigits x, dU a n, cB m] _ [58] _ (dm.alloc W [Lib.decDigits x, dU a n, cB m] 9 (by simp)) (by simp) hl
  rw [e] at hj
  refine Calls.mono hj ?_
  rintro r w' ⟨rfl, hb⟩
  exact ⟨rfl, (br.alloc nl _).trans (hb.mono (by simp))⟩
theorem qI : jU 5 140 := by
 intro S own r k0 k1 k2 k3 k4 k5 k6 n6 k7 w hn6 hkk hsz hle hnums hr he hes hL
 obtain ⟨i0, hi0, hz0, hz1, hz2⟩ := info_parts nZ
 have HI := hid (And.intro hi0 (And.intro hz0 (And.intro hz1 hz2)))
 clear hi0 hz0 hz1 hz2
 have htl : r.tail = r.p.told :: r.es.map Ent.told := by unfold Rec.tail; simp [hkk]
 have hpr : r.p.right = true := ((Rec.right_iff r).1 hr).2.2.1 hkk
 have hpt : r.p.text = r.p.told := by unfold Ex.text; simp [hpr]
 have hb0 : Below w.heap.size w (w.alloc (.cells #[.int .i64 r.k, .int .u64 r.t, .int .u64 r.x, .int .u64 r.w, .int .u64 r.n, .int .u64 r.v, .int .i64 k0, .int .u64 k1, .int .u64 k2, .slice k3 k4 k5, .slice k6 n6 k7] 47)) := br.alloc nl _
 have hh0 : (w.alloc (.cells #[.int .i64 r.k, .int .u64 r.t, .int .u64 r.x, .int .u64 r.w, .int .u64 r.n, .int .u64 r.v, .int .i64 k0, .int .u64 k1, .int .u64 k2, .slice k3 k4 k5, .slice k6 n6 k7] 47)).heap[w.heap.size]? = some (.cells #[.int .i64 r.k, .int .u64 r.t, .int .u64 r.x, .int .u64 r.w, .int .u64 r.n, .int .u64 r.v, .int .i64 k0, .int .u64 k1, .int .u64 k2, .slice k3 k4 k5, .slice k6 n6 k7] 47 (0, 0)) := aa _ _ _ rfl
 have HL0 := hid ((hL.below hb0).mono hb0.size)
 have HL := hid hL
 have HB0 := hid (And.intro hb0 hh0)
 have HN := hid (And.intro hn6 (And.intro htl (And.intro he hes)))
 have HPT := hid hpt
 rw [← hn6] at hle
 clear hn6 hkk hr he hes hL hb0 hh0 htl hpr hpt
 go_enter Tryz.func140, Tryz.ntmps140
 go_wp2_with fail
 refine (oh S own r.p _ _ hsz (HN.out.2.2.1.below HB0.out.1 nl) HL0.out).mono ?_
 rintro e w1 ⟨rfl, hb1⟩
 rw [HPT.out]
 obtain ⟨PT, hPT⟩ : ∃ PT : ByteArray, PT = ⟨r.p.told.toArray⟩ := ⟨_, rfl⟩
 rw [← hPT]
 have hz1 := hb1.size
 simp only [World.size_alloc] at hz1
 have hh1 : w1.heap[w.heap.size]? = some (.cells #[.int .i64 r.k, .int .u64 r.t, .int .u64 r.x, .int .u64 r.w, .int .u64 r.n, .int .u64 r.v, .int .i64 k0, .int .u64 k1, .int .u64 k2, .slice k3 k4 k5, .slice k6 n6 k7] 47 (0, 0)) := (hb1.block _ (by simp)).trans HB0.out.2
 have b10 : w1.cell? ⟨w.heap.size, 10, none⟩ = some (.slice k6 n6 k7) := by rw [cell_of_row w1 _ 10 _ _ _ hh1]; rfl
 have hB1 : Below w.heap.size w w1 := HB0.out.1.trans (hb1.mono (by simp))
 have l0 : w.heap.size < w1.heap.size := by omega
 obtain ⟨base, hbase⟩ : ∃ base, base = w1.heap.size := ⟨_, rfl⟩
 have HPH := hid (And.intro hPT hbase)
 have HB1 := hid hB1
 clear hb1 hh1 hB1 hPT hbase
 go_wp2_with fail
 go_loopw [3, 13] (fun sl i wr => ∃ j : Nat, j ≤ n6 ∧ i = .int .i64 (j : Nat) ∧ Below w.heap.size w wr ∧ base ≤ wr.heap.size ∧ wr.ownsRow base 9 1 sl (j + 1) (strs (r.p.told :: (r.es.take j).map Ent.told))) (fun _ i _ => n6 - (intOf i).toNat)
 case atStart =>
  refine ⟨0, by omega, rfl, HB1.out.alloc HB1.out.size _, by rw [HPH.out.2]; simp, ?_⟩
  rw [HPH.out.2]
  have h := ownsRow_lit w1 w1.heap.size #[.string PT] 9 nl (by simp)
  rw [HPH.out.1] at h ⊢
  exact h
 case round =>
  obtain ⟨j, hj, rfl, hbel, hbs, hown⟩ := hrel
  by_cases hlt : j < n6
  ·have hltE : j < r.es.length := by rw [← HN.out.1]; exact hlt
   have hes := HN.out.2.2.2
   rw [HN.out.1] at hes
   obtain ⟨bl, off, hk6, _, d0, d1, d2, d3, _⟩ := (hes.below hbel nl).part j hltE
   have hok := hnums.2.2.2.2.2.2 r.es[j] (List.getElem_mem hltE)
   have htk := bI r.es j hltE
   obtain ⟨en, hen⟩ : ∃ en, en = r.es[j] := ⟨_, rfl⟩
   rw [← hen] at d0 d1 d2 d3 hok htk
   have HTK := hid htk
   obtain ⟨X, Wn, Nn, M⟩ := en
   simp only at d0 d1 d2 d3
   obtain ⟨q, hq⟩ : ∃ q : Nat, q = if M then 1 else 0 := ⟨_, rfl⟩
   have hq2 : q ≤ 1 := by rw [hq]; split <;> omega
   obtain ⟨EX, EV, EF, EN, hTe⟩ := Te.mk' X Wn Nn M hok q hq
   have HTE := hid hTe
   obtain ⟨sa, sc, rfl⟩ := ag hown
   have hob := hown.lt
   have HLv := hid ((HL.out.below hbel).mono hbel.size)
   have HO := hid (And.intro hbel hown)
   have hqw : IntKind.u64.wrap (q : Int) = (q : Int) := by rw [IntKind.wrap_u64]; omega
   have y1 : (0 : Int) ≤ (q : Int) := by omega
   have y2 : (q : Int) < 256 := by omega
   have hlrs := hbel.size
   rw [hk6]
   clear hes hk6 hok hq hTe hown hbel htk hen b10
   go_wp2_with fail
   obtain ⟨w3, hw3⟩ : ∃ w3, w3 = wr.alloc (.cells #[.int .u64 (X : Nat), .int .u64 (Wn : Nat), .int .u64 (Nn : Nat), .bool M] 78) := ⟨_, rfl⟩
   obtain ⟨eb, heb⟩ : ∃ eb, eb = wr.heap.size := ⟨_, rfl⟩
   have hb3 : Below wr.heap.size wr w3 := by rw [hw3]; exact br.alloc nl _
   have hh3 : w3.heap[eb]? = some (.cells #[.int .u64 (X : Nat), .int .u64 (Wn : Nat), .int .u64 (Nn : Nat), .bool M] 78 (0, 0)) := by rw [hw3, heb]; exact aa _ _ _ rfl
   have l3 : eb < w3.heap.size := (Array.getElem?_eq_some_iff.1 hh3).1
   have g0 : w3.cell? ⟨eb, 0, none⟩ = some (.int .u64 (X : Nat)) := by rw [cell_of_row w3 _ 0 _ _ _ hh3]; rfl
   have g1 : w3.cell? ⟨eb, 1, none⟩ = some (.int .u64 (Wn : Nat)) := by rw [cell_of_row w3 _ 1 _ _ _ hh3]; rfl
   have g2 : w3.cell? ⟨eb, 2, none⟩ = some (.int .u64 (Nn : Nat)) := by rw [cell_of_row w3 _ 2 _ _ _ hh3]; rfl
   have g3 : w3.cell? ⟨eb, 3, none⟩ = some (.bool M) := by rw [cell_of_row w3 _ 3 _ _ _ hh3]; rfl
   rw [← hw3, ← heb]
   have hz3 := hb3.size
   have heb2 : wr.heap.size ≤ eb := by omega
   have HB3 := hid hb3
   have HL3 := hid ((HLv.out.below hb3).mono hb3.size)
   have HO3 := hid (ownsRow_below HO.out.2 hb3 nl)
   clear hw3 hb3 hh3 heb d0 d1 d2 d3
   have hbW : Below w3.heap.size w3 w3 := br
   go_region_held3 (fun w' => w'.cell? ⟨eb, 0, none⟩ = some (.int .u64 (X : Nat)) ∧ w'.cell? ⟨eb, 1, none⟩ = some (.int .u64 (Wn : Nat)) ∧ w'.cell? ⟨eb, 2, none⟩ = some (.int .u64 (Nn : Nat)) ∧ w'.cell? ⟨eb, 3, none⟩ = some (.bool M))
    (first
     | exact ⟨(hbW.cell l3).trans g0, (hbW.cell l3).trans g1, (hbW.cell l3).trans g2, (hbW.cell l3).trans g3⟩
     | exact ⟨k0, k1, k2, k3⟩
     | go_keep)
    (first
     | (go_at_call 51; go_fit (HTE.out.dx _ (by first | exact (HL3.out.below hbW).mono hbW.size | exact (HL3.out.below hbW.drew).mono hbW.drew.size)); rintro e w4 ⟨rfl, hbx⟩; replace hbW := (by first | exact hbW.drew.trans (hbx.mono hbW.size) | exact hbW.trans (hbx.mono hbW.size)); clear hbx)
     | (go_at_call 26; go_fit (HTE.out.tt _ ((HL3.out.below hbW).mono hbW.size)); rintro e w5 ⟨rfl, hbx⟩; replace hbW := hbW.trans (hbx.mono hbW.size); clear hbx)
     | (go_at_call 136; go_fit (HTE.out.fl _); rintro e w6 ⟨rfl, rfl⟩)
     | (go_at_call 51; go_fit (HTE.out.df _ ((HL3.out.below hbW).mono hbW.size)); rintro e w7 ⟨rfl, hbx⟩; replace hbW := hbW.trans (hbx.mono hbW.size); clear hbx)
     | (go_at_call 89; go_fit (HTE.out.jn _); rintro e w8 ⟨rfl, hbx⟩; replace hbW := hbW.trans (hbx.mono hbW.size); clear hbx)
     | (refine step_append_lies _ (by rfl) (.tmp 17) (.tmp 31) 76 (by rfl) base 9 i0 _ 1 16 Tryz.underlying76 HI.out.1 HI.out.2.1 HI.out.2.2.1 HI.out.2.2.2 rfl (by omega) (.slice sa (j + 1) sc) (j + 1) (strs (r.p.told :: (r.es.take j).map Ent.told)) (by rfl) ((ownsRow_below HO3.out hbW nl).alloc _) ⟨w8.heap.size, 0, none⟩ 1 1 [.string EN] (by rfl) (by rfl) (World.news_of_block (cs := #[.string EN]) (t := 9) (fr := (0, 0)) (heap_alloc_new w8 _)) (by simp [Value.oneCell']) (by omega) (by unfold maxLen; omega) (by omega) (by have := hbW.size; simp at this ⊢; omega) (w8.heap.size + 1) (by simp) ?_; intro gg gcap w9 hown2 hgrow hat hlt2
        have hne : some eb ≠ (Value.slice sa (j + 1) sc).ownBlock := fun e => (by have := hob _ e.symm; omega)
        have hzz : eb < w8.heap.size := (by have := hbW.size; omega)
        have k0 : w9.cell? ⟨eb, 0, none⟩ = some (.int .u64 (X : Nat)) := (by rw [hgrow.cell_far _ (by simp; omega) hne, World.cell?_alloc_past _ _ _ hzz]; exact (hbW.cell l3).trans g0)
        have k1 : w9.cell? ⟨eb, 1, none⟩ = some (.int .u64 (Wn : Nat)) := (by rw [hgrow.cell_far _ (by simp; omega) hne, World.cell?_alloc_past _ _ _ hzz]; exact (hbW.cell l3).trans g1)
        have k2 : w9.cell? ⟨eb, 2, none⟩ = some (.int .u64 (Nn : Nat)) := (by rw [hgrow.cell_far _ (by simp; omega) hne, World.cell?_alloc_past _ _ _ hzz]; exact (hbW.cell l3).trans g2)
        have k3 : w9.cell? ⟨eb, 3, none⟩ = some (.bool M) := (by rw [hgrow.cell_far _ (by simp; omega) hne, World.cell?_alloc_past _ _ _ hzz]; exact (hbW.cell l3).trans g3))
     | fail)
   have hz8 := hbW.size
   have HR : Hid (Below w.heap.size w w9 ∧ base ≤ w9.heap.size ∧ w9.ownsRow base 9 1 (.slice (some ⟨gg, 0, none⟩) (j + 1 + 1) gcap) (j + 1 + 1) (strs (r.p.told :: (r.es.take (j + 1)).map Ent.told))) := by
    refine hid ⟨?_, ?_, ?_⟩
    ·exact Below.grown' (base := base) (HO.out.1.trans ((HB3.out.trans (hbW.mono (by omega))).mono (by omega))) hgrow (fun k hk => by have := hob k hk; omega) (by omega) (by have := HPH.out.2; have := HB1.out.size; omega)
    ·have := hgrow.size; simp at this; omega
    ·rw [HTK.out, List.map_append]
     have h := hown2
     rw [show ([Value.string EN] : List Value) = strs [(Ent.told ⟨X, Wn, Nn, M⟩)] from by rw [HTE.out.en]; rfl, ← iA] at h
     exact h
   clear hown2 hgrow hat hne k0 k1 k2 k3 hbW g0 g1 g2 g3
   go_wp2_with fail
   go_roundw
   case rel => exact ⟨j + 1, by omega, by go_num, HR.out.1, HR.out.2.1, HR.out.2.2⟩
   case measure => simp [intOf]; omega
  ·have hj2 : j = n6 := by omega
   subst hj2
   obtain ⟨sa, sc, rfl⟩ := ag hown
   have HR : Hid (dm wr (fun b => w.heap.size ≤ b) r.tail (.slice sa (j + 1) sc) ∧ Below w.heap.size w wr) := hid ⟨by
    have h := hown
    rw [HN.out.1, List.take_length] at h
    rw [HN.out.2.1]
    have h2 := Sl.of_owns h (by omega)
    have hl : (r.p.told :: r.es.map Ent.told).length = r.es.length + 1 := by simp
    unfold dm
    rw [hl, HN.out.1]
    exact Sl.keep h2 (by omega) (fun _ _ _ => rfl) (fun b _ (hb : _ ∧ base ≤ b) => Nat.le_trans HB1.out.size (by rw [← HPH.out.2]; exact hb.2)), hbel⟩
   clear hown hbel
   go_wp2_with fail
   go_ret
   exact ⟨_, rfl, HR.out.1, HR.out.2⟩
end Go.Proofs.YtmgbhhmipmgcpaaGreatDoor
