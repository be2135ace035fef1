/- Walks: a predicate's text; Both; Turn, both. Ahead of it: Walks: a predicate's text, as the reference tells it. Walks: a predicate's text, as the program tells it. -/
import Derived.Test.YtjedgiiplebofaaGreatDoorU9
import Derived.Test.YtjedgiiplebofaaGreatDoorU38
import Derived.Test.YtjedgiiplebofaaGreatDoorU32
import Derived.Test.YtjedgiiplebofaaGreatDoorU11
import Derived.Test.YtjedgiiplebofaaGreatDoorU36
import Derived.Test.YtjedgiiplebofaaGreatDoorU37
import Derived.Test.YtjedgiiplebofaaGreatDoorU18
import Derived.Deep.RegionHeld3
import Derived.Deep.DeepFit
namespace Go.Proofs.YtjedgiiplebofaaGreatDoor
open Go.RowKit Go
set_option linter.unusedVariables false
set_option linter.unusedSimpArgs false
theorem str_ext {a b : ByteArray} (h : a.data.toList = b.data.toList) : Ending.returned (.string a) = .returned (.string b) := by rw [ba_ext h]
theorem str_ext' {a b : ByteArray} (h : a.data.toList = b.data.toList) : Value.string a = .string b := by rw [ba_ext h]
theorem kinds_of {k : Int} {a b n : Nat} (h : nodeOk k a b n = true) : k = 1 ∨ k = 2 ∨ k = 3 ∨ k = 4 ∨ (k = 5 ∧ n = 1) ∨ k = 6 ∨ k = 7 := by
  unfold nodeOk at h
  by_cases h1 : k = 1
  · exact .inl h1
  rw [if_neg h1] at h
  by_cases h2 : k = 2 ∨ k = 3
  · omega
  rw [if_neg h2] at h
  by_cases h4 : k = 4
  · omega
  rw [if_neg h4] at h
  by_cases h5 : k = 5
  · rw [if_pos h5] at h
    simp at h
    exact .inr (.inr (.inr (.inr (.inl ⟨h5, h.2⟩))))
  rw [if_neg h5] at h
  by_cases h6 : k = 6 ∨ k = 7
  · omega
  rw [if_neg h6] at h
  cases h
def Ex.text (e : Ex) : List UInt8 := if e.right then e.told else []
end Go.Proofs.YtjedgiiplebofaaGreatDoor
namespace Go.Proofs.YtjedgiiplebofaaGreatDoor
open Go.RowKit Go
set_option linter.unusedVariables false
set_option linter.unusedSimpArgs false
def strs (l : List (List UInt8)) : List Value := l.map fun x => .string ⟨x.toArray⟩
theorem strs_length (l : List (List UInt8)) : (strs l).length = l.length := by simp [strs]
theorem strs_append (a b : List (List UInt8)) : strs (a ++ b) = strs a ++ strs b := by simp [strs]
theorem infoStr : (Tryz.prog.info? 9).map (fun i => (i.zero, i.size, i.bytes)) = some (some (.string ⟨#[]⟩), 1, 16) := by kernel_rfl
theorem join_any (l : List (List UInt8)) (base : Nat) (sv : Value) (w : World) (hown : w.ownsRow base 9 1 sv l.length (strs l)) (hl : l.length ≤ 1000) (hlen : (commas l).length ≤ 100000) :
    Calls Tryz.prog 144 #[sv, .string ⟨#[44]⟩] w fun e w' => e = .returned (.string ⟨(commas l).toArray⟩) ∧ Below w.heap.size w w' := by
  obtain ⟨sa, sc, rfl⟩ := owns_slice hown
  cases l with
  | nil =>
    refine (Tryz.strings_Join_none sa sc _ w).mono ?_
    rintro e w' ⟨rfl, rfl⟩
    exact ⟨rfl, Below.refl _ _⟩
  | cons x r =>
    have hs := Sl.of_owns hown (by omega)
    obtain ⟨bl, off, rfl, _, hc⟩ := hs.cells (by simp)
    obtain ⟨_, _, ad', cap', e1, h4, _⟩ := hs
    simp only [Value.slice.injEq] at e1
    obtain ⟨_, _, rfl⟩ := e1
    have hm : ((x :: r).map fun x => (⟨x.toArray⟩ : ByteArray)).map (·.data.toList) = x :: r := by simp [Function.comp_def]
    have hj := Tryz.strings_Join bl off sc ((x :: r).map fun x => (⟨x.toArray⟩ : ByteArray)) ⟨#[44]⟩ w (fun j y hy => by
      have hjl : j < (strs (x :: r)).length := by
        rw [strs_length]; have := (List.getElem?_eq_some_iff.1 hy).1; simpa using this
      have h := (hc j hjl).1
      rw [h]
      simp only [strs, List.getElem_map]
      simp only [List.getElem?_map, Option.map_eq_some_iff] at hy
      obtain ⟨z, hz, rfl⟩ := hy
      rw [(List.getElem?_eq_some_iff.1 hz).2]) (World.block_lt_of_cell? w _ (hc 0 (by rw [strs_length]; simp)).1) (by rw [List.length_map]; omega) (by rw [List.length_map]; exact h4) (by rw [hm]; exact Nat.le_trans hlen (by omega))
    rw [hm, List.length_map] at hj
    exact hj
def TellsP (d : Nat) : Prop := ∀ (S : Nat → Prop) (own : Bool) (e : Ex) (v : Value) (w : World), e.depth ≤ d → d ≤ 1000 → e.size ≤ 1000 → e.okR = true → RepE w S own e v → Lv w.heap.size w →
    Calls Tryz.prog 279 #[v] w fun r w' => r = .returned (.string ⟨e.told.toArray⟩) ∧ Below w.heap.size w w'
set_option maxHeartbeats 2000000 in
set_option maxRecDepth 100000 in
theorem predTold_any (d : Nat) : TellsP d := by
  obtain ⟨i0, hi0, hz0, hz1, hz2⟩ := info_parts infoStr
  induction d with
  | zero => intro S own e v w hd; cases e; simp [Ex.depth] at hd
  | succ d ih =>
    intro S own e v w hd hd2 hsz hok hrep hL
    obtain ⟨k, a, b, ps⟩ := e
    simp only [RepE] at hrep
    obtain ⟨s, xs, rfl, hk1, hk2, ha, hb, hs, hes⟩ := hrep
    obtain ⟨hxl, hlen, ad, cap, rfl, hcap⟩ := hs.shape
    simp only [Ex.depth, Ex.size] at hd hsz
    simp only [Ex.okR, Bool.and_eq_true] at hok
    simp only [Ex.told]
    have IH := Lib.hid ih
    have HL := Lib.hid hL
    have hpl := Ex.length_le_sizes ps
    have HN := Lib.hid (RepEs.nums hes)
    have HOK := Lib.hid hok
    clear ih hL hxl hok
    go_enter Tryz.func279, Tryz.ntmps279
    go_wp2_with fail
    go_loopw [3, 10] (fun sv i wr => ∃ j : Nat, j ≤ ps.length ∧ i = .int .i64 j ∧ Below w.heap.size w wr ∧ wr.heap[w.heap.size]? = some (.cells #[.int .i64 k, .int .u64 a, .int .u64 b, .slice ad ps.length cap] 28) ∧ wr.ownsRow (w.heap.size + 1) 9 1 sv j (strs (Ex.tolds (ps.take j)))) (fun _ i _ => ps.length - (intOf i).toNat)
    case atStart => exact ⟨0, by omega, rfl, (Below.refl _ _).alloc (Nat.le_refl _) _, heap_alloc_at _ _ _ rfl, World.ownsRow_nil _ _ _ _⟩
    case round =>
      obtain ⟨j, hj, rfl, hbel, hbx, hown⟩ := hrel
      have hzr : w.heap.size < wr.heap.size := (Array.getElem?_eq_some_iff.1 hbx).1
      by_cases hlt : j < ps.length
      · obtain ⟨bl, off, k', a', b', ad', n', cap', rfl, _, g0, g1, g2, g3, _, ge⟩ := (hes.below hbel (Nat.le_refl _)).part (hs.below (by omega) hbel (Nat.le_refl _)) j hlt
        have hdj := Ex.depths_ge ps j hlt
        have hsj := Ex.sizes_ge ps j hlt
        have hokj := Ex.okRs_get ps j hlt HOK.out.1
        have hol := Ex.told_len _ ge.nums
        have HK := Lib.hid (Ex.tolds_take ps j hlt)
        have hob := hown.lt
        obtain ⟨sa, sc, rfl⟩ := owns_slice hown
        have HH := Lib.hid (And.intro hbx (And.intro hown (And.intro hbel ge)))
        have l1 : bl < wr.heap.size := World.block_lt_of_cell? wr _ g0
        clear hbx hown hbel
        go_wp2_with fail
        have hbq : Below wr.heap.size wr (wr.alloc (.cells #[.int .i64 k', .int .u64 a', .int .u64 b', .slice ad' n' cap'] 28)) := (Below.refl _ _).alloc (Nat.le_refl _) _
        refine (IH.out _ _ ps[j] _ _ (by omega) (by omega) (by omega) hokj (ge.below hbq (Nat.le_refl _)) (((HL.out.below (HH.out.2.2.1)).mono HH.out.2.2.1.size |>.below hbq).mono hbq.size)).mono ?_
        rintro e w1 ⟨rfl, hb1⟩
        have hb2 : Below wr.heap.size wr w1 := hbq.trans (hb1.mono hbq.size)
        have hz1' := hb2.size
        have HB := Lib.hid hb2
        clear hb1 hb2 hbq g0 g1 g2 g3 ge
        go_wp2_with (at_builtin; go_loud (refine wpList_append_lies _ rfl (.tmp 14) (.tmp 17) 81 rfl (w.heap.size + 1) 9 i0 _ 1 16 Tryz.underlying81 hi0 hz0 hz1 hz2 rfl (by omega) (.slice sa j sc) j (strs (Ex.tolds (ps.take j))) rfl ((ownsRow_below HH.out.2.1 HB.out (Nat.le_refl _)).alloc _) ⟨w1.heap.size, 0, none⟩ 1 1 [.string ⟨ps[j].told.toArray⟩] rfl rfl (World.news_of_block (cs := #[.string ⟨ps[j].told.toArray⟩]) (t := 9) (fr := (0, 0)) (heap_alloc_at _ _ _ rfl)) (by simp [Value.oneCell']) (by omega) (by unfold maxLen; omega) (by omega) (by simp; omega) (w1.heap.size + 1) (by simp) ?_); intro gg gcap w3 hown2 hgrow hat hlt2)
        have HR : Hid (Below w.heap.size w w3 ∧ w3.heap[w.heap.size]? = some (.cells #[.int .i64 k, .int .u64 a, .int .u64 b, .slice (some ⟨bl, off, none⟩) ps.length cap] 28)) := by
          refine Lib.hid ⟨Below.grown' (base := w.heap.size + 1) (HH.out.2.2.1.trans (HB.out.mono (by omega))) hgrow (fun k hk => by have := hob k hk; omega) (by omega) (by omega), ?_⟩
          rw [heap_far HB.out (by omega) (by omega) hgrow (fun e => by have := hob _ e.symm; omega)]; exact HH.out.1
        have HO := Lib.hid hown2
        clear hown2 hgrow hat
        go_roundw
        case rel =>
          refine ⟨j + 1, by omega, by go_num, HR.out.1, HR.out.2, ?_⟩
          rw [HK.out, strs_append]; exact HO.out
        case measure => simp [intOf]; omega
      · have hj2 : j = ps.length := by omega
        subst hj2
        rw [List.take_length] at hown
        have htl := Ex.tolds_len ps HN.out
        have hcl := commas_len (Ex.tolds ps)
        have hll := Ex.tolds_length ps
        have hla := decDigits_le20 a ha
        have hlb := decDigits_le20 b hb
        obtain ⟨sa, sc, rfl⟩ := owns_slice hown
        have hown' : wr.ownsRow (w.heap.size + 1) 9 1 (.slice sa ps.length sc) (Ex.tolds ps).length (strs (Ex.tolds ps)) := by rw [hll]; exact hown
        have HH := Lib.hid (And.intro hbx (And.intro hown' hbel))
        have hlcm : (commas (Ex.tolds ps)).length ≤ 50000 := by omega
        have HJ := Lib.hid (join_any (Ex.tolds ps) _ _ wr HH.out.2.1 (by omega) (by omega))
        clear hbx hown hown' hbel htl
        go_wp2_with fail
        refine HJ.out.mono ?_
        rintro e w1 ⟨rfl, hb1⟩
        obtain ⟨J, hJ⟩ : ∃ J : ByteArray, J = ⟨(commas (Ex.tolds ps)).toArray⟩ := ⟨_, rfl⟩
        have hJs : J.size ≤ 50000 := by rw [hJ]; simpa [ByteArray.size] using hlcm
        have hbw : Below w.heap.size w w1 := HH.out.2.2.trans (hb1.mono (by omega))
        have hx1 : w1.heap[w.heap.size]? = some (.cells #[.int .i64 k, .int .u64 a, .int .u64 b, .slice ad ps.length cap] 28) := (hb1.block _ hzr).trans HH.out.1
        have e0 : w1.cell? ⟨w.heap.size, 0, none⟩ = some (.int .i64 k) := by rw [cell_of_row w1 _ 0 _ _ _ hx1]; rfl
        have e1 : w1.cell? ⟨w.heap.size, 1, none⟩ = some (.int .u64 a) := by rw [cell_of_row w1 _ 1 _ _ _ hx1]; rfl
        have e2 : w1.cell? ⟨w.heap.size, 2, none⟩ = some (.int .u64 b) := by rw [cell_of_row w1 _ 2 _ _ _ hx1]; rfl
        have l1 : w.heap.size < w1.heap.size := (Array.getElem?_eq_some_iff.1 hx1).1
        have hz2' := hbw.size
        have HT := Lib.hid ((HL.out.below hbw).mono hbw.size)
        have HW := Lib.hid hbw
        rw [← hJ]
        have HJJ := Lib.hid hJ
        have hkd := kinds_of HOK.out.2
        clear hb1 hx1 hbw hJ
        rcases hkd with rfl | rfl | rfl | rfl | ⟨rfl, h1⟩ | rfl | rfl
        · go_wp2_with fail
          go_ret
          exact ⟨str_ext (by simp [tellN]), HW.out⟩
        · go_wp2_with fail
          refine (predDigits_any _ _ (by assumption) HT.out.tab).mono ?_
          rintro e w2 ⟨rfl, hb2⟩
          go_wp2_with fail
          go_ret
          exact ⟨str_ext (by simp [tellN]), HW.out.trans (hb2.mono (by omega))⟩
        · go_wp2_with fail
          refine (predDigits_any _ _ (by assumption) HT.out.tab).mono ?_
          rintro e w2 ⟨rfl, hb2⟩
          go_wp2_with fail
          go_ret
          exact ⟨str_ext (by simp [tellN]), HW.out.trans (hb2.mono (by omega))⟩
        · go_wp2_with fail
          have z1 : ¬ 9223372036854775807 < 2 + (Lib.decDigits a).length := by omega
          have z2 : ¬ 9223372036854775807 < 2 + (Lib.decDigits a).length + 1 := by omega
          have z3 : ¬ 9223372036854775807 < 2 + (Lib.decDigits a).length + 1 + (Lib.decDigits b).length := by omega
          have hbW : Below w1.heap.size w1 w1 := Below.refl _ _
          go_region_held3 (fun w' => w'.cell? ⟨w.heap.size, 1, none⟩ = some (.int .u64 a) ∧ w'.cell? ⟨w.heap.size, 2, none⟩ = some (.int .u64 b))
            (first
              | exact ⟨(hbW.cell l1).trans e1, (hbW.cell l1).trans e2⟩
              | go_keep)
            (first
              | (go_at_call 304; refine (predDigits_any _ _ (by assumption) (by first | exact (HT.out.below hbW).tab | exact (HT.out.below hbW.drew).tab)).mono ?_; rintro e w2 ⟨rfl, hb2⟩; replace hbW := (by first | exact hbW.trans (hb2.mono hbW.size) | exact hbW.drew.trans (hb2.mono hbW.size)); clear hb2))
          go_wp2_with fail
          go_ret
          exact ⟨str_ext (by simp [tellN]), HW.out.trans (hbW.mono (by omega))⟩
        · go_wp2_with fail
          go_ret
          exact ⟨str_ext (by simp [tellN, HJJ.out]), HW.out⟩
        · go_wp2_with fail
          go_ret
          exact ⟨str_ext (by simp [tellN, HJJ.out]), HW.out⟩
        · go_wp2_with fail
          go_ret
          exact ⟨str_ext (by simp [tellN, HJJ.out]), HW.out⟩
end Go.Proofs.YtjedgiiplebofaaGreatDoor
namespace Go.Proofs.YtjedgiiplebofaaGreatDoor
open Go.RowKit Go
set_option linter.unusedVariables false
set_option linter.unusedSimpArgs false
set_option maxHeartbeats 1000000 in
set_option maxRecDepth 100000 in
theorem predText_any (S : Nat → Prop) (own : Bool) (e : Ex) (v : Value) (w : World) (hsz : e.size ≤ 900) (hrep : RepE w S own e v) (hL : Lv w.heap.size w) :
    Calls Tryz.prog 240 #[v] w fun r w' => r = .returned (.string ⟨e.text.toArray⟩) ∧ Below w.heap.size w w' := by
  have hd := e.depth_le_size
  obtain ⟨k', a', b', ad', n', cap', rfl⟩ := hrep.conc
  have hb0 : Below w.heap.size w (w.alloc (.cells #[.int .i64 k', .int .u64 a', .int .u64 b', .slice ad' n' cap'] 28)) := (Below.refl _ _).alloc (Nat.le_refl _) _
  have HR := Lib.hid (hrep.below hb0 (Nat.le_refl _))
  have HL := Lib.hid ((hL.below hb0).mono hb0.size)
  clear hrep hL
  cases hr : e.right with
  | false =>
    go_enter Tryz.func240, Tryz.ntmps240
    go_wp2_with fail
    refine (predRight_any _ _ e _ _ (by omega) HR.out).mono ?_
    rintro e1 w1 ⟨rfl, hb1⟩
    rw [hr]
    go_wp2_with fail
    go_ret
    exact ⟨by simp [Ex.text, hr], hb0.trans (hb1.mono (by simp))⟩
  | true =>
    have hok : e.okR = true := by simp [Ex.right] at hr; exact hr.1.1
    go_enter Tryz.func240, Tryz.ntmps240
    go_wp2_with fail
    refine (predRight_any _ _ e _ _ (by omega) HR.out).mono ?_
    rintro e1 w1 ⟨rfl, hb1⟩
    have c0 : ∀ o, w1.cell? ⟨w.heap.size, o, none⟩ = (w.alloc (.cells #[.int .i64 k', .int .u64 a', .int .u64 b', .slice ad' n' cap'] 28)).cell? ⟨w.heap.size, o, none⟩ := fun o => hb1.cell (by simp)
    rw [hr]
    go_wp2_with fail
    refine (predTold_any e.depth _ _ e _ _ (Nat.le_refl _) (by omega) (by omega) hok (HR.out.below hb1 (Nat.le_refl _)) ((HL.out.below hb1).mono hb1.size)).mono ?_
    rintro e2 w2 ⟨rfl, hb2⟩
    have hsz2 := hb1.size
    simp at hsz2
    go_wp2_with fail
    go_ret
    exact ⟨by simp [Ex.text, hr], hb0.trans ((hb1.mono (by simp)).trans (hb2.mono (by omega)))⟩
end Go.Proofs.YtjedgiiplebofaaGreatDoor
