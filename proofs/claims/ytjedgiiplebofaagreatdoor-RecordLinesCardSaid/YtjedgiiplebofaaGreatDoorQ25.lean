/- Walks: the reference's record of a text. Ahead of it: Walks: the reference's record of a text. -/
import Derived.Test.YtjedgiiplebofaaGreatDoorQ24
import Derived.Test.YtjedgiiplebofaaGreatDoorQ39
import Derived.Deep.RegionLaw
import Derived.Deep.CutRange
namespace Go.Proofs.YtjedgiiplebofaaGreatDoor
open Go.RowKit Go
set_option linter.unusedVariables false
set_option linter.unusedSimpArgs false
theorem lineB_k0 {s l0 : List UInt8} {lr : List (List UInt8)} (hc : cuts 32 s = l0 :: lr) (hk : kindOf l0 = 0) : lineB s = none := by
  rw [← refB_eq]
  unfold candB
  rw [hc]
  cases lr with
  | nil => rfl
  | cons a l => simp only; rw [if_pos hk]; rfl
/-- How many words a kind wants. -/
def manyK (k : Nat) : Nat := if k = 2 then 4 else if k = 3 then 4 else if k = 4 then 3 else if k = 5 then 3 else 2
theorem lineB_bad {s l0 : List UInt8} {lr : List (List UInt8)} {K : Nat} (hc : cuts 32 s = l0 :: lr) (hk : kindOf l0 = K) (h : lr.length + 1 < manyK K ∨ (K ≠ 5 ∧ manyK K < lr.length + 1)) : lineB s = none := by
  rw [← refB_eq]
  unfold candB
  rw [hc]
  cases lr with
  | nil => rfl
  | cons a l =>
    simp only
    by_cases h0 : kindOf l0 = 0
    · rw [if_pos h0]; rfl
    rw [if_neg h0, hk]
    simp only [List.length_cons] at h
    have e : candT K (valW a) l = none := by
      unfold candT
      unfold manyK at h
      split
      · split
        · simp_all
        · rfl
      split
      · split
        · simp_all
        · rfl
      split
      · split
        · simp_all
        · rfl
      split
      · rename_i h2 h3 h4 h5
        subst h5
        cases l with
        | nil => rfl
        | cons x es => simp at h; omega
      · rw [if_neg]
        intro e
        subst e
        simp_all
    rw [e]; rfl
theorem len_1 {α : Type} {l : List α} (h : l.length = 1) : ∃ a, l = [a] := one_of h
theorem len_2 {α : Type} {l : List α} (h : l.length = 2) : ∃ a b, l = [a, b] := two_of h
theorem len_3 {α : Type} {l : List α} (h : l.length = 3) : ∃ a b c, l = [a, b, c] := three_of h
theorem cand_1 {s l0 l1 : List UInt8} {lr : List (List UInt8)} {K : Nat} (hc : cuts 32 s = l0 :: lr) (hl : lr = [l1]) (hk : kindOf l0 = K) (hK : K = 1 ∨ K = 6 ∨ K = 7 := by decide) : candB s = some ⟨K, valW l1, 0, 0, 0, 0, .zero, []⟩ := by
  unfold candB
  rw [hc, hl]
  simp only
  rw [if_neg (by omega), hk]
  unfold candT
  rw [if_neg (by omega), if_neg (by omega), if_neg (by omega), if_neg (by omega), if_pos rfl]
theorem cand_2 {s l0 l1 l2 l3 : List UInt8} {lr : List (List UInt8)} (hc : cuts 32 s = l0 :: lr) (hl : lr = [l1, l2, l3]) (hk : kindOf l0 = 2) : candB s = some ⟨2, valW l1, valW l2, (verV l3).1, (verV l3).2, 0, .zero, []⟩ := by
  unfold candB
  rw [hc, hl]
  simp only
  rw [if_neg (by omega), hk]
  rfl
theorem cand_3 {s l0 l1 l2 l3 : List UInt8} {lr : List (List UInt8)} (hc : cuts 32 s = l0 :: lr) (hl : lr = [l1, l2, l3]) (hk : kindOf l0 = 3) : candB s = some ⟨3, valW l1, valW l2, 0, 0, valW l3, .zero, []⟩ := by
  unfold candB
  rw [hc, hl]
  simp only
  rw [if_neg (by omega), hk]
  rfl
theorem cand_4 {s l0 l1 l2 : List UInt8} {lr : List (List UInt8)} (hc : cuts 32 s = l0 :: lr) (hl : lr = [l1, l2]) (hk : kindOf l0 = 4) : candB s = some ⟨4, valW l1, valW l2, 0, 0, 0, .zero, []⟩ := by
  unfold candB
  rw [hc, hl]
  simp only
  rw [if_neg (by omega), hk]
  rfl
set_option maxHeartbeats 8000000 in
set_option maxRecDepth 100000 in
theorem refLine_k0 (s : ByteArray) (w : World) (hs : s.size ≤ 800) (l0 : List UInt8) (lr : List (List UInt8)) (HC : Hid (cuts 32 s.data.toList = l0 :: lr)) (HKD : Hid (kindOf l0 = 0)) :
    Calls Tryz.prog 18 #[.string s] w (LineEnds (lineB s.data.toList) w) := by
  have hb0 : Below w.heap.size w (w.alloc (.cells #[.int .i64 0, .int .u64 0, .int .u64 0, .int .u64 0, .int .u64 0, .int .u64 0, .int .i64 0, .int .u64 0, .int .u64 0, .slice none 0 0, .slice none 0 0] 41)) := (Below.refl _ _).alloc (Nat.le_refl _) _
  have hMem := cuts_mem_length 32 s.data.toList
  have hLen := cuts_length_le 32 s.data.toList
  rw [HC.out] at hMem hLen
  rw [ba_size] at hMem hLen
  have HCU := Lib.hid (refCuts_any 32 s (w.alloc (.cells #[.int .i64 0, .int .u64 0, .int .u64 0, .int .u64 0, .int .u64 0, .int .u64 0, .int .i64 0, .int .u64 0, .int .u64 0, .slice none 0 0, .slice none 0 0] 41)) (by omega))
  obtain ⟨N, hN⟩ : ∃ N, N = lr.length + 1 := ⟨_, rfl⟩
  have HMM := Lib.hid (And.intro hMem (And.intro hLen hN))
  have HB0 := Lib.hid hb0
  have hN0 : 0 < N := by omega
  have hN1 : N ≤ 1000 := by rw [List.length_cons] at hLen; omega
  clear hb0 hMem hLen hN
  go_enter Tryz.func18, Tryz.ntmps18
  go_wp2_with fail
  refine HCU.out.mono ?_
  rintro e W1 ⟨v, rfl, hown, hb1⟩
  rw [HC.out] at hown
  obtain ⟨gg, gc, rfl, hgb, hgl, hcell⟩ := owns_cells hown (by simp)
  rw [List.length_cons, ← HMM.out.2.2]
  simp only [World.size_alloc] at hgb
  have hz1 := hb1.size
  simp only [World.size_alloc] at hz1
  obtain ⟨rb, hrb⟩ : ∃ rb, rb = W1.heap.size := ⟨_, rfl⟩
  obtain ⟨W2, hW2⟩ : ∃ W2, W2 = W1.alloc (.cells #[.int .i64 0, .int .u64 0, .int .u64 0, .int .u64 0, .int .u64 0, .int .u64 0, .int .i64 0, .int .u64 0, .int .u64 0, .slice none 0 0, .slice none 0 0] 41) := ⟨_, rfl⟩
  have hb2 : Below W1.heap.size W1 W2 := by rw [hW2]; exact (Below.refl _ _).alloc (Nat.le_refl _) _
  have hr2 : W2.heap[rb]? = some (.cells #[.int .i64 0, .int .u64 0, .int .u64 0, .int .u64 0, .int .u64 0, .int .u64 0, .int .i64 0, .int .u64 0, .int .u64 0, .slice none 0 0, .slice none 0 0] 41 (0, 0)) := by rw [hW2, hrb]; exact heap_alloc_at _ _ _ rfl
  have hz2 : W2.heap.size = rb + 1 := by rw [hW2, hrb]; simp
  have ho2 : W2.heap[w.heap.size]? = some (.cells #[.int .i64 0, .int .u64 0, .int .u64 0, .int .u64 0, .int .u64 0, .int .u64 0, .int .i64 0, .int .u64 0, .int .u64 0, .slice none 0 0, .slice none 0 0] 41 (0, 0)) := (hb2.block _ (by omega)).trans ((hb1.block _ (by simp)).trans (heap_alloc_at _ _ _ rfl))
  have hl2 : ∀ (i : Nat) (x : List UInt8), (l0 :: lr)[i]? = some x → W2.cell? ⟨gg, i, none⟩ = some (.string ⟨x.toArray⟩) := fun i x hx => (hb2.cell hgl).trans (hcell i _ (by simp only [strs, List.getElem?_map, hx]; rfl))
  have hB2 : Below w.heap.size w W2 := HB0.out.trans ((hb1.mono (by simp)).trans (hb2.mono (by omega)))
  have lgr : gg < rb := by omega
  have lgn : gg ≠ rb := by omega
  have lwr : w.heap.size < rb := by omega
  have lwn : w.heap.size ≠ rb := by omega
  have lwg : w.heap.size < gg := by omega
  have H2 := Lib.hid (And.intro hr2 (And.intro ho2 (And.intro hl2 hB2)))
  have HRB := Lib.hid (And.intro hrb hW2)
  clear hown hb1 hb2 hr2 ho2 hl2 hB2 hcell hgb hz1 hgl HB0 HCU hrb hW2
  go_upto_region 3 with fail
  rw [← HRB.out.2, ← HRB.out.1]
  clear HRB
  go_wp2_with fail
  go_loopw [6] (fun i wr => ∃ j : Nat, i = .int .i64 (j : Nat) ∧ 1 ≤ j ∧ j ≤ 8 ∧ Rg rb W2 wr ∧ wr.heap[rb]? = some (.cells #[.int .i64 ((if 0 < j then 0 else 0 : Nat) : Int), .int .u64 0, .int .u64 0, .int .u64 0, .int .u64 0, .int .u64 0, .int .i64 0, .int .u64 0, .int .u64 0, .slice none 0 0, .slice none 0 0] 41 (0, 0))) (fun i _ => 8 - (intOf i).toNat)
  case atStart => exact ⟨1, rfl, by omega, by omega, Rg.refl _ _, by rw [if_pos (by omega)]; exact H2.out.1⟩
  case round =>
    obtain ⟨j, rfl, hj1, hj8, hrg, hrow⟩ := hrel
    have hzr := hrg.size
    by_cases hj : j < 8
    · obtain ⟨WJ, hWJ⟩ : ∃ WJ : ByteArray, WJ = ⟨(wordOf j).toArray⟩ := ⟨_, rfl⟩
      obtain ⟨L0, hL0⟩ : ∃ L0 : ByteArray, L0 = ⟨l0.toArray⟩ := ⟨_, rfl⟩
      have HWJ : Hid (wordsC[j]? = some (.string WJ)) := Lib.hid (by rw [hWJ]; exact wordsC_at j hj1 (by omega))
      have cl : wr.cell? ⟨gg, 0, none⟩ = some (.string L0) := by rw [hL0]; exact hrg.cell (H2.out.2.2.1 0 l0 rfl) lgn
      have lg : gg < wr.heap.size := by omega
      have eWJ : WJ.toList = wordOf j := by rw [hWJ, ByteArray.toList_eq]
      have eL0 : L0.toList = l0 := by rw [hL0, ByteArray.toList_eq]
      have i1 : (j : Int) < 8 := by omega
      have i0 : (0 : Int) ≤ (j : Int) := by omega
      have i2 : (0 : Int) < (N : Int) := by omega
      have c0 : wr.cell? ⟨rb, 0, none⟩ = some (.int .i64 ((if 0 < j then 0 else 0 : Nat) : Int)) := by rw [cell_of_row wr _ 0 _ _ _ hrow]; rfl
      have f0 : wr.frozen? ⟨rb, 0, none⟩ = false := by rw [frozen_of_row wr _ 0 _ _ hrow]
      have lrb : rb < wr.heap.size := (Array.getElem?_eq_some_iff.1 hrow).1
      have HG := Lib.hid (And.intro hrg hrow)
      clear hrg hrow hWJ hL0
      have hw : wordOf j ≠ l0 := fun h => by
        have := (kindOf_iff hj1 (by omega) l0).2 h
        rw [HKD.out] at this; omega
      rcases (show True from trivial) with _
      · have hkj : 0 ≠ j := fun e => hw ((kindOf_iff hj1 (by omega) l0).1 (HKD.out.trans e))
        have hq : (WJ.toList == L0.toList) = false := by rw [eWJ, eL0]; simpa using hw
        clear eWJ eL0
        go_wp2_with fail
        refine wp_region_prs (w0 := wr) rfl [.of (pWords), .eq (.int .i64 (j : Nat)), .of (pWordAt WJ), .eq (.string WJ), .eq (.slice (some ⟨gg, 0, none⟩) N gc), .eq (.pointer (some ⟨gg, 0, none⟩)), .eq (.string L0), .eq (.bool false)] (by kernel_rfl) ⟨?_, ?_, ?_, ?_, ?_, ?_, ?_, ?_, ?_, ?_, trivial⟩ (fun vs => [(18, vs 0), (19, (.int .i64 (j : Nat))), (20, vs 2), (21, (.string WJ)), (22, (.slice (some ⟨gg, 0, none⟩) N gc)), (23, (.pointer (some ⟨gg, 0, none⟩))), (24, (.string L0)), (25, (.bool false))]) (fun _ => rfl) ?_
        · exact steadyWords
        · refine RStep.mk rfl rfl (fun S a wx K Q hR hK => ?_)
          go_simp
          go_at_call 85
          refine (refWords_any _).mono ?_
          rintro e w' ⟨rfl, rfl⟩
          exact hK _ _ ((Below.refl _ _).alloc (Nat.le_refl _) _) ⟨_, rfl, by simp, hR.new _ (Nat.le_refl _), heap_alloc_at _ _ _ rfl⟩
        · refine RStep.mk rfl rfl (fun S a wx K Q hR hK => ?_)
          have t6 : a.tmps[6]? = some (.int .i64 (j : Nat)) := (hR.old 6 (by kernel_rfl)).trans (by kernel_rfl)
          go_simp
          exact hK _ _ (Below.refl _ _) rfl
        · exact steadyWordAt _
        · refine RStep.mk rfl rfl (fun S a wx K Q hR hK => ?_)
          obtain ⟨u18, t18, f18⟩ := hR.of 0 (by kernel_rfl) rfl rfl
          have t19 := hR.eq 1 (by kernel_rfl) rfl rfl
          obtain ⟨g9, rfl, hg9, hS9, hw9⟩ := (show pWords S u18 wx from f18)
          go_simp
          exact hK _ _ (Below.refl _ _) ⟨g9, j, by simp, hg9, hS9, by rw [cell_of_row wx _ _ _ _ _ hw9]; exact HWJ.out⟩
        · refine RStep.mk rfl rfl (fun S a wx K Q hR hK => ?_)
          obtain ⟨u20, t20, f20⟩ := hR.of 2 (by kernel_rfl) rfl rfl
          obtain ⟨g12, o12, rfl, _, _, y12⟩ := (show pWordAt WJ S u20 wx from f20)
          go_simp
          exact hK _ _ (Below.refl _ _) rfl
        · refine RStep.mk rfl rfl (fun S a wx K Q hR hK => ?_)
          have t4 : a.tmps[4]? = some (.slice (some ⟨gg, 0, none⟩) N gc) := (hR.old 4 (by kernel_rfl)).trans (by kernel_rfl)
          go_simp
          exact hK _ _ (Below.refl _ _) rfl
        · refine RStep.mk rfl rfl (fun S a wx K Q hR hK => ?_)
          have t22 := hR.eq 4 (by kernel_rfl) rfl rfl
          go_simp
          exact hK _ _ (Below.refl _ _) rfl
        · refine RStep.mk rfl rfl (fun S a wx K Q hR hK => ?_)
          have t23 := hR.eq 5 (by kernel_rfl) rfl rfl
          have y0 := (hR.bel.cell lg).trans cl
          go_simp
          exact hK _ _ (Below.refl _ _) rfl
        · refine RStep.mk rfl rfl (fun S a wx K Q hR hK => ?_)
          have t21 := hR.eq 3 (by kernel_rfl) rfl rfl
          have t24 := hR.eq 6 (by kernel_rfl) rfl rfl
          go_simp
          (try go_ints)
          exact hK _ _ (Below.refl _ _) rfl
        intro S1 vs w1 hD
        have HB1 := Lib.hid hD.bel
        simp only [putsL, List.foldl_cons, List.foldl_nil]
        clear hD cl
        go_simp
        go_wp2_with fail
        go_roundw
        case rel => exact ⟨j + 1, by go_num, by omega, by omega, HG.out.1.trans (Rg.of_below HB1.out), by
          have h := (HB1.out.block _ lrb).trans HG.out.2
          have e : (if 0 < j + 1 then 0 else 0 : Nat) = (if 0 < j then 0 else 0) := by split <;> split <;> omega
          rw [e]; exact h⟩
        case measure => simp [intOf]; omega
    · have hj2 : j = 8 := by omega
      subst hj2
      rw [if_pos (by omega)] at hrow
      have c0 : wr.cell? ⟨rb, 0, none⟩ = some (.int .i64 0) := by rw [cell_of_row wr _ 0 _ _ _ hrow]; rfl
      have lrb : rb < wr.heap.size := (Array.getElem?_eq_some_iff.1 hrow).1
      have HG := Lib.hid (And.intro hrg hrow)
      clear hrg hrow
      go_upto_region 9 with fail
      obtain ⟨W4, hW4⟩ : ∃ W4, W4 = wr.alloc (.cells #[.int .i64 0, .int .i64 2, .int .i64 4, .int .i64 4, .int .i64 3, .int .i64 3, .int .i64 2, .int .i64 2] 3) := ⟨_, rfl⟩
      have hb4 : Below wr.heap.size wr W4 := by rw [hW4]; exact (Below.refl _ _).alloc (Nat.le_refl _) _
      have hrg4 : Rg rb W2 W4 := HG.out.1.trans (Rg.of_below hb4)
      have hrow4 : W4.heap[rb]? = some (.cells #[.int .i64 0, .int .u64 0, .int .u64 0, .int .u64 0, .int .u64 0, .int .u64 0, .int .i64 0, .int .u64 0, .int .u64 0, .slice none 0 0, .slice none 0 0] 41 (0, 0)) := (hb4.block _ lrb).trans HG.out.2
      have hz4 : W4.heap[w.heap.size]? = some (.cells #[.int .i64 0, .int .u64 0, .int .u64 0, .int .u64 0, .int .u64 0, .int .u64 0, .int .i64 0, .int .u64 0, .int .u64 0, .slice none 0 0, .slice none 0 0] 41 (0, 0)) := (hrg4.keep _ (by omega) lwn).trans H2.out.2.1
      have hl4 : ∀ (i : Nat) (x : List UInt8), (l0 :: lr)[i]? = some x → W4.cell? ⟨gg, i, none⟩ = some (.string ⟨x.toArray⟩) := fun i x hx => hrg4.cell (H2.out.2.2.1 i x hx) lgn
      have hB4 : Below w.heap.size w W4 := H2.out.2.2.2.trans ((hrg4.below (by omega)).mono (by omega))
      have hzz4 := hrg4.size
      have l4 : rb < W4.heap.size := by omega
      have H4 := Lib.hid (And.intro hrow4 (And.intro hz4 (And.intro hl4 (And.intro hB4 hrg4))))
      rw [← hW4]
      have c0 : W4.cell? ⟨rb, 0, none⟩ = some (.int .i64 0) := by rw [cell_of_row W4 _ 0 _ _ _ hrow4]; rfl
      clear hW4 hb4 hrow4 hz4 hl4 hB4 hrg4 hzr HG
      have HLN : Hid (lineB s.data.toList = none) := Lib.hid (lineB_k0 HC.out HKD.out)
      go_upto_region 10 with fail
      go_wp2_with (refine wpList_store_row rfl 41 (.tmp 2) (.tmp 53) rfl rfl w.heap.size rfl _ rfl 41 _ H4.out.2.1 (by kernel_rfl) rfl (by simp [Value.oneCell']) ?_)
      exact bodyPost_ret (v := .tuple #[.agg #[.int .i64 0, .int .u64 0, .int .u64 0, .int .u64 0, .int .u64 0, .int .u64 0, .int .i64 0, .int .u64 0, .int .u64 0, .slice none 0 0, .slice none 0 0], .int .i64 50]) (results_row2 rfl _ _ w.heap.size 41 _ _ _ _ rfl (setRow_heap _ _ _ _ _ _ H4.out.2.1) Tryz.underlying41 rfl (by kernel_rfl) rfl) rfl (lineEnds_none HLN.out (below_setRow H4.out.2.2.2.1 _ _ (Nat.le_refl _)))
set_option maxHeartbeats 8000000 in
set_option maxRecDepth 100000 in
theorem refLine_k1 (s : ByteArray) (w : World) (hs : s.size ≤ 800) (l0 : List UInt8) (lr : List (List UInt8)) (HC : Hid (cuts 32 s.data.toList = l0 :: lr)) (HKD : Hid (kindOf l0 = 1)) :
    Calls Tryz.prog 18 #[.string s] w (LineEnds (lineB s.data.toList) w) := by
  have hb0 : Below w.heap.size w (w.alloc (.cells #[.int .i64 0, .int .u64 0, .int .u64 0, .int .u64 0, .int .u64 0, .int .u64 0, .int .i64 0, .int .u64 0, .int .u64 0, .slice none 0 0, .slice none 0 0] 41)) := (Below.refl _ _).alloc (Nat.le_refl _) _
  have hMem := cuts_mem_length 32 s.data.toList
  have hLen := cuts_length_le 32 s.data.toList
  rw [HC.out] at hMem hLen
  rw [ba_size] at hMem hLen
  have HCU := Lib.hid (refCuts_any 32 s (w.alloc (.cells #[.int .i64 0, .int .u64 0, .int .u64 0, .int .u64 0, .int .u64 0, .int .u64 0, .int .i64 0, .int .u64 0, .int .u64 0, .slice none 0 0, .slice none 0 0] 41)) (by omega))
  obtain ⟨N, hN⟩ : ∃ N, N = lr.length + 1 := ⟨_, rfl⟩
  have HMM := Lib.hid (And.intro hMem (And.intro hLen hN))
  have HB0 := Lib.hid hb0
  have hN0 : 0 < N := by omega
  have hN1 : N ≤ 1000 := by rw [List.length_cons] at hLen; omega
  clear hb0 hMem hLen hN
  go_enter Tryz.func18, Tryz.ntmps18
  go_wp2_with fail
  refine HCU.out.mono ?_
  rintro e W1 ⟨v, rfl, hown, hb1⟩
  rw [HC.out] at hown
  obtain ⟨gg, gc, rfl, hgb, hgl, hcell⟩ := owns_cells hown (by simp)
  rw [List.length_cons, ← HMM.out.2.2]
  simp only [World.size_alloc] at hgb
  have hz1 := hb1.size
  simp only [World.size_alloc] at hz1
  obtain ⟨rb, hrb⟩ : ∃ rb, rb = W1.heap.size := ⟨_, rfl⟩
  obtain ⟨W2, hW2⟩ : ∃ W2, W2 = W1.alloc (.cells #[.int .i64 0, .int .u64 0, .int .u64 0, .int .u64 0, .int .u64 0, .int .u64 0, .int .i64 0, .int .u64 0, .int .u64 0, .slice none 0 0, .slice none 0 0] 41) := ⟨_, rfl⟩
  have hb2 : Below W1.heap.size W1 W2 := by rw [hW2]; exact (Below.refl _ _).alloc (Nat.le_refl _) _
  have hr2 : W2.heap[rb]? = some (.cells #[.int .i64 0, .int .u64 0, .int .u64 0, .int .u64 0, .int .u64 0, .int .u64 0, .int .i64 0, .int .u64 0, .int .u64 0, .slice none 0 0, .slice none 0 0] 41 (0, 0)) := by rw [hW2, hrb]; exact heap_alloc_at _ _ _ rfl
  have hz2 : W2.heap.size = rb + 1 := by rw [hW2, hrb]; simp
  have ho2 : W2.heap[w.heap.size]? = some (.cells #[.int .i64 0, .int .u64 0, .int .u64 0, .int .u64 0, .int .u64 0, .int .u64 0, .int .i64 0, .int .u64 0, .int .u64 0, .slice none 0 0, .slice none 0 0] 41 (0, 0)) := (hb2.block _ (by omega)).trans ((hb1.block _ (by simp)).trans (heap_alloc_at _ _ _ rfl))
  have hl2 : ∀ (i : Nat) (x : List UInt8), (l0 :: lr)[i]? = some x → W2.cell? ⟨gg, i, none⟩ = some (.string ⟨x.toArray⟩) := fun i x hx => (hb2.cell hgl).trans (hcell i _ (by simp only [strs, List.getElem?_map, hx]; rfl))
  have hB2 : Below w.heap.size w W2 := HB0.out.trans ((hb1.mono (by simp)).trans (hb2.mono (by omega)))
  have lgr : gg < rb := by omega
  have lgn : gg ≠ rb := by omega
  have lwr : w.heap.size < rb := by omega
  have lwn : w.heap.size ≠ rb := by omega
  have lwg : w.heap.size < gg := by omega
  have H2 := Lib.hid (And.intro hr2 (And.intro ho2 (And.intro hl2 hB2)))
  have HRB := Lib.hid (And.intro hrb hW2)
  clear hown hb1 hb2 hr2 ho2 hl2 hB2 hcell hgb hz1 hgl HB0 HCU hrb hW2
  go_upto_region 3 with fail
  rw [← HRB.out.2, ← HRB.out.1]
  clear HRB
  go_wp2_with fail
  go_loopw [6] (fun i wr => ∃ j : Nat, i = .int .i64 (j : Nat) ∧ 1 ≤ j ∧ j ≤ 8 ∧ Rg rb W2 wr ∧ wr.heap[rb]? = some (.cells #[.int .i64 ((if 1 < j then 1 else 0 : Nat) : Int), .int .u64 0, .int .u64 0, .int .u64 0, .int .u64 0, .int .u64 0, .int .i64 0, .int .u64 0, .int .u64 0, .slice none 0 0, .slice none 0 0] 41 (0, 0))) (fun i _ => 8 - (intOf i).toNat)
  case atStart => exact ⟨1, rfl, by omega, by omega, Rg.refl _ _, by rw [if_neg (by omega)]; exact H2.out.1⟩
  case round =>
    obtain ⟨j, rfl, hj1, hj8, hrg, hrow⟩ := hrel
    have hzr := hrg.size
    by_cases hj : j < 8
    · obtain ⟨WJ, hWJ⟩ : ∃ WJ : ByteArray, WJ = ⟨(wordOf j).toArray⟩ := ⟨_, rfl⟩
      obtain ⟨L0, hL0⟩ : ∃ L0 : ByteArray, L0 = ⟨l0.toArray⟩ := ⟨_, rfl⟩
      have HWJ : Hid (wordsC[j]? = some (.string WJ)) := Lib.hid (by rw [hWJ]; exact wordsC_at j hj1 (by omega))
      have cl : wr.cell? ⟨gg, 0, none⟩ = some (.string L0) := by rw [hL0]; exact hrg.cell (H2.out.2.2.1 0 l0 rfl) lgn
      have lg : gg < wr.heap.size := by omega
      have eWJ : WJ.toList = wordOf j := by rw [hWJ, ByteArray.toList_eq]
      have eL0 : L0.toList = l0 := by rw [hL0, ByteArray.toList_eq]
      have i1 : (j : Int) < 8 := by omega
      have i0 : (0 : Int) ≤ (j : Int) := by omega
      have i2 : (0 : Int) < (N : Int) := by omega
      have c0 : wr.cell? ⟨rb, 0, none⟩ = some (.int .i64 ((if 1 < j then 1 else 0 : Nat) : Int)) := by rw [cell_of_row wr _ 0 _ _ _ hrow]; rfl
      have f0 : wr.frozen? ⟨rb, 0, none⟩ = false := by rw [frozen_of_row wr _ 0 _ _ hrow]
      have lrb : rb < wr.heap.size := (Array.getElem?_eq_some_iff.1 hrow).1
      have HG := Lib.hid (And.intro hrg hrow)
      clear hrg hrow hWJ hL0
      by_cases hw : wordOf j = l0
      · have hkj : j = 1 := ((kindOf_iff hj1 (by omega) l0).2 hw).symm.trans HKD.out
        have hq : (WJ.toList == L0.toList) = true := by rw [eWJ, eL0]; simpa using hw
        clear eWJ eL0
        have HKJ := Lib.hid hkj
        clear hkj
        go_wp2_with fail
        refine wp_region_prs (w0 := wr) rfl [.of (pWords), .eq (.int .i64 (j : Nat)), .of (pWordAt WJ), .eq (.string WJ), .eq (.slice (some ⟨gg, 0, none⟩) N gc), .eq (.pointer (some ⟨gg, 0, none⟩)), .eq (.string L0), .eq (.bool true)] (by kernel_rfl) ⟨?_, ?_, ?_, ?_, ?_, ?_, ?_, ?_, ?_, ?_, trivial⟩ (fun vs => [(18, vs 0), (19, (.int .i64 (j : Nat))), (20, vs 2), (21, (.string WJ)), (22, (.slice (some ⟨gg, 0, none⟩) N gc)), (23, (.pointer (some ⟨gg, 0, none⟩))), (24, (.string L0)), (25, (.bool true))]) (fun _ => rfl) ?_
        · exact steadyWords
        · refine RStep.mk rfl rfl (fun S a wx K Q hR hK => ?_)
          go_simp
          go_at_call 85
          refine (refWords_any _).mono ?_
          rintro e w' ⟨rfl, rfl⟩
          exact hK _ _ ((Below.refl _ _).alloc (Nat.le_refl _) _) ⟨_, rfl, by simp, hR.new _ (Nat.le_refl _), heap_alloc_at _ _ _ rfl⟩
        · refine RStep.mk rfl rfl (fun S a wx K Q hR hK => ?_)
          have t6 : a.tmps[6]? = some (.int .i64 (j : Nat)) := (hR.old 6 (by kernel_rfl)).trans (by kernel_rfl)
          go_simp
          exact hK _ _ (Below.refl _ _) rfl
        · exact steadyWordAt _
        · refine RStep.mk rfl rfl (fun S a wx K Q hR hK => ?_)
          obtain ⟨u18, t18, f18⟩ := hR.of 0 (by kernel_rfl) rfl rfl
          have t19 := hR.eq 1 (by kernel_rfl) rfl rfl
          obtain ⟨g9, rfl, hg9, hS9, hw9⟩ := (show pWords S u18 wx from f18)
          go_simp
          exact hK _ _ (Below.refl _ _) ⟨g9, j, by simp, hg9, hS9, by rw [cell_of_row wx _ _ _ _ _ hw9]; exact HWJ.out⟩
        · refine RStep.mk rfl rfl (fun S a wx K Q hR hK => ?_)
          obtain ⟨u20, t20, f20⟩ := hR.of 2 (by kernel_rfl) rfl rfl
          obtain ⟨g12, o12, rfl, _, _, y12⟩ := (show pWordAt WJ S u20 wx from f20)
          go_simp
          exact hK _ _ (Below.refl _ _) rfl
        · refine RStep.mk rfl rfl (fun S a wx K Q hR hK => ?_)
          have t4 : a.tmps[4]? = some (.slice (some ⟨gg, 0, none⟩) N gc) := (hR.old 4 (by kernel_rfl)).trans (by kernel_rfl)
          go_simp
          exact hK _ _ (Below.refl _ _) rfl
        · refine RStep.mk rfl rfl (fun S a wx K Q hR hK => ?_)
          have t22 := hR.eq 4 (by kernel_rfl) rfl rfl
          go_simp
          exact hK _ _ (Below.refl _ _) rfl
        · refine RStep.mk rfl rfl (fun S a wx K Q hR hK => ?_)
          have t23 := hR.eq 5 (by kernel_rfl) rfl rfl
          have y0 := (hR.bel.cell lg).trans cl
          go_simp
          exact hK _ _ (Below.refl _ _) rfl
        · refine RStep.mk rfl rfl (fun S a wx K Q hR hK => ?_)
          have t21 := hR.eq 3 (by kernel_rfl) rfl rfl
          have t24 := hR.eq 6 (by kernel_rfl) rfl rfl
          go_simp
          (try go_ints)
          exact hK _ _ (Below.refl _ _) rfl
        intro S1 vs w1 hD
        have hb1 := hD.bel
        have c0' := (hb1.cell lrb).trans c0
        have f0' : w1.frozen? ⟨rb, 0, none⟩ = false := by rw [frozen_of_row w1 _ 0 _ _ ((hb1.block _ lrb).trans HG.out.2)]
        have HB1 := Lib.hid hb1
        simp only [putsL, List.foldl_cons, List.foldl_nil]
        clear hD cl c0 f0 hb1
        go_simp
        go_wp2_with fail
        go_roundw
        case rel =>
          refine ⟨j + 1, by go_num, by omega, by omega, (HG.out.1.trans (Rg.of_below HB1.out)).setCell _ _, ?_⟩
          rw [if_pos (by rw [HKJ.out]; omega)]
          exact heap_set_at ((HB1.out.block _ lrb).trans HG.out.2) (by rw [HKJ.out]; rfl)
        case measure => simp [intOf]; omega
      · have hkj : 1 ≠ j := fun e => hw ((kindOf_iff hj1 (by omega) l0).1 (HKD.out.trans e))
        have hq : (WJ.toList == L0.toList) = false := by rw [eWJ, eL0]; simpa using hw
        clear eWJ eL0
        go_wp2_with fail
        refine wp_region_prs (w0 := wr) rfl [.of (pWords), .eq (.int .i64 (j : Nat)), .of (pWordAt WJ), .eq (.string WJ), .eq (.slice (some ⟨gg, 0, none⟩) N gc), .eq (.pointer (some ⟨gg, 0, none⟩)), .eq (.string L0), .eq (.bool false)] (by kernel_rfl) ⟨?_, ?_, ?_, ?_, ?_, ?_, ?_, ?_, ?_, ?_, trivial⟩ (fun vs => [(18, vs 0), (19, (.int .i64 (j : Nat))), (20, vs 2), (21, (.string WJ)), (22, (.slice (some ⟨gg, 0, none⟩) N gc)), (23, (.pointer (some ⟨gg, 0, none⟩))), (24, (.string L0)), (25, (.bool false))]) (fun _ => rfl) ?_
        · exact steadyWords
        · refine RStep.mk rfl rfl (fun S a wx K Q hR hK => ?_)
          go_simp
          go_at_call 85
          refine (refWords_any _).mono ?_
          rintro e w' ⟨rfl, rfl⟩
          exact hK _ _ ((Below.refl _ _).alloc (Nat.le_refl _) _) ⟨_, rfl, by simp, hR.new _ (Nat.le_refl _), heap_alloc_at _ _ _ rfl⟩
        · refine RStep.mk rfl rfl (fun S a wx K Q hR hK => ?_)
          have t6 : a.tmps[6]? = some (.int .i64 (j : Nat)) := (hR.old 6 (by kernel_rfl)).trans (by kernel_rfl)
          go_simp
          exact hK _ _ (Below.refl _ _) rfl
        · exact steadyWordAt _
        · refine RStep.mk rfl rfl (fun S a wx K Q hR hK => ?_)
          obtain ⟨u18, t18, f18⟩ := hR.of 0 (by kernel_rfl) rfl rfl
          have t19 := hR.eq 1 (by kernel_rfl) rfl rfl
          obtain ⟨g9, rfl, hg9, hS9, hw9⟩ := (show pWords S u18 wx from f18)
          go_simp
          exact hK _ _ (Below.refl _ _) ⟨g9, j, by simp, hg9, hS9, by rw [cell_of_row wx _ _ _ _ _ hw9]; exact HWJ.out⟩
        · refine RStep.mk rfl rfl (fun S a wx K Q hR hK => ?_)
          obtain ⟨u20, t20, f20⟩ := hR.of 2 (by kernel_rfl) rfl rfl
          obtain ⟨g12, o12, rfl, _, _, y12⟩ := (show pWordAt WJ S u20 wx from f20)
          go_simp
          exact hK _ _ (Below.refl _ _) rfl
        · refine RStep.mk rfl rfl (fun S a wx K Q hR hK => ?_)
          have t4 : a.tmps[4]? = some (.slice (some ⟨gg, 0, none⟩) N gc) := (hR.old 4 (by kernel_rfl)).trans (by kernel_rfl)
          go_simp
          exact hK _ _ (Below.refl _ _) rfl
        · refine RStep.mk rfl rfl (fun S a wx K Q hR hK => ?_)
          have t22 := hR.eq 4 (by kernel_rfl) rfl rfl
          go_simp
          exact hK _ _ (Below.refl _ _) rfl
        · refine RStep.mk rfl rfl (fun S a wx K Q hR hK => ?_)
          have t23 := hR.eq 5 (by kernel_rfl) rfl rfl
          have y0 := (hR.bel.cell lg).trans cl
          go_simp
          exact hK _ _ (Below.refl _ _) rfl
        · refine RStep.mk rfl rfl (fun S a wx K Q hR hK => ?_)
          have t21 := hR.eq 3 (by kernel_rfl) rfl rfl
          have t24 := hR.eq 6 (by kernel_rfl) rfl rfl
          go_simp
          (try go_ints)
          exact hK _ _ (Below.refl _ _) rfl
        intro S1 vs w1 hD
        have HB1 := Lib.hid hD.bel
        simp only [putsL, List.foldl_cons, List.foldl_nil]
        clear hD cl
        go_simp
        go_wp2_with fail
        go_roundw
        case rel => exact ⟨j + 1, by go_num, by omega, by omega, HG.out.1.trans (Rg.of_below HB1.out), by
          have h := (HB1.out.block _ lrb).trans HG.out.2
          have e : (if 1 < j + 1 then 1 else 0 : Nat) = (if 1 < j then 1 else 0) := by split <;> split <;> omega
          rw [e]; exact h⟩
        case measure => simp [intOf]; omega
    · have hj2 : j = 8 := by omega
      subst hj2
      rw [if_pos (by omega)] at hrow
      have c0 : wr.cell? ⟨rb, 0, none⟩ = some (.int .i64 1) := by rw [cell_of_row wr _ 0 _ _ _ hrow]; rfl
      have lrb : rb < wr.heap.size := (Array.getElem?_eq_some_iff.1 hrow).1
      have HG := Lib.hid (And.intro hrg hrow)
      clear hrg hrow
      go_upto_region 9 with fail
      obtain ⟨W4, hW4⟩ : ∃ W4, W4 = wr.alloc (.cells #[.int .i64 0, .int .i64 2, .int .i64 4, .int .i64 4, .int .i64 3, .int .i64 3, .int .i64 2, .int .i64 2] 3) := ⟨_, rfl⟩
      have hb4 : Below wr.heap.size wr W4 := by rw [hW4]; exact (Below.refl _ _).alloc (Nat.le_refl _) _
      have hrg4 : Rg rb W2 W4 := HG.out.1.trans (Rg.of_below hb4)
      have hrow4 : W4.heap[rb]? = some (.cells #[.int .i64 1, .int .u64 0, .int .u64 0, .int .u64 0, .int .u64 0, .int .u64 0, .int .i64 0, .int .u64 0, .int .u64 0, .slice none 0 0, .slice none 0 0] 41 (0, 0)) := (hb4.block _ lrb).trans HG.out.2
      have hz4 : W4.heap[w.heap.size]? = some (.cells #[.int .i64 0, .int .u64 0, .int .u64 0, .int .u64 0, .int .u64 0, .int .u64 0, .int .i64 0, .int .u64 0, .int .u64 0, .slice none 0 0, .slice none 0 0] 41 (0, 0)) := (hrg4.keep _ (by omega) lwn).trans H2.out.2.1
      have hl4 : ∀ (i : Nat) (x : List UInt8), (l0 :: lr)[i]? = some x → W4.cell? ⟨gg, i, none⟩ = some (.string ⟨x.toArray⟩) := fun i x hx => hrg4.cell (H2.out.2.2.1 i x hx) lgn
      have hB4 : Below w.heap.size w W4 := H2.out.2.2.2.trans ((hrg4.below (by omega)).mono (by omega))
      have hzz4 := hrg4.size
      have l4 : rb < W4.heap.size := by omega
      have H4 := Lib.hid (And.intro hrow4 (And.intro hz4 (And.intro hl4 (And.intro hB4 hrg4))))
      rw [← hW4]
      have c0 : W4.cell? ⟨rb, 0, none⟩ = some (.int .i64 1) := by rw [cell_of_row W4 _ 0 _ _ _ hrow4]; rfl
      clear hW4 hb4 hrow4 hz4 hl4 hB4 hrg4 hzr HG
      by_cases hlt : N < 2
      · have t1 : decide ((N : Int) < 2) = true := by simp; omega
        have HLN : Hid (lineB s.data.toList = none) := Lib.hid (lineB_bad HC.out HKD.out (by have := HMM.out.2.2; simp [manyK]; omega))
        go_upto_region 10 with fail
        go_wp2_with (refine wpList_store_row rfl 41 (.tmp 2) (.tmp 53) rfl rfl w.heap.size rfl _ rfl 41 _ H4.out.2.1 (by kernel_rfl) rfl (by simp [Value.oneCell']) ?_)
        exact bodyPost_ret (v := .tuple #[.agg #[.int .i64 0, .int .u64 0, .int .u64 0, .int .u64 0, .int .u64 0, .int .u64 0, .int .i64 0, .int .u64 0, .int .u64 0, .slice none 0 0, .slice none 0 0], .int .i64 50]) (results_row2 rfl _ _ w.heap.size 41 _ _ _ _ rfl (setRow_heap _ _ _ _ _ _ H4.out.2.1) Tryz.underlying41 rfl (by kernel_rfl) rfl) rfl (lineEnds_none HLN.out (below_setRow H4.out.2.2.2.1 _ _ (Nat.le_refl _)))
      have t1 : decide ((N : Int) < 2) = false := by simp; omega
      by_cases hgt : 2 < N
      · have t2 : decide ((2 : Int) < (N : Int)) = true := by simp; omega
        have HLN : Hid (lineB s.data.toList = none) := Lib.hid (lineB_bad HC.out HKD.out (by have := HMM.out.2.2; simp [manyK]; omega))
        go_upto_region 10 with fail
        go_wp2_with (refine wpList_store_row rfl 41 (.tmp 2) (.tmp 53) rfl rfl w.heap.size rfl _ rfl 41 _ H4.out.2.1 (by kernel_rfl) rfl (by simp [Value.oneCell']) ?_)
        exact bodyPost_ret (v := .tuple #[.agg #[.int .i64 0, .int .u64 0, .int .u64 0, .int .u64 0, .int .u64 0, .int .u64 0, .int .i64 0, .int .u64 0, .int .u64 0, .slice none 0 0, .slice none 0 0], .int .i64 50]) (results_row2 rfl _ _ w.heap.size 41 _ _ _ _ rfl (setRow_heap _ _ _ _ _ _ H4.out.2.1) Tryz.underlying41 rfl (by kernel_rfl) rfl) rfl (lineEnds_none HLN.out (below_setRow H4.out.2.2.2.1 _ _ (Nat.le_refl _)))
      have t2 : decide ((2 : Int) < (N : Int)) = false := by simp; omega
      obtain ⟨l1, hlr⟩ : ∃ l1, lr = [l1] := len_1 (by have := HMM.out.2.2; omega)
      have hN4 : N = 2 := by have := HMM.out.2.2; rw [hlr] at this; simpa using this
      subst hN4
      have HLR := Lib.hid hlr
      have c21 : W4.cell? ⟨gg, 1, none⟩ = some (.string ⟨l1.toArray⟩) := H4.out.2.2.1 1 l1 (by rw [hlr]; rfl)
      have z1 : (ByteArray.mk l1.toArray).size ≤ 1000000 := by have := HMM.out.1 l1 (by rw [hlr]; simp); rw [← ba_size]; simp; omega
      have r1 : W4.cell? ⟨rb, 1, none⟩ = some (.int .u64 0) := by rw [cell_of_row W4 _ 1 _ _ _ H4.out.1]; rfl
      have f1 : W4.frozen? ⟨rb, 1, none⟩ = false := by rw [frozen_of_row W4 _ 1 _ _ H4.out.1]
      clear hlr
      go_upto_region 33 with (go_at_call 86; refine (refValue_any _ _ (by assumption)).mono ?_; rintro e w' ⟨rfl, hw'⟩; rw [hw']; clear hw' w')
      obtain ⟨W6, hW6⟩ : ∃ W6, W6 = (W4.setCell ⟨rb, 1, none⟩ (.int .u64 (valW l1 : Nat))) := ⟨_, rfl⟩
      have hrow6 : W6.heap[rb]? = some (.cells #[.int .i64 1, .int .u64 (valW l1 : Nat), .int .u64 0, .int .u64 0, .int .u64 0, .int .u64 0, .int .i64 0, .int .u64 0, .int .u64 0, .slice none 0 0, .slice none 0 0] 41 (0, 0)) := by rw [hW6]; exact heap_set_at (H4.out.1) rfl
      have hrg6 : Rg rb W4 W6 := by rw [hW6]; exact (Rg.refl _ _).setCell _ _
      rw [← hW6]
      have hz6 : W6.heap[w.heap.size]? = some (.cells #[.int .i64 0, .int .u64 0, .int .u64 0, .int .u64 0, .int .u64 0, .int .u64 0, .int .i64 0, .int .u64 0, .int .u64 0, .slice none 0 0, .slice none 0 0] 41 (0, 0)) := (hrg6.keep _ (by omega) lwn).trans H4.out.2.1
      have hB6 : Below w.heap.size w W6 := H4.out.2.2.2.1.trans ((hrg6.below (by omega)).mono (by omega))
      have HRC : Hid (RepR W6 (fun b => w.heap.size < b) true ⟨1, (valW l1), 0, 0, 0, 0, .zero, []⟩ (.agg #[.int .i64 1, .int .u64 (valW l1 : Nat), .int .u64 0, .int .u64 0, .int .u64 0, .int .u64 0, .int .i64 0, .int .u64 0, .int .u64 0, .slice none 0 0, .slice none 0 0])) := Lib.hid (repR_plain W6 _ 1 (valW l1) 0 0 0 0 (by omega) (valW_lt _) (by omega) (by omega) (by omega) (by omega))
      have HCAND : Hid (candB s.data.toList = some ⟨1, (valW l1), 0, 0, 0, 0, .zero, []⟩) := Lib.hid (cand_1 HC.out HLR.out HKD.out)
      have hsz : (Rec.p (⟨1, (valW l1), 0, 0, 0, 0, .zero, []⟩ : Rec)).size ≤ 900 := show (Ex.zero).size ≤ 900 by decide
      have hle : (Rec.es (⟨1, (valW l1), 0, 0, 0, 0, .zero, []⟩ : Rec)).length ≤ 10000 := by simp
      have H6 := Lib.hid (And.intro hrow6 (And.intro hz6 hB6))
      clear hW6 hrow6 hrg6 hz6 hB6 c0 c21 r1 f1
      go_wp2_with (refine wpList_load_row rfl 41 (.tmp 5) rfl rb rfl 41 _ (0, 0) _ H6.out.1 Tryz.underlying41 rfl (by kernel_rfl) ?_)
      refine (refTextR_any _ true (⟨1, (valW l1), 0, 0, 0, 0, .zero, []⟩) _ W6 hsz hle HRC.out).mono ?_
      rintro e w7 ⟨rfl, hb7⟩
      obtain ⟨TB, hTB⟩ : ∃ TB : ByteArray, TB = ⟨(Rec.text (⟨1, (valW l1), 0, 0, 0, 0, .zero, []⟩)).toArray⟩ := ⟨_, rfl⟩
      have eTB : TB.toList = Rec.text (⟨1, (valW l1), 0, 0, 0, 0, .zero, []⟩) := by rw [hTB, ByteArray.toList_eq]
      rw [← hTB]
      have l6 : rb < W6.heap.size := (Array.getElem?_eq_some_iff.1 H6.out.1).1
      have hrow7 := (hb7.block _ l6).trans H6.out.1
      have hz7 := (hb7.block _ (by omega)).trans H6.out.2.1
      have hB7 : Below w.heap.size w w7 := H6.out.2.2.trans (hb7.mono (by omega))
      have hrc7 := HRC.out.below hb7 (Nat.le_refl _)
      have H7 := Lib.hid (And.intro hrow7 (And.intro hz7 (And.intro hB7 hrc7)))
      clear hTB hb7 hrow7 hz7 hB7 hrc7
      by_cases hq : Rec.text (⟨1, (valW l1), 0, 0, 0, 0, .zero, []⟩) = s.data.toList
      · have hne : (TB.toList == s.toList) = true := by rw [eTB, hq, ByteArray.toList_eq]; simp
        have HLN : Hid (lineB s.data.toList = some (⟨1, (valW l1), 0, 0, 0, 0, .zero, []⟩)) := Lib.hid (by rw [← refB_eq, HCAND.out]; simp [hq])
        clear hq eTB
        go_wp2_with (first
          | (refine wpList_load_row rfl 41 (.tmp 5) rfl rb rfl 41 _ (0, 0) _ H7.out.1 Tryz.underlying41 rfl (by kernel_rfl) ?_)
          | (refine wpList_store_row rfl 41 (.tmp 2) (.tmp 144) rfl rfl w.heap.size rfl _ rfl 41 _ H7.out.2.1 (by kernel_rfl) rfl (by simp [Value.oneCell']) ?_))
        exact bodyPost_ret (v := .tuple #[.agg #[.int .i64 1, .int .u64 (valW l1 : Nat), .int .u64 0, .int .u64 0, .int .u64 0, .int .u64 0, .int .i64 0, .int .u64 0, .int .u64 0, .slice none 0 0, .slice none 0 0], .int .i64 0]) (results_row2 rfl _ _ w.heap.size 41 _ _ _ _ rfl (setRow_heap _ _ _ _ _ _ H7.out.2.1) Tryz.underlying41 rfl (by kernel_rfl) rfl) rfl (lineEnds_some _ HLN.out (RepR.keep H7.out.2.2.2 (fun b hb _ => setRow_other _ _ _ _ (by omega)) (fun b _ hb => by omega)) (below_setRow H7.out.2.2.1 _ _ (Nat.le_refl _)))
      · have hne : (TB.toList == s.toList) = false := by rw [eTB, ByteArray.toList_eq]; simpa using hq
        have HLN : Hid (lineB s.data.toList = none) := Lib.hid (by rw [← refB_eq, HCAND.out]; simp [hq])
        clear hq eTB
        go_upto_region 34 with fail
        go_wp2_with (refine wpList_store_row rfl 41 (.tmp 2) (.tmp 143) rfl rfl w.heap.size rfl _ rfl 41 _ H7.out.2.1 (by kernel_rfl) rfl (by simp [Value.oneCell']) ?_)
        exact bodyPost_ret (v := .tuple #[.agg #[.int .i64 0, .int .u64 0, .int .u64 0, .int .u64 0, .int .u64 0, .int .u64 0, .int .i64 0, .int .u64 0, .int .u64 0, .slice none 0 0, .slice none 0 0], .int .i64 50]) (results_row2 rfl _ _ w.heap.size 41 _ _ _ _ rfl (setRow_heap _ _ _ _ _ _ H7.out.2.1) Tryz.underlying41 rfl (by kernel_rfl) rfl) rfl (lineEnds_none HLN.out (below_setRow H7.out.2.2.1 _ _ (Nat.le_refl _)))
set_option maxHeartbeats 8000000 in
set_option maxRecDepth 100000 in
theorem refLine_k2 (s : ByteArray) (w : World) (hs : s.size ≤ 800) (l0 : List UInt8) (lr : List (List UInt8)) (HC : Hid (cuts 32 s.data.toList = l0 :: lr)) (HKD : Hid (kindOf l0 = 2)) :
    Calls Tryz.prog 18 #[.string s] w (LineEnds (lineB s.data.toList) w) := by
  have hb0 : Below w.heap.size w (w.alloc (.cells #[.int .i64 0, .int .u64 0, .int .u64 0, .int .u64 0, .int .u64 0, .int .u64 0, .int .i64 0, .int .u64 0, .int .u64 0, .slice none 0 0, .slice none 0 0] 41)) := (Below.refl _ _).alloc (Nat.le_refl _) _
  have hMem := cuts_mem_length 32 s.data.toList
  have hLen := cuts_length_le 32 s.data.toList
  rw [HC.out] at hMem hLen
  rw [ba_size] at hMem hLen
  have HCU := Lib.hid (refCuts_any 32 s (w.alloc (.cells #[.int .i64 0, .int .u64 0, .int .u64 0, .int .u64 0, .int .u64 0, .int .u64 0, .int .i64 0, .int .u64 0, .int .u64 0, .slice none 0 0, .slice none 0 0] 41)) (by omega))
  obtain ⟨N, hN⟩ : ∃ N, N = lr.length + 1 := ⟨_, rfl⟩
  have HMM := Lib.hid (And.intro hMem (And.intro hLen hN))
  have HB0 := Lib.hid hb0
  have hN0 : 0 < N := by omega
  have hN1 : N ≤ 1000 := by rw [List.length_cons] at hLen; omega
  clear hb0 hMem hLen hN
  go_enter Tryz.func18, Tryz.ntmps18
  go_wp2_with fail
  refine HCU.out.mono ?_
  rintro e W1 ⟨v, rfl, hown, hb1⟩
  rw [HC.out] at hown
  obtain ⟨gg, gc, rfl, hgb, hgl, hcell⟩ := owns_cells hown (by simp)
  rw [List.length_cons, ← HMM.out.2.2]
  simp only [World.size_alloc] at hgb
  have hz1 := hb1.size
  simp only [World.size_alloc] at hz1
  obtain ⟨rb, hrb⟩ : ∃ rb, rb = W1.heap.size := ⟨_, rfl⟩
  obtain ⟨W2, hW2⟩ : ∃ W2, W2 = W1.alloc (.cells #[.int .i64 0, .int .u64 0, .int .u64 0, .int .u64 0, .int .u64 0, .int .u64 0, .int .i64 0, .int .u64 0, .int .u64 0, .slice none 0 0, .slice none 0 0] 41) := ⟨_, rfl⟩
  have hb2 : Below W1.heap.size W1 W2 := by rw [hW2]; exact (Below.refl _ _).alloc (Nat.le_refl _) _
  have hr2 : W2.heap[rb]? = some (.cells #[.int .i64 0, .int .u64 0, .int .u64 0, .int .u64 0, .int .u64 0, .int .u64 0, .int .i64 0, .int .u64 0, .int .u64 0, .slice none 0 0, .slice none 0 0] 41 (0, 0)) := by rw [hW2, hrb]; exact heap_alloc_at _ _ _ rfl
  have hz2 : W2.heap.size = rb + 1 := by rw [hW2, hrb]; simp
  have ho2 : W2.heap[w.heap.size]? = some (.cells #[.int .i64 0, .int .u64 0, .int .u64 0, .int .u64 0, .int .u64 0, .int .u64 0, .int .i64 0, .int .u64 0, .int .u64 0, .slice none 0 0, .slice none 0 0] 41 (0, 0)) := (hb2.block _ (by omega)).trans ((hb1.block _ (by simp)).trans (heap_alloc_at _ _ _ rfl))
  have hl2 : ∀ (i : Nat) (x : List UInt8), (l0 :: lr)[i]? = some x → W2.cell? ⟨gg, i, none⟩ = some (.string ⟨x.toArray⟩) := fun i x hx => (hb2.cell hgl).trans (hcell i _ (by simp only [strs, List.getElem?_map, hx]; rfl))
  have hB2 : Below w.heap.size w W2 := HB0.out.trans ((hb1.mono (by simp)).trans (hb2.mono (by omega)))
  have lgr : gg < rb := by omega
  have lgn : gg ≠ rb := by omega
  have lwr : w.heap.size < rb := by omega
  have lwn : w.heap.size ≠ rb := by omega
  have lwg : w.heap.size < gg := by omega
  have H2 := Lib.hid (And.intro hr2 (And.intro ho2 (And.intro hl2 hB2)))
  have HRB := Lib.hid (And.intro hrb hW2)
  clear hown hb1 hb2 hr2 ho2 hl2 hB2 hcell hgb hz1 hgl HB0 HCU hrb hW2
  go_upto_region 3 with fail
  rw [← HRB.out.2, ← HRB.out.1]
  clear HRB
  go_wp2_with fail
  go_loopw [6] (fun i wr => ∃ j : Nat, i = .int .i64 (j : Nat) ∧ 1 ≤ j ∧ j ≤ 8 ∧ Rg rb W2 wr ∧ wr.heap[rb]? = some (.cells #[.int .i64 ((if 2 < j then 2 else 0 : Nat) : Int), .int .u64 0, .int .u64 0, .int .u64 0, .int .u64 0, .int .u64 0, .int .i64 0, .int .u64 0, .int .u64 0, .slice none 0 0, .slice none 0 0] 41 (0, 0))) (fun i _ => 8 - (intOf i).toNat)
  case atStart => exact ⟨1, rfl, by omega, by omega, Rg.refl _ _, by rw [if_neg (by omega)]; exact H2.out.1⟩
  case round =>
    obtain ⟨j, rfl, hj1, hj8, hrg, hrow⟩ := hrel
    have hzr := hrg.size
    by_cases hj : j < 8
    · obtain ⟨WJ, hWJ⟩ : ∃ WJ : ByteArray, WJ = ⟨(wordOf j).toArray⟩ := ⟨_, rfl⟩
      obtain ⟨L0, hL0⟩ : ∃ L0 : ByteArray, L0 = ⟨l0.toArray⟩ := ⟨_, rfl⟩
      have HWJ : Hid (wordsC[j]? = some (.string WJ)) := Lib.hid (by rw [hWJ]; exact wordsC_at j hj1 (by omega))
      have cl : wr.cell? ⟨gg, 0, none⟩ = some (.string L0) := by rw [hL0]; exact hrg.cell (H2.out.2.2.1 0 l0 rfl) lgn
      have lg : gg < wr.heap.size := by omega
      have eWJ : WJ.toList = wordOf j := by rw [hWJ, ByteArray.toList_eq]
      have eL0 : L0.toList = l0 := by rw [hL0, ByteArray.toList_eq]
      have i1 : (j : Int) < 8 := by omega
      have i0 : (0 : Int) ≤ (j : Int) := by omega
      have i2 : (0 : Int) < (N : Int) := by omega
      have c0 : wr.cell? ⟨rb, 0, none⟩ = some (.int .i64 ((if 2 < j then 2 else 0 : Nat) : Int)) := by rw [cell_of_row wr _ 0 _ _ _ hrow]; rfl
      have f0 : wr.frozen? ⟨rb, 0, none⟩ = false := by rw [frozen_of_row wr _ 0 _ _ hrow]
      have lrb : rb < wr.heap.size := (Array.getElem?_eq_some_iff.1 hrow).1
      have HG := Lib.hid (And.intro hrg hrow)
      clear hrg hrow hWJ hL0
      by_cases hw : wordOf j = l0
      · have hkj : j = 2 := ((kindOf_iff hj1 (by omega) l0).2 hw).symm.trans HKD.out
        have hq : (WJ.toList == L0.toList) = true := by rw [eWJ, eL0]; simpa using hw
        clear eWJ eL0
        have HKJ := Lib.hid hkj
        clear hkj
        go_wp2_with fail
        refine wp_region_prs (w0 := wr) rfl [.of (pWords), .eq (.int .i64 (j : Nat)), .of (pWordAt WJ), .eq (.string WJ), .eq (.slice (some ⟨gg, 0, none⟩) N gc), .eq (.pointer (some ⟨gg, 0, none⟩)), .eq (.string L0), .eq (.bool true)] (by kernel_rfl) ⟨?_, ?_, ?_, ?_, ?_, ?_, ?_, ?_, ?_, ?_, trivial⟩ (fun vs => [(18, vs 0), (19, (.int .i64 (j : Nat))), (20, vs 2), (21, (.string WJ)), (22, (.slice (some ⟨gg, 0, none⟩) N gc)), (23, (.pointer (some ⟨gg, 0, none⟩))), (24, (.string L0)), (25, (.bool true))]) (fun _ => rfl) ?_
        · exact steadyWords
        · refine RStep.mk rfl rfl (fun S a wx K Q hR hK => ?_)
          go_simp
          go_at_call 85
          refine (refWords_any _).mono ?_
          rintro e w' ⟨rfl, rfl⟩
          exact hK _ _ ((Below.refl _ _).alloc (Nat.le_refl _) _) ⟨_, rfl, by simp, hR.new _ (Nat.le_refl _), heap_alloc_at _ _ _ rfl⟩
        · refine RStep.mk rfl rfl (fun S a wx K Q hR hK => ?_)
          have t6 : a.tmps[6]? = some (.int .i64 (j : Nat)) := (hR.old 6 (by kernel_rfl)).trans (by kernel_rfl)
          go_simp
          exact hK _ _ (Below.refl _ _) rfl
        · exact steadyWordAt _
        · refine RStep.mk rfl rfl (fun S a wx K Q hR hK => ?_)
          obtain ⟨u18, t18, f18⟩ := hR.of 0 (by kernel_rfl) rfl rfl
          have t19 := hR.eq 1 (by kernel_rfl) rfl rfl
          obtain ⟨g9, rfl, hg9, hS9, hw9⟩ := (show pWords S u18 wx from f18)
          go_simp
          exact hK _ _ (Below.refl _ _) ⟨g9, j, by simp, hg9, hS9, by rw [cell_of_row wx _ _ _ _ _ hw9]; exact HWJ.out⟩
        · refine RStep.mk rfl rfl (fun S a wx K Q hR hK => ?_)
          obtain ⟨u20, t20, f20⟩ := hR.of 2 (by kernel_rfl) rfl rfl
          obtain ⟨g12, o12, rfl, _, _, y12⟩ := (show pWordAt WJ S u20 wx from f20)
          go_simp
          exact hK _ _ (Below.refl _ _) rfl
        · refine RStep.mk rfl rfl (fun S a wx K Q hR hK => ?_)
          have t4 : a.tmps[4]? = some (.slice (some ⟨gg, 0, none⟩) N gc) := (hR.old 4 (by kernel_rfl)).trans (by kernel_rfl)
          go_simp
          exact hK _ _ (Below.refl _ _) rfl
        · refine RStep.mk rfl rfl (fun S a wx K Q hR hK => ?_)
          have t22 := hR.eq 4 (by kernel_rfl) rfl rfl
          go_simp
          exact hK _ _ (Below.refl _ _) rfl
        · refine RStep.mk rfl rfl (fun S a wx K Q hR hK => ?_)
          have t23 := hR.eq 5 (by kernel_rfl) rfl rfl
          have y0 := (hR.bel.cell lg).trans cl
          go_simp
          exact hK _ _ (Below.refl _ _) rfl
        · refine RStep.mk rfl rfl (fun S a wx K Q hR hK => ?_)
          have t21 := hR.eq 3 (by kernel_rfl) rfl rfl
          have t24 := hR.eq 6 (by kernel_rfl) rfl rfl
          go_simp
          (try go_ints)
          exact hK _ _ (Below.refl _ _) rfl
        intro S1 vs w1 hD
        have hb1 := hD.bel
        have c0' := (hb1.cell lrb).trans c0
        have f0' : w1.frozen? ⟨rb, 0, none⟩ = false := by rw [frozen_of_row w1 _ 0 _ _ ((hb1.block _ lrb).trans HG.out.2)]
        have HB1 := Lib.hid hb1
        simp only [putsL, List.foldl_cons, List.foldl_nil]
        clear hD cl c0 f0 hb1
        go_simp
        go_wp2_with fail
        go_roundw
        case rel =>
          refine ⟨j + 1, by go_num, by omega, by omega, (HG.out.1.trans (Rg.of_below HB1.out)).setCell _ _, ?_⟩
          rw [if_pos (by rw [HKJ.out]; omega)]
          exact heap_set_at ((HB1.out.block _ lrb).trans HG.out.2) (by rw [HKJ.out]; rfl)
        case measure => simp [intOf]; omega
      · have hkj : 2 ≠ j := fun e => hw ((kindOf_iff hj1 (by omega) l0).1 (HKD.out.trans e))
        have hq : (WJ.toList == L0.toList) = false := by rw [eWJ, eL0]; simpa using hw
        clear eWJ eL0
        go_wp2_with fail
        refine wp_region_prs (w0 := wr) rfl [.of (pWords), .eq (.int .i64 (j : Nat)), .of (pWordAt WJ), .eq (.string WJ), .eq (.slice (some ⟨gg, 0, none⟩) N gc), .eq (.pointer (some ⟨gg, 0, none⟩)), .eq (.string L0), .eq (.bool false)] (by kernel_rfl) ⟨?_, ?_, ?_, ?_, ?_, ?_, ?_, ?_, ?_, ?_, trivial⟩ (fun vs => [(18, vs 0), (19, (.int .i64 (j : Nat))), (20, vs 2), (21, (.string WJ)), (22, (.slice (some ⟨gg, 0, none⟩) N gc)), (23, (.pointer (some ⟨gg, 0, none⟩))), (24, (.string L0)), (25, (.bool false))]) (fun _ => rfl) ?_
        · exact steadyWords
        · refine RStep.mk rfl rfl (fun S a wx K Q hR hK => ?_)
          go_simp
          go_at_call 85
          refine (refWords_any _).mono ?_
          rintro e w' ⟨rfl, rfl⟩
          exact hK _ _ ((Below.refl _ _).alloc (Nat.le_refl _) _) ⟨_, rfl, by simp, hR.new _ (Nat.le_refl _), heap_alloc_at _ _ _ rfl⟩
        · refine RStep.mk rfl rfl (fun S a wx K Q hR hK => ?_)
          have t6 : a.tmps[6]? = some (.int .i64 (j : Nat)) := (hR.old 6 (by kernel_rfl)).trans (by kernel_rfl)
          go_simp
          exact hK _ _ (Below.refl _ _) rfl
        · exact steadyWordAt _
        · refine RStep.mk rfl rfl (fun S a wx K Q hR hK => ?_)
          obtain ⟨u18, t18, f18⟩ := hR.of 0 (by kernel_rfl) rfl rfl
          have t19 := hR.eq 1 (by kernel_rfl) rfl rfl
          obtain ⟨g9, rfl, hg9, hS9, hw9⟩ := (show pWords S u18 wx from f18)
          go_simp
          exact hK _ _ (Below.refl _ _) ⟨g9, j, by simp, hg9, hS9, by rw [cell_of_row wx _ _ _ _ _ hw9]; exact HWJ.out⟩
        · refine RStep.mk rfl rfl (fun S a wx K Q hR hK => ?_)
          obtain ⟨u20, t20, f20⟩ := hR.of 2 (by kernel_rfl) rfl rfl
          obtain ⟨g12, o12, rfl, _, _, y12⟩ := (show pWordAt WJ S u20 wx from f20)
          go_simp
          exact hK _ _ (Below.refl _ _) rfl
        · refine RStep.mk rfl rfl (fun S a wx K Q hR hK => ?_)
          have t4 : a.tmps[4]? = some (.slice (some ⟨gg, 0, none⟩) N gc) := (hR.old 4 (by kernel_rfl)).trans (by kernel_rfl)
          go_simp
          exact hK _ _ (Below.refl _ _) rfl
        · refine RStep.mk rfl rfl (fun S a wx K Q hR hK => ?_)
          have t22 := hR.eq 4 (by kernel_rfl) rfl rfl
          go_simp
          exact hK _ _ (Below.refl _ _) rfl
        · refine RStep.mk rfl rfl (fun S a wx K Q hR hK => ?_)
          have t23 := hR.eq 5 (by kernel_rfl) rfl rfl
          have y0 := (hR.bel.cell lg).trans cl
          go_simp
          exact hK _ _ (Below.refl _ _) rfl
        · refine RStep.mk rfl rfl (fun S a wx K Q hR hK => ?_)
          have t21 := hR.eq 3 (by kernel_rfl) rfl rfl
          have t24 := hR.eq 6 (by kernel_rfl) rfl rfl
          go_simp
          (try go_ints)
          exact hK _ _ (Below.refl _ _) rfl
        intro S1 vs w1 hD
        have HB1 := Lib.hid hD.bel
        simp only [putsL, List.foldl_cons, List.foldl_nil]
        clear hD cl
        go_simp
        go_wp2_with fail
        go_roundw
        case rel => exact ⟨j + 1, by go_num, by omega, by omega, HG.out.1.trans (Rg.of_below HB1.out), by
          have h := (HB1.out.block _ lrb).trans HG.out.2
          have e : (if 2 < j + 1 then 2 else 0 : Nat) = (if 2 < j then 2 else 0) := by split <;> split <;> omega
          rw [e]; exact h⟩
        case measure => simp [intOf]; omega
    · have hj2 : j = 8 := by omega
      subst hj2
      rw [if_pos (by omega)] at hrow
      have c0 : wr.cell? ⟨rb, 0, none⟩ = some (.int .i64 2) := by rw [cell_of_row wr _ 0 _ _ _ hrow]; rfl
      have lrb : rb < wr.heap.size := (Array.getElem?_eq_some_iff.1 hrow).1
      have HG := Lib.hid (And.intro hrg hrow)
      clear hrg hrow
      go_upto_region 9 with fail
      obtain ⟨W4, hW4⟩ : ∃ W4, W4 = wr.alloc (.cells #[.int .i64 0, .int .i64 2, .int .i64 4, .int .i64 4, .int .i64 3, .int .i64 3, .int .i64 2, .int .i64 2] 3) := ⟨_, rfl⟩
      have hb4 : Below wr.heap.size wr W4 := by rw [hW4]; exact (Below.refl _ _).alloc (Nat.le_refl _) _
      have hrg4 : Rg rb W2 W4 := HG.out.1.trans (Rg.of_below hb4)
      have hrow4 : W4.heap[rb]? = some (.cells #[.int .i64 2, .int .u64 0, .int .u64 0, .int .u64 0, .int .u64 0, .int .u64 0, .int .i64 0, .int .u64 0, .int .u64 0, .slice none 0 0, .slice none 0 0] 41 (0, 0)) := (hb4.block _ lrb).trans HG.out.2
      have hz4 : W4.heap[w.heap.size]? = some (.cells #[.int .i64 0, .int .u64 0, .int .u64 0, .int .u64 0, .int .u64 0, .int .u64 0, .int .i64 0, .int .u64 0, .int .u64 0, .slice none 0 0, .slice none 0 0] 41 (0, 0)) := (hrg4.keep _ (by omega) lwn).trans H2.out.2.1
      have hl4 : ∀ (i : Nat) (x : List UInt8), (l0 :: lr)[i]? = some x → W4.cell? ⟨gg, i, none⟩ = some (.string ⟨x.toArray⟩) := fun i x hx => hrg4.cell (H2.out.2.2.1 i x hx) lgn
      have hB4 : Below w.heap.size w W4 := H2.out.2.2.2.trans ((hrg4.below (by omega)).mono (by omega))
      have hzz4 := hrg4.size
      have l4 : rb < W4.heap.size := by omega
      have H4 := Lib.hid (And.intro hrow4 (And.intro hz4 (And.intro hl4 (And.intro hB4 hrg4))))
      rw [← hW4]
      have c0 : W4.cell? ⟨rb, 0, none⟩ = some (.int .i64 2) := by rw [cell_of_row W4 _ 0 _ _ _ hrow4]; rfl
      clear hW4 hb4 hrow4 hz4 hl4 hB4 hrg4 hzr HG
      by_cases hlt : N < 4
      · have t1 : decide ((N : Int) < 4) = true := by simp; omega
        have HLN : Hid (lineB s.data.toList = none) := Lib.hid (lineB_bad HC.out HKD.out (by have := HMM.out.2.2; simp [manyK]; omega))
        go_upto_region 10 with fail
        go_wp2_with (refine wpList_store_row rfl 41 (.tmp 2) (.tmp 53) rfl rfl w.heap.size rfl _ rfl 41 _ H4.out.2.1 (by kernel_rfl) rfl (by simp [Value.oneCell']) ?_)
        exact bodyPost_ret (v := .tuple #[.agg #[.int .i64 0, .int .u64 0, .int .u64 0, .int .u64 0, .int .u64 0, .int .u64 0, .int .i64 0, .int .u64 0, .int .u64 0, .slice none 0 0, .slice none 0 0], .int .i64 50]) (results_row2 rfl _ _ w.heap.size 41 _ _ _ _ rfl (setRow_heap _ _ _ _ _ _ H4.out.2.1) Tryz.underlying41 rfl (by kernel_rfl) rfl) rfl (lineEnds_none HLN.out (below_setRow H4.out.2.2.2.1 _ _ (Nat.le_refl _)))
      have t1 : decide ((N : Int) < 4) = false := by simp; omega
      by_cases hgt : 4 < N
      · have t2 : decide ((4 : Int) < (N : Int)) = true := by simp; omega
        have HLN : Hid (lineB s.data.toList = none) := Lib.hid (lineB_bad HC.out HKD.out (by have := HMM.out.2.2; simp [manyK]; omega))
        go_upto_region 10 with fail
        go_wp2_with (refine wpList_store_row rfl 41 (.tmp 2) (.tmp 53) rfl rfl w.heap.size rfl _ rfl 41 _ H4.out.2.1 (by kernel_rfl) rfl (by simp [Value.oneCell']) ?_)
        exact bodyPost_ret (v := .tuple #[.agg #[.int .i64 0, .int .u64 0, .int .u64 0, .int .u64 0, .int .u64 0, .int .u64 0, .int .i64 0, .int .u64 0, .int .u64 0, .slice none 0 0, .slice none 0 0], .int .i64 50]) (results_row2 rfl _ _ w.heap.size 41 _ _ _ _ rfl (setRow_heap _ _ _ _ _ _ H4.out.2.1) Tryz.underlying41 rfl (by kernel_rfl) rfl) rfl (lineEnds_none HLN.out (below_setRow H4.out.2.2.2.1 _ _ (Nat.le_refl _)))
      have t2 : decide ((4 : Int) < (N : Int)) = false := by simp; omega
      obtain ⟨l1, l2, l3, hlr⟩ : ∃ l1 l2 l3, lr = [l1, l2, l3] := len_3 (by have := HMM.out.2.2; omega)
      have hN4 : N = 4 := by have := HMM.out.2.2; rw [hlr] at this; simpa using this
      subst hN4
      have HLR := Lib.hid hlr
      have c21 : W4.cell? ⟨gg, 1, none⟩ = some (.string ⟨l1.toArray⟩) := H4.out.2.2.1 1 l1 (by rw [hlr]; rfl)
      have z1 : (ByteArray.mk l1.toArray).size ≤ 1000000 := by have := HMM.out.1 l1 (by rw [hlr]; simp); rw [← ba_size]; simp; omega
      have c22 : W4.cell? ⟨gg, 2, none⟩ = some (.string ⟨l2.toArray⟩) := H4.out.2.2.1 2 l2 (by rw [hlr]; rfl)
      have z2 : (ByteArray.mk l2.toArray).size ≤ 1000000 := by have := HMM.out.1 l2 (by rw [hlr]; simp); rw [← ba_size]; simp; omega
      have c23 : W4.cell? ⟨gg, 3, none⟩ = some (.string ⟨l3.toArray⟩) := H4.out.2.2.1 3 l3 (by rw [hlr]; rfl)
      have z3 : (ByteArray.mk l3.toArray).size ≤ 1000000 := by have := HMM.out.1 l3 (by rw [hlr]; simp); rw [← ba_size]; simp; omega
      have r1 : W4.cell? ⟨rb, 1, none⟩ = some (.int .u64 0) := by rw [cell_of_row W4 _ 1 _ _ _ H4.out.1]; rfl
      have f1 : W4.frozen? ⟨rb, 1, none⟩ = false := by rw [frozen_of_row W4 _ 1 _ _ H4.out.1]
      have r2 : W4.cell? ⟨rb, 2, none⟩ = some (.int .u64 0) := by rw [cell_of_row W4 _ 2 _ _ _ H4.out.1]; rfl
      have f2 : W4.frozen? ⟨rb, 2, none⟩ = false := by rw [frozen_of_row W4 _ 2 _ _ H4.out.1]
      clear hlr
      go_wp2_with (go_at_call 86; refine (refValue_any _ _ (by assumption)).mono ?_; rintro e w' ⟨rfl, hw'⟩; rw [hw']; clear hw' w')
      obtain ⟨W5, hW5⟩ : ∃ W5, W5 = ((W4.setCell ⟨rb, 1, none⟩ (.int .u64 (valW l1 : Nat))).setCell ⟨rb, 2, none⟩ (.int .u64 (valW l2 : Nat))) := ⟨_, rfl⟩
      have hrow5 : W5.heap[rb]? = some (.cells #[.int .i64 2, .int .u64 (valW l1 : Nat), .int .u64 (valW l2 : Nat), .int .u64 0, .int .u64 0, .int .u64 0, .int .i64 0, .int .u64 0, .int .u64 0, .slice none 0 0, .slice none 0 0] 41 (0, 0)) := by rw [hW5]; exact heap_set_at (heap_set_at H4.out.1 rfl) rfl
      have hrg5 : Rg rb W4 W5 := by rw [hW5]; exact ((Rg.refl _ _).setCell _ _).setCell _ _
      rw [← hW5]
      have H5 := Lib.hid (And.intro hrow5 hrg5)
      clear hW5 hrow5 hrg5 c0 c21 c22 c23 r1 r2 f1 f2
      refine (refVersion_any ⟨l3.toArray⟩ W5 (by have := HMM.out.1 l3 (by rw [HLR.out]; simp); rw [← ba_size]; simp; omega)).mono ?_
      rintro e w6 ⟨rfl, hb6⟩
      have l5 : rb < W5.heap.size := (Array.getElem?_eq_some_iff.1 H5.out.1).1
      have hrow6 := (hb6.block _ l5).trans H5.out.1
      have hrg6 : Rg rb W4 w6 := H5.out.2.trans (Rg.of_below hb6)
      have r3 : w6.cell? ⟨rb, 3, none⟩ = some (.int .u64 0) := by rw [cell_of_row w6 _ 3 _ _ _ hrow6]; rfl
      have r4 : w6.cell? ⟨rb, 4, none⟩ = some (.int .u64 0) := by rw [cell_of_row w6 _ 4 _ _ _ hrow6]; rfl
      have f3 : w6.frozen? ⟨rb, 3, none⟩ = false := by rw [frozen_of_row w6 _ 3 _ _ hrow6]
      have f4 : w6.frozen? ⟨rb, 4, none⟩ = false := by rw [frozen_of_row w6 _ 4 _ _ hrow6]
      have c0 : w6.cell? ⟨rb, 0, none⟩ = some (.int .i64 2) := by rw [cell_of_row w6 _ 0 _ _ _ hrow6]; rfl
      have HR6 := Lib.hid (And.intro hrow6 hrg6)
      clear hb6 hrow6 hrg6
      go_upto_region 33 with fail
      obtain ⟨W6, hW6⟩ : ∃ W6, W6 = ((w6.setCell ⟨rb, 3, none⟩ (.int .u64 ((verV l3).1 : Nat))).setCell ⟨rb, 4, none⟩ (.int .u64 ((verV l3).2 : Nat))) := ⟨_, rfl⟩
      have hrow6 : W6.heap[rb]? = some (.cells #[.int .i64 2, .int .u64 (valW l1 : Nat), .int .u64 (valW l2 : Nat), .int .u64 ((verV l3).1 : Nat), .int .u64 ((verV l3).2 : Nat), .int .u64 0, .int .i64 0, .int .u64 0, .int .u64 0, .slice none 0 0, .slice none 0 0] 41 (0, 0)) := by rw [hW6]; exact heap_set_at (heap_set_at HR6.out.1 rfl) rfl
      have hrg6 : Rg rb W4 W6 := by rw [hW6]; exact (HR6.out.2.setCell _ _).setCell _ _
      rw [← hW6]
      have hz6 : W6.heap[w.heap.size]? = some (.cells #[.int .i64 0, .int .u64 0, .int .u64 0, .int .u64 0, .int .u64 0, .int .u64 0, .int .i64 0, .int .u64 0, .int .u64 0, .slice none 0 0, .slice none 0 0] 41 (0, 0)) := (hrg6.keep _ (by omega) lwn).trans H4.out.2.1
      have hB6 : Below w.heap.size w W6 := H4.out.2.2.2.1.trans ((hrg6.below (by omega)).mono (by omega))
      have HRC : Hid (RepR W6 (fun b => w.heap.size < b) true ⟨2, valW l1, valW l2, (verV l3).1, (verV l3).2, 0, .zero, []⟩ (.agg #[.int .i64 2, .int .u64 (valW l1 : Nat), .int .u64 (valW l2 : Nat), .int .u64 ((verV l3).1 : Nat), .int .u64 ((verV l3).2 : Nat), .int .u64 0, .int .i64 0, .int .u64 0, .int .u64 0, .slice none 0 0, .slice none 0 0])) := Lib.hid (repR_plain W6 _ 2 (valW l1) (valW l2) (verV l3).1 (verV l3).2 0 (by omega) (valW_lt _) (valW_lt _) (verV_lt _).1 (verV_lt _).2 (by omega))
      have HCAND : Hid (candB s.data.toList = some ⟨2, valW l1, valW l2, (verV l3).1, (verV l3).2, 0, .zero, []⟩) := Lib.hid (cand_2 HC.out HLR.out HKD.out)
      have hsz : (Rec.p (⟨2, valW l1, valW l2, (verV l3).1, (verV l3).2, 0, .zero, []⟩ : Rec)).size ≤ 900 := show (Ex.zero).size ≤ 900 by decide
      have hle : (Rec.es (⟨2, valW l1, valW l2, (verV l3).1, (verV l3).2, 0, .zero, []⟩ : Rec)).length ≤ 10000 := by simp
      have H6 := Lib.hid (And.intro hrow6 (And.intro hz6 hB6))
      clear hW6 hrow6 hrg6 hz6 hB6 r3 r4 f3 f4 c0
      go_wp2_with (refine wpList_load_row rfl 41 (.tmp 5) rfl rb rfl 41 _ (0, 0) _ H6.out.1 Tryz.underlying41 rfl (by kernel_rfl) ?_)
      refine (refTextR_any _ true (⟨2, valW l1, valW l2, (verV l3).1, (verV l3).2, 0, .zero, []⟩) _ W6 hsz hle HRC.out).mono ?_
      rintro e w7 ⟨rfl, hb7⟩
      obtain ⟨TB, hTB⟩ : ∃ TB : ByteArray, TB = ⟨(Rec.text (⟨2, valW l1, valW l2, (verV l3).1, (verV l3).2, 0, .zero, []⟩)).toArray⟩ := ⟨_, rfl⟩
      have eTB : TB.toList = Rec.text (⟨2, valW l1, valW l2, (verV l3).1, (verV l3).2, 0, .zero, []⟩) := by rw [hTB, ByteArray.toList_eq]
      rw [← hTB]
      have l6 : rb < W6.heap.size := (Array.getElem?_eq_some_iff.1 H6.out.1).1
      have hrow7 := (hb7.block _ l6).trans H6.out.1
      have hz7 := (hb7.block _ (by omega)).trans H6.out.2.1
      have hB7 : Below w.heap.size w w7 := H6.out.2.2.trans (hb7.mono (by omega))
      have hrc7 := HRC.out.below hb7 (Nat.le_refl _)
      have H7 := Lib.hid (And.intro hrow7 (And.intro hz7 (And.intro hB7 hrc7)))
      clear hTB hb7 hrow7 hz7 hB7 hrc7
      by_cases hq : Rec.text (⟨2, valW l1, valW l2, (verV l3).1, (verV l3).2, 0, .zero, []⟩) = s.data.toList
      · have hne : (TB.toList == s.toList) = true := by rw [eTB, hq, ByteArray.toList_eq]; simp
        have HLN : Hid (lineB s.data.toList = some (⟨2, valW l1, valW l2, (verV l3).1, (verV l3).2, 0, .zero, []⟩)) := Lib.hid (by rw [← refB_eq, HCAND.out]; simp [hq])
        clear hq eTB
        go_wp2_with (first
          | (refine wpList_load_row rfl 41 (.tmp 5) rfl rb rfl 41 _ (0, 0) _ H7.out.1 Tryz.underlying41 rfl (by kernel_rfl) ?_)
          | (refine wpList_store_row rfl 41 (.tmp 2) (.tmp 144) rfl rfl w.heap.size rfl _ rfl 41 _ H7.out.2.1 (by kernel_rfl) rfl (by simp [Value.oneCell']) ?_))
        exact bodyPost_ret (v := .tuple #[.agg #[.int .i64 2, .int .u64 (valW l1 : Nat), .int .u64 (valW l2 : Nat), .int .u64 ((verV l3).1 : Nat), .int .u64 ((verV l3).2 : Nat), .int .u64 0, .int .i64 0, .int .u64 0, .int .u64 0, .slice none 0 0, .slice none 0 0], .int .i64 0]) (results_row2 rfl _ _ w.heap.size 41 _ _ _ _ rfl (setRow_heap _ _ _ _ _ _ H7.out.2.1) Tryz.underlying41 rfl (by kernel_rfl) rfl) rfl (lineEnds_some _ HLN.out (RepR.keep H7.out.2.2.2 (fun b hb _ => setRow_other _ _ _ _ (by omega)) (fun b _ hb => by omega)) (below_setRow H7.out.2.2.1 _ _ (Nat.le_refl _)))
      · have hne : (TB.toList == s.toList) = false := by rw [eTB, ByteArray.toList_eq]; simpa using hq
        have HLN : Hid (lineB s.data.toList = none) := Lib.hid (by rw [← refB_eq, HCAND.out]; simp [hq])
        clear hq eTB
        go_upto_region 34 with fail
        go_wp2_with (refine wpList_store_row rfl 41 (.tmp 2) (.tmp 143) rfl rfl w.heap.size rfl _ rfl 41 _ H7.out.2.1 (by kernel_rfl) rfl (by simp [Value.oneCell']) ?_)
        exact bodyPost_ret (v := .tuple #[.agg #[.int .i64 0, .int .u64 0, .int .u64 0, .int .u64 0, .int .u64 0, .int .u64 0, .int .i64 0, .int .u64 0, .int .u64 0, .slice none 0 0, .slice none 0 0], .int .i64 50]) (results_row2 rfl _ _ w.heap.size 41 _ _ _ _ rfl (setRow_heap _ _ _ _ _ _ H7.out.2.1) Tryz.underlying41 rfl (by kernel_rfl) rfl) rfl (lineEnds_none HLN.out (below_setRow H7.out.2.2.1 _ _ (Nat.le_refl _)))
end Go.Proofs.YtjedgiiplebofaaGreatDoor
namespace Go.Proofs.YtjedgiiplebofaaGreatDoor
open Go.RowKit Go
set_option linter.unusedVariables false
set_option linter.unusedSimpArgs false
set_option maxHeartbeats 8000000 in
set_option maxRecDepth 100000 in
theorem refLine_k3 (s : ByteArray) (w : World) (hs : s.size ≤ 800) (l0 : List UInt8) (lr : List (List UInt8)) (HC : Hid (cuts 32 s.data.toList = l0 :: lr)) (HKD : Hid (kindOf l0 = 3)) :
    Calls Tryz.prog 18 #[.string s] w (LineEnds (lineB s.data.toList) w) := by
  have hb0 : Below w.heap.size w (w.alloc (.cells #[.int .i64 0, .int .u64 0, .int .u64 0, .int .u64 0, .int .u64 0, .int .u64 0, .int .i64 0, .int .u64 0, .int .u64 0, .slice none 0 0, .slice none 0 0] 41)) := (Below.refl _ _).alloc (Nat.le_refl _) _
  have hMem := cuts_mem_length 32 s.data.toList
  have hLen := cuts_length_le 32 s.data.toList
  rw [HC.out] at hMem hLen
  rw [ba_size] at hMem hLen
  have HCU := Lib.hid (refCuts_any 32 s (w.alloc (.cells #[.int .i64 0, .int .u64 0, .int .u64 0, .int .u64 0, .int .u64 0, .int .u64 0, .int .i64 0, .int .u64 0, .int .u64 0, .slice none 0 0, .slice none 0 0] 41)) (by omega))
  obtain ⟨N, hN⟩ : ∃ N, N = lr.length + 1 := ⟨_, rfl⟩
  have HMM := Lib.hid (And.intro hMem (And.intro hLen hN))
  have HB0 := Lib.hid hb0
  have hN0 : 0 < N := by omega
  have hN1 : N ≤ 1000 := by rw [List.length_cons] at hLen; omega
  clear hb0 hMem hLen hN
  go_enter Tryz.func18, Tryz.ntmps18
  go_wp2_with fail
  refine HCU.out.mono ?_
  rintro e W1 ⟨v, rfl, hown, hb1⟩
  rw [HC.out] at hown
  obtain ⟨gg, gc, rfl, hgb, hgl, hcell⟩ := owns_cells hown (by simp)
  rw [List.length_cons, ← HMM.out.2.2]
  simp only [World.size_alloc] at hgb
  have hz1 := hb1.size
  simp only [World.size_alloc] at hz1
  obtain ⟨rb, hrb⟩ : ∃ rb, rb = W1.heap.size := ⟨_, rfl⟩
  obtain ⟨W2, hW2⟩ : ∃ W2, W2 = W1.alloc (.cells #[.int .i64 0, .int .u64 0, .int .u64 0, .int .u64 0, .int .u64 0, .int .u64 0, .int .i64 0, .int .u64 0, .int .u64 0, .slice none 0 0, .slice none 0 0] 41) := ⟨_, rfl⟩
  have hb2 : Below W1.heap.size W1 W2 := by rw [hW2]; exact (Below.refl _ _).alloc (Nat.le_refl _) _
  have hr2 : W2.heap[rb]? = some (.cells #[.int .i64 0, .int .u64 0, .int .u64 0, .int .u64 0, .int .u64 0, .int .u64 0, .int .i64 0, .int .u64 0, .int .u64 0, .slice none 0 0, .slice none 0 0] 41 (0, 0)) := by rw [hW2, hrb]; exact heap_alloc_at _ _ _ rfl
  have hz2 : W2.heap.size = rb + 1 := by rw [hW2, hrb]; simp
  have ho2 : W2.heap[w.heap.size]? = some (.cells #[.int .i64 0, .int .u64 0, .int .u64 0, .int .u64 0, .int .u64 0, .int .u64 0, .int .i64 0, .int .u64 0, .int .u64 0, .slice none 0 0, .slice none 0 0] 41 (0, 0)) := (hb2.block _ (by omega)).trans ((hb1.block _ (by simp)).trans (heap_alloc_at _ _ _ rfl))
  have hl2 : ∀ (i : Nat) (x : List UInt8), (l0 :: lr)[i]? = some x → W2.cell? ⟨gg, i, none⟩ = some (.string ⟨x.toArray⟩) := fun i x hx => (hb2.cell hgl).trans (hcell i _ (by simp only [strs, List.getElem?_map, hx]; rfl))
  have hB2 : Below w.heap.size w W2 := HB0.out.trans ((hb1.mono (by simp)).trans (hb2.mono (by omega)))
  have lgr : gg < rb := by omega
  have lgn : gg ≠ rb := by omega
  have lwr : w.heap.size < rb := by omega
  have lwn : w.heap.size ≠ rb := by omega
  have lwg : w.heap.size < gg := by omega
  have H2 := Lib.hid (And.intro hr2 (And.intro ho2 (And.intro hl2 hB2)))
  have HRB := Lib.hid (And.intro hrb hW2)
  clear hown hb1 hb2 hr2 ho2 hl2 hB2 hcell hgb hz1 hgl HB0 HCU hrb hW2
  go_upto_region 3 with fail
  rw [← HRB.out.2, ← HRB.out.1]
  clear HRB
  go_wp2_with fail
  go_loopw [6] (fun i wr => ∃ j : Nat, i = .int .i64 (j : Nat) ∧ 1 ≤ j ∧ j ≤ 8 ∧ Rg rb W2 wr ∧ wr.heap[rb]? = some (.cells #[.int .i64 ((if 3 < j then 3 else 0 : Nat) : Int), .int .u64 0, .int .u64 0, .int .u64 0, .int .u64 0, .int .u64 0, .int .i64 0, .int .u64 0, .int .u64 0, .slice none 0 0, .slice none 0 0] 41 (0, 0))) (fun i _ => 8 - (intOf i).toNat)
  case atStart => exact ⟨1, rfl, by omega, by omega, Rg.refl _ _, by rw [if_neg (by omega)]; exact H2.out.1⟩
  case round =>
    obtain ⟨j, rfl, hj1, hj8, hrg, hrow⟩ := hrel
    have hzr := hrg.size
    by_cases hj : j < 8
    · obtain ⟨WJ, hWJ⟩ : ∃ WJ : ByteArray, WJ = ⟨(wordOf j).toArray⟩ := ⟨_, rfl⟩
      obtain ⟨L0, hL0⟩ : ∃ L0 : ByteArray, L0 = ⟨l0.toArray⟩ := ⟨_, rfl⟩
      have HWJ : Hid (wordsC[j]? = some (.string WJ)) := Lib.hid (by rw [hWJ]; exact wordsC_at j hj1 (by omega))
      have cl : wr.cell? ⟨gg, 0, none⟩ = some (.string L0) := by rw [hL0]; exact hrg.cell (H2.out.2.2.1 0 l0 rfl) lgn
      have lg : gg < wr.heap.size := by omega
      have eWJ : WJ.toList = wordOf j := by rw [hWJ, ByteArray.toList_eq]
      have eL0 : L0.toList = l0 := by rw [hL0, ByteArray.toList_eq]
      have i1 : (j : Int) < 8 := by omega
      have i0 : (0 : Int) ≤ (j : Int) := by omega
      have i2 : (0 : Int) < (N : Int) := by omega
      have c0 : wr.cell? ⟨rb, 0, none⟩ = some (.int .i64 ((if 3 < j then 3 else 0 : Nat) : Int)) := by rw [cell_of_row wr _ 0 _ _ _ hrow]; rfl
      have f0 : wr.frozen? ⟨rb, 0, none⟩ = false := by rw [frozen_of_row wr _ 0 _ _ hrow]
      have lrb : rb < wr.heap.size := (Array.getElem?_eq_some_iff.1 hrow).1
      have HG := Lib.hid (And.intro hrg hrow)
      clear hrg hrow hWJ hL0
      by_cases hw : wordOf j = l0
      · have hkj : j = 3 := ((kindOf_iff hj1 (by omega) l0).2 hw).symm.trans HKD.out
        have hq : (WJ.toList == L0.toList) = true := by rw [eWJ, eL0]; simpa using hw
        clear eWJ eL0
        have HKJ := Lib.hid hkj
        clear hkj
        go_wp2_with fail
        refine wp_region_prs (w0 := wr) rfl [.of (pWords), .eq (.int .i64 (j : Nat)), .of (pWordAt WJ), .eq (.string WJ), .eq (.slice (some ⟨gg, 0, none⟩) N gc), .eq (.pointer (some ⟨gg, 0, none⟩)), .eq (.string L0), .eq (.bool true)] (by kernel_rfl) ⟨?_, ?_, ?_, ?_, ?_, ?_, ?_, ?_, ?_, ?_, trivial⟩ (fun vs => [(18, vs 0), (19, (.int .i64 (j : Nat))), (20, vs 2), (21, (.string WJ)), (22, (.slice (some ⟨gg, 0, none⟩) N gc)), (23, (.pointer (some ⟨gg, 0, none⟩))), (24, (.string L0)), (25, (.bool true))]) (fun _ => rfl) ?_
        · exact steadyWords
        · refine RStep.mk rfl rfl (fun S a wx K Q hR hK => ?_)
          go_simp
          go_at_call 85
          refine (refWords_any _).mono ?_
          rintro e w' ⟨rfl, rfl⟩
          exact hK _ _ ((Below.refl _ _).alloc (Nat.le_refl _) _) ⟨_, rfl, by simp, hR.new _ (Nat.le_refl _), heap_alloc_at _ _ _ rfl⟩
        · refine RStep.mk rfl rfl (fun S a wx K Q hR hK => ?_)
          have t6 : a.tmps[6]? = some (.int .i64 (j : Nat)) := (hR.old 6 (by kernel_rfl)).trans (by kernel_rfl)
          go_simp
          exact hK _ _ (Below.refl _ _) rfl
        · exact steadyWordAt _
        · refine RStep.mk rfl rfl (fun S a wx K Q hR hK => ?_)
          obtain ⟨u18, t18, f18⟩ := hR.of 0 (by kernel_rfl) rfl rfl
          have t19 := hR.eq 1 (by kernel_rfl) rfl rfl
          obtain ⟨g9, rfl, hg9, hS9, hw9⟩ := (show pWords S u18 wx from f18)
          go_simp
          exact hK _ _ (Below.refl _ _) ⟨g9, j, by simp, hg9, hS9, by rw [cell_of_row wx _ _ _ _ _ hw9]; exact HWJ.out⟩
        · refine RStep.mk rfl rfl (fun S a wx K Q hR hK => ?_)
          obtain ⟨u20, t20, f20⟩ := hR.of 2 (by kernel_rfl) rfl rfl
          obtain ⟨g12, o12, rfl, _, _, y12⟩ := (show pWordAt WJ S u20 wx from f20)
          go_simp
          exact hK _ _ (Below.refl _ _) rfl
        · refine RStep.mk rfl rfl (fun S a wx K Q hR hK => ?_)
          have t4 : a.tmps[4]? = some (.slice (some ⟨gg, 0, none⟩) N gc) := (hR.old 4 (by kernel_rfl)).trans (by kernel_rfl)
          go_simp
          exact hK _ _ (Below.refl _ _) rfl
        · refine RStep.mk rfl rfl (fun S a wx K Q hR hK => ?_)
          have t22 := hR.eq 4 (by kernel_rfl) rfl rfl
          go_simp
          exact hK _ _ (Below.refl _ _) rfl
        · refine RStep.mk rfl rfl (fun S a wx K Q hR hK => ?_)
          have t23 := hR.eq 5 (by kernel_rfl) rfl rfl
          have y0 := (hR.bel.cell lg).trans cl
          go_simp
          exact hK _ _ (Below.refl _ _) rfl
        · refine RStep.mk rfl rfl (fun S a wx K Q hR hK => ?_)
          have t21 := hR.eq 3 (by kernel_rfl) rfl rfl
          have t24 := hR.eq 6 (by kernel_rfl) rfl rfl
          go_simp
          (try go_ints)
          exact hK _ _ (Below.refl _ _) rfl
        intro S1 vs w1 hD
        have hb1 := hD.bel
        have c0' := (hb1.cell lrb).trans c0
        have f0' : w1.frozen? ⟨rb, 0, none⟩ = false := by rw [frozen_of_row w1 _ 0 _ _ ((hb1.block _ lrb).trans HG.out.2)]
        have HB1 := Lib.hid hb1
        simp only [putsL, List.foldl_cons, List.foldl_nil]
        clear hD cl c0 f0 hb1
        go_simp
        go_wp2_with fail
        go_roundw
        case rel =>
          refine ⟨j + 1, by go_num, by omega, by omega, (HG.out.1.trans (Rg.of_below HB1.out)).setCell _ _, ?_⟩
          rw [if_pos (by rw [HKJ.out]; omega)]
          exact heap_set_at ((HB1.out.block _ lrb).trans HG.out.2) (by rw [HKJ.out]; rfl)
        case measure => simp [intOf]; omega
      · have hkj : 3 ≠ j := fun e => hw ((kindOf_iff hj1 (by omega) l0).1 (HKD.out.trans e))
        have hq : (WJ.toList == L0.toList) = false := by rw [eWJ, eL0]; simpa using hw
        clear eWJ eL0
        go_wp2_with fail
        refine wp_region_prs (w0 := wr) rfl [.of (pWords), .eq (.int .i64 (j : Nat)), .of (pWordAt WJ), .eq (.string WJ), .eq (.slice (some ⟨gg, 0, none⟩) N gc), .eq (.pointer (some ⟨gg, 0, none⟩)), .eq (.string L0), .eq (.bool false)] (by kernel_rfl) ⟨?_, ?_, ?_, ?_, ?_, ?_, ?_, ?_, ?_, ?_, trivial⟩ (fun vs => [(18, vs 0), (19, (.int .i64 (j : Nat))), (20, vs 2), (21, (.string WJ)), (22, (.slice (some ⟨gg, 0, none⟩) N gc)), (23, (.pointer (some ⟨gg, 0, none⟩))), (24, (.string L0)), (25, (.bool false))]) (fun _ => rfl) ?_
        · exact steadyWords
        · refine RStep.mk rfl rfl (fun S a wx K Q hR hK => ?_)
          go_simp
          go_at_call 85
          refine (refWords_any _).mono ?_
          rintro e w' ⟨rfl, rfl⟩
          exact hK _ _ ((Below.refl _ _).alloc (Nat.le_refl _) _) ⟨_, rfl, by simp, hR.new _ (Nat.le_refl _), heap_alloc_at _ _ _ rfl⟩
        · refine RStep.mk rfl rfl (fun S a wx K Q hR hK => ?_)
          have t6 : a.tmps[6]? = some (.int .i64 (j : Nat)) := (hR.old 6 (by kernel_rfl)).trans (by kernel_rfl)
          go_simp
          exact hK _ _ (Below.refl _ _) rfl
        · exact steadyWordAt _
        · refine RStep.mk rfl rfl (fun S a wx K Q hR hK => ?_)
          obtain ⟨u18, t18, f18⟩ := hR.of 0 (by kernel_rfl) rfl rfl
          have t19 := hR.eq 1 (by kernel_rfl) rfl rfl
          obtain ⟨g9, rfl, hg9, hS9, hw9⟩ := (show pWords S u18 wx from f18)
          go_simp
          exact hK _ _ (Below.refl _ _) ⟨g9, j, by simp, hg9, hS9, by rw [cell_of_row wx _ _ _ _ _ hw9]; exact HWJ.out⟩
        · refine RStep.mk rfl rfl (fun S a wx K Q hR hK => ?_)
          obtain ⟨u20, t20, f20⟩ := hR.of 2 (by kernel_rfl) rfl rfl
          obtain ⟨g12, o12, rfl, _, _, y12⟩ := (show pWordAt WJ S u20 wx from f20)
          go_simp
          exact hK _ _ (Below.refl _ _) rfl
        · refine RStep.mk rfl rfl (fun S a wx K Q hR hK => ?_)
          have t4 : a.tmps[4]? = some (.slice (some ⟨gg, 0, none⟩) N gc) := (hR.old 4 (by kernel_rfl)).trans (by kernel_rfl)
          go_simp
          exact hK _ _ (Below.refl _ _) rfl
        · refine RStep.mk rfl rfl (fun S a wx K Q hR hK => ?_)
          have t22 := hR.eq 4 (by kernel_rfl) rfl rfl
          go_simp
          exact hK _ _ (Below.refl _ _) rfl
        · refine RStep.mk rfl rfl (fun S a wx K Q hR hK => ?_)
          have t23 := hR.eq 5 (by kernel_rfl) rfl rfl
          have y0 := (hR.bel.cell lg).trans cl
          go_simp
          exact hK _ _ (Below.refl _ _) rfl
        · refine RStep.mk rfl rfl (fun S a wx K Q hR hK => ?_)
          have t21 := hR.eq 3 (by kernel_rfl) rfl rfl
          have t24 := hR.eq 6 (by kernel_rfl) rfl rfl
          go_simp
          (try go_ints)
          exact hK _ _ (Below.refl _ _) rfl
        intro S1 vs w1 hD
        have HB1 := Lib.hid hD.bel
        simp only [putsL, List.foldl_cons, List.foldl_nil]
        clear hD cl
        go_simp
        go_wp2_with fail
        go_roundw
        case rel => exact ⟨j + 1, by go_num, by omega, by omega, HG.out.1.trans (Rg.of_below HB1.out), by
          have h := (HB1.out.block _ lrb).trans HG.out.2
          have e : (if 3 < j + 1 then 3 else 0 : Nat) = (if 3 < j then 3 else 0) := by split <;> split <;> omega
          rw [e]; exact h⟩
        case measure => simp [intOf]; omega
    · have hj2 : j = 8 := by omega
      subst hj2
      rw [if_pos (by omega)] at hrow
      have c0 : wr.cell? ⟨rb, 0, none⟩ = some (.int .i64 3) := by rw [cell_of_row wr _ 0 _ _ _ hrow]; rfl
      have lrb : rb < wr.heap.size := (Array.getElem?_eq_some_iff.1 hrow).1
      have HG := Lib.hid (And.intro hrg hrow)
      clear hrg hrow
      go_upto_region 9 with fail
      obtain ⟨W4, hW4⟩ : ∃ W4, W4 = wr.alloc (.cells #[.int .i64 0, .int .i64 2, .int .i64 4, .int .i64 4, .int .i64 3, .int .i64 3, .int .i64 2, .int .i64 2] 3) := ⟨_, rfl⟩
      have hb4 : Below wr.heap.size wr W4 := by rw [hW4]; exact (Below.refl _ _).alloc (Nat.le_refl _) _
      have hrg4 : Rg rb W2 W4 := HG.out.1.trans (Rg.of_below hb4)
      have hrow4 : W4.heap[rb]? = some (.cells #[.int .i64 3, .int .u64 0, .int .u64 0, .int .u64 0, .int .u64 0, .int .u64 0, .int .i64 0, .int .u64 0, .int .u64 0, .slice none 0 0, .slice none 0 0] 41 (0, 0)) := (hb4.block _ lrb).trans HG.out.2
      have hz4 : W4.heap[w.heap.size]? = some (.cells #[.int .i64 0, .int .u64 0, .int .u64 0, .int .u64 0, .int .u64 0, .int .u64 0, .int .i64 0, .int .u64 0, .int .u64 0, .slice none 0 0, .slice none 0 0] 41 (0, 0)) := (hrg4.keep _ (by omega) lwn).trans H2.out.2.1
      have hl4 : ∀ (i : Nat) (x : List UInt8), (l0 :: lr)[i]? = some x → W4.cell? ⟨gg, i, none⟩ = some (.string ⟨x.toArray⟩) := fun i x hx => hrg4.cell (H2.out.2.2.1 i x hx) lgn
      have hB4 : Below w.heap.size w W4 := H2.out.2.2.2.trans ((hrg4.below (by omega)).mono (by omega))
      have hzz4 := hrg4.size
      have l4 : rb < W4.heap.size := by omega
      have H4 := Lib.hid (And.intro hrow4 (And.intro hz4 (And.intro hl4 (And.intro hB4 hrg4))))
      rw [← hW4]
      have c0 : W4.cell? ⟨rb, 0, none⟩ = some (.int .i64 3) := by rw [cell_of_row W4 _ 0 _ _ _ hrow4]; rfl
      clear hW4 hb4 hrow4 hz4 hl4 hB4 hrg4 hzr HG
      by_cases hlt : N < 4
      · have t1 : decide ((N : Int) < 4) = true := by simp; omega
        have HLN : Hid (lineB s.data.toList = none) := Lib.hid (lineB_bad HC.out HKD.out (by have := HMM.out.2.2; simp [manyK]; omega))
        go_upto_region 10 with fail
        go_wp2_with (refine wpList_store_row rfl 41 (.tmp 2) (.tmp 53) rfl rfl w.heap.size rfl _ rfl 41 _ H4.out.2.1 (by kernel_rfl) rfl (by simp [Value.oneCell']) ?_)
        exact bodyPost_ret (v := .tuple #[.agg #[.int .i64 0, .int .u64 0, .int .u64 0, .int .u64 0, .int .u64 0, .int .u64 0, .int .i64 0, .int .u64 0, .int .u64 0, .slice none 0 0, .slice none 0 0], .int .i64 50]) (results_row2 rfl _ _ w.heap.size 41 _ _ _ _ rfl (setRow_heap _ _ _ _ _ _ H4.out.2.1) Tryz.underlying41 rfl (by kernel_rfl) rfl) rfl (lineEnds_none HLN.out (below_setRow H4.out.2.2.2.1 _ _ (Nat.le_refl _)))
      have t1 : decide ((N : Int) < 4) = false := by simp; omega
      by_cases hgt : 4 < N
      · have t2 : decide ((4 : Int) < (N : Int)) = true := by simp; omega
        have HLN : Hid (lineB s.data.toList = none) := Lib.hid (lineB_bad HC.out HKD.out (by have := HMM.out.2.2; simp [manyK]; omega))
        go_upto_region 10 with fail
        go_wp2_with (refine wpList_store_row rfl 41 (.tmp 2) (.tmp 53) rfl rfl w.heap.size rfl _ rfl 41 _ H4.out.2.1 (by kernel_rfl) rfl (by simp [Value.oneCell']) ?_)
        exact bodyPost_ret (v := .tuple #[.agg #[.int .i64 0, .int .u64 0, .int .u64 0, .int .u64 0, .int .u64 0, .int .u64 0, .int .i64 0, .int .u64 0, .int .u64 0, .slice none 0 0, .slice none 0 0], .int .i64 50]) (results_row2 rfl _ _ w.heap.size 41 _ _ _ _ rfl (setRow_heap _ _ _ _ _ _ H4.out.2.1) Tryz.underlying41 rfl (by kernel_rfl) rfl) rfl (lineEnds_none HLN.out (below_setRow H4.out.2.2.2.1 _ _ (Nat.le_refl _)))
      have t2 : decide ((4 : Int) < (N : Int)) = false := by simp; omega
      obtain ⟨l1, l2, l3, hlr⟩ : ∃ l1 l2 l3, lr = [l1, l2, l3] := len_3 (by have := HMM.out.2.2; omega)
      have hN4 : N = 4 := by have := HMM.out.2.2; rw [hlr] at this; simpa using this
      subst hN4
      have HLR := Lib.hid hlr
      have c21 : W4.cell? ⟨gg, 1, none⟩ = some (.string ⟨l1.toArray⟩) := H4.out.2.2.1 1 l1 (by rw [hlr]; rfl)
      have z1 : (ByteArray.mk l1.toArray).size ≤ 1000000 := by have := HMM.out.1 l1 (by rw [hlr]; simp); rw [← ba_size]; simp; omega
      have c22 : W4.cell? ⟨gg, 2, none⟩ = some (.string ⟨l2.toArray⟩) := H4.out.2.2.1 2 l2 (by rw [hlr]; rfl)
      have z2 : (ByteArray.mk l2.toArray).size ≤ 1000000 := by have := HMM.out.1 l2 (by rw [hlr]; simp); rw [← ba_size]; simp; omega
      have c23 : W4.cell? ⟨gg, 3, none⟩ = some (.string ⟨l3.toArray⟩) := H4.out.2.2.1 3 l3 (by rw [hlr]; rfl)
      have z3 : (ByteArray.mk l3.toArray).size ≤ 1000000 := by have := HMM.out.1 l3 (by rw [hlr]; simp); rw [← ba_size]; simp; omega
      have r1 : W4.cell? ⟨rb, 1, none⟩ = some (.int .u64 0) := by rw [cell_of_row W4 _ 1 _ _ _ H4.out.1]; rfl
      have f1 : W4.frozen? ⟨rb, 1, none⟩ = false := by rw [frozen_of_row W4 _ 1 _ _ H4.out.1]
      have r2 : W4.cell? ⟨rb, 2, none⟩ = some (.int .u64 0) := by rw [cell_of_row W4 _ 2 _ _ _ H4.out.1]; rfl
      have f2 : W4.frozen? ⟨rb, 2, none⟩ = false := by rw [frozen_of_row W4 _ 2 _ _ H4.out.1]
      have r5 : W4.cell? ⟨rb, 5, none⟩ = some (.int .u64 0) := by rw [cell_of_row W4 _ 5 _ _ _ H4.out.1]; rfl
      have f5 : W4.frozen? ⟨rb, 5, none⟩ = false := by rw [frozen_of_row W4 _ 5 _ _ H4.out.1]
      clear hlr
      go_upto_region 33 with (go_at_call 86; refine (refValue_any _ _ (by assumption)).mono ?_; rintro e w' ⟨rfl, hw'⟩; rw [hw']; clear hw' w')
      obtain ⟨W6, hW6⟩ : ∃ W6, W6 = (((W4.setCell ⟨rb, 1, none⟩ (.int .u64 (valW l1 : Nat))).setCell ⟨rb, 2, none⟩ (.int .u64 (valW l2 : Nat))).setCell ⟨rb, 5, none⟩ (.int .u64 (valW l3 : Nat))) := ⟨_, rfl⟩
      have hrow6 : W6.heap[rb]? = some (.cells #[.int .i64 3, .int .u64 (valW l1 : Nat), .int .u64 (valW l2 : Nat), .int .u64 0, .int .u64 0, .int .u64 (valW l3 : Nat), .int .i64 0, .int .u64 0, .int .u64 0, .slice none 0 0, .slice none 0 0] 41 (0, 0)) := by rw [hW6]; exact heap_set_at (heap_set_at (heap_set_at (H4.out.1) rfl) rfl) rfl
      have hrg6 : Rg rb W4 W6 := by rw [hW6]; exact (((Rg.refl _ _).setCell _ _).setCell _ _).setCell _ _
      rw [← hW6]
      have hz6 : W6.heap[w.heap.size]? = some (.cells #[.int .i64 0, .int .u64 0, .int .u64 0, .int .u64 0, .int .u64 0, .int .u64 0, .int .i64 0, .int .u64 0, .int .u64 0, .slice none 0 0, .slice none 0 0] 41 (0, 0)) := (hrg6.keep _ (by omega) lwn).trans H4.out.2.1
      have hB6 : Below w.heap.size w W6 := H4.out.2.2.2.1.trans ((hrg6.below (by omega)).mono (by omega))
      have HRC : Hid (RepR W6 (fun b => w.heap.size < b) true ⟨3, (valW l1), (valW l2), 0, 0, (valW l3), .zero, []⟩ (.agg #[.int .i64 3, .int .u64 (valW l1 : Nat), .int .u64 (valW l2 : Nat), .int .u64 0, .int .u64 0, .int .u64 (valW l3 : Nat), .int .i64 0, .int .u64 0, .int .u64 0, .slice none 0 0, .slice none 0 0])) := Lib.hid (repR_plain W6 _ 3 (valW l1) (valW l2) 0 0 (valW l3) (by omega) (valW_lt _) (valW_lt _) (by omega) (by omega) (valW_lt _))
      have HCAND : Hid (candB s.data.toList = some ⟨3, (valW l1), (valW l2), 0, 0, (valW l3), .zero, []⟩) := Lib.hid (cand_3 HC.out HLR.out HKD.out)
      have hsz : (Rec.p (⟨3, (valW l1), (valW l2), 0, 0, (valW l3), .zero, []⟩ : Rec)).size ≤ 900 := show (Ex.zero).size ≤ 900 by decide
      have hle : (Rec.es (⟨3, (valW l1), (valW l2), 0, 0, (valW l3), .zero, []⟩ : Rec)).length ≤ 10000 := by simp
      have H6 := Lib.hid (And.intro hrow6 (And.intro hz6 hB6))
      clear hW6 hrow6 hrg6 hz6 hB6 c0 c21 c22 c23 r1 f1 r2 f2 r5 f5
      go_wp2_with (refine wpList_load_row rfl 41 (.tmp 5) rfl rb rfl 41 _ (0, 0) _ H6.out.1 Tryz.underlying41 rfl (by kernel_rfl) ?_)
      refine (refTextR_any _ true (⟨3, (valW l1), (valW l2), 0, 0, (valW l3), .zero, []⟩) _ W6 hsz hle HRC.out).mono ?_
      rintro e w7 ⟨rfl, hb7⟩
      obtain ⟨TB, hTB⟩ : ∃ TB : ByteArray, TB = ⟨(Rec.text (⟨3, (valW l1), (valW l2), 0, 0, (valW l3), .zero, []⟩)).toArray⟩ := ⟨_, rfl⟩
      have eTB : TB.toList = Rec.text (⟨3, (valW l1), (valW l2), 0, 0, (valW l3), .zero, []⟩) := by rw [hTB, ByteArray.toList_eq]
      rw [← hTB]
      have l6 : rb < W6.heap.size := (Array.getElem?_eq_some_iff.1 H6.out.1).1
      have hrow7 := (hb7.block _ l6).trans H6.out.1
      have hz7 := (hb7.block _ (by omega)).trans H6.out.2.1
      have hB7 : Below w.heap.size w w7 := H6.out.2.2.trans (hb7.mono (by omega))
      have hrc7 := HRC.out.below hb7 (Nat.le_refl _)
      have H7 := Lib.hid (And.intro hrow7 (And.intro hz7 (And.intro hB7 hrc7)))
      clear hTB hb7 hrow7 hz7 hB7 hrc7
      by_cases hq : Rec.text (⟨3, (valW l1), (valW l2), 0, 0, (valW l3), .zero, []⟩) = s.data.toList
      · have hne : (TB.toList == s.toList) = true := by rw [eTB, hq, ByteArray.toList_eq]; simp
        have HLN : Hid (lineB s.data.toList = some (⟨3, (valW l1), (valW l2), 0, 0, (valW l3), .zero, []⟩)) := Lib.hid (by rw [← refB_eq, HCAND.out]; simp [hq])
        clear hq eTB
        go_wp2_with (first
          | (refine wpList_load_row rfl 41 (.tmp 5) rfl rb rfl 41 _ (0, 0) _ H7.out.1 Tryz.underlying41 rfl (by kernel_rfl) ?_)
          | (refine wpList_store_row rfl 41 (.tmp 2) (.tmp 144) rfl rfl w.heap.size rfl _ rfl 41 _ H7.out.2.1 (by kernel_rfl) rfl (by simp [Value.oneCell']) ?_))
        exact bodyPost_ret (v := .tuple #[.agg #[.int .i64 3, .int .u64 (valW l1 : Nat), .int .u64 (valW l2 : Nat), .int .u64 0, .int .u64 0, .int .u64 (valW l3 : Nat), .int .i64 0, .int .u64 0, .int .u64 0, .slice none 0 0, .slice none 0 0], .int .i64 0]) (results_row2 rfl _ _ w.heap.size 41 _ _ _ _ rfl (setRow_heap _ _ _ _ _ _ H7.out.2.1) Tryz.underlying41 rfl (by kernel_rfl) rfl) rfl (lineEnds_some _ HLN.out (RepR.keep H7.out.2.2.2 (fun b hb _ => setRow_other _ _ _ _ (by omega)) (fun b _ hb => by omega)) (below_setRow H7.out.2.2.1 _ _ (Nat.le_refl _)))
      · have hne : (TB.toList == s.toList) = false := by rw [eTB, ByteArray.toList_eq]; simpa using hq
        have HLN : Hid (lineB s.data.toList = none) := Lib.hid (by rw [← refB_eq, HCAND.out]; simp [hq])
        clear hq eTB
        go_upto_region 34 with fail
        go_wp2_with (refine wpList_store_row rfl 41 (.tmp 2) (.tmp 143) rfl rfl w.heap.size rfl _ rfl 41 _ H7.out.2.1 (by kernel_rfl) rfl (by simp [Value.oneCell']) ?_)
        exact bodyPost_ret (v := .tuple #[.agg #[.int .i64 0, .int .u64 0, .int .u64 0, .int .u64 0, .int .u64 0, .int .u64 0, .int .i64 0, .int .u64 0, .int .u64 0, .slice none 0 0, .slice none 0 0], .int .i64 50]) (results_row2 rfl _ _ w.heap.size 41 _ _ _ _ rfl (setRow_heap _ _ _ _ _ _ H7.out.2.1) Tryz.underlying41 rfl (by kernel_rfl) rfl) rfl (lineEnds_none HLN.out (below_setRow H7.out.2.2.1 _ _ (Nat.le_refl _)))
set_option maxHeartbeats 8000000 in
set_option maxRecDepth 100000 in
theorem refLine_k4 (s : ByteArray) (w : World) (hs : s.size ≤ 800) (l0 : List UInt8) (lr : List (List UInt8)) (HC : Hid (cuts 32 s.data.toList = l0 :: lr)) (HKD : Hid (kindOf l0 = 4)) :
    Calls Tryz.prog 18 #[.string s] w (LineEnds (lineB s.data.toList) w) := by
  have hb0 : Below w.heap.size w (w.alloc (.cells #[.int .i64 0, .int .u64 0, .int .u64 0, .int .u64 0, .int .u64 0, .int .u64 0, .int .i64 0, .int .u64 0, .int .u64 0, .slice none 0 0, .slice none 0 0] 41)) := (Below.refl _ _).alloc (Nat.le_refl _) _
  have hMem := cuts_mem_length 32 s.data.toList
  have hLen := cuts_length_le 32 s.data.toList
  rw [HC.out] at hMem hLen
  rw [ba_size] at hMem hLen
  have HCU := Lib.hid (refCuts_any 32 s (w.alloc (.cells #[.int .i64 0, .int .u64 0, .int .u64 0, .int .u64 0, .int .u64 0, .int .u64 0, .int .i64 0, .int .u64 0, .int .u64 0, .slice none 0 0, .slice none 0 0] 41)) (by omega))
  obtain ⟨N, hN⟩ : ∃ N, N = lr.length + 1 := ⟨_, rfl⟩
  have HMM := Lib.hid (And.intro hMem (And.intro hLen hN))
  have HB0 := Lib.hid hb0
  have hN0 : 0 < N := by omega
  have hN1 : N ≤ 1000 := by rw [List.length_cons] at hLen; omega
  clear hb0 hMem hLen hN
  go_enter Tryz.func18, Tryz.ntmps18
  go_wp2_with fail
  refine HCU.out.mono ?_
  rintro e W1 ⟨v, rfl, hown, hb1⟩
  rw [HC.out] at hown
  obtain ⟨gg, gc, rfl, hgb, hgl, hcell⟩ := owns_cells hown (by simp)
  rw [List.length_cons, ← HMM.out.2.2]
  simp only [World.size_alloc] at hgb
  have hz1 := hb1.size
  simp only [World.size_alloc] at hz1
  obtain ⟨rb, hrb⟩ : ∃ rb, rb = W1.heap.size := ⟨_, rfl⟩
  obtain ⟨W2, hW2⟩ : ∃ W2, W2 = W1.alloc (.cells #[.int .i64 0, .int .u64 0, .int .u64 0, .int .u64 0, .int .u64 0, .int .u64 0, .int .i64 0, .int .u64 0, .int .u64 0, .slice none 0 0, .slice none 0 0] 41) := ⟨_, rfl⟩
  have hb2 : Below W1.heap.size W1 W2 := by rw [hW2]; exact (Below.refl _ _).alloc (Nat.le_refl _) _
  have hr2 : W2.heap[rb]? = some (.cells #[.int .i64 0, .int .u64 0, .int .u64 0, .int .u64 0, .int .u64 0, .int .u64 0, .int .i64 0, .int .u64 0, .int .u64 0, .slice none 0 0, .slice none 0 0] 41 (0, 0)) := by rw [hW2, hrb]; exact heap_alloc_at _ _ _ rfl
  have hz2 : W2.heap.size = rb + 1 := by rw [hW2, hrb]; simp
  have ho2 : W2.heap[w.heap.size]? = some (.cells #[.int .i64 0, .int .u64 0, .int .u64 0, .int .u64 0, .int .u64 0, .int .u64 0, .int .i64 0, .int .u64 0, .int .u64 0, .slice none 0 0, .slice none 0 0] 41 (0, 0)) := (hb2.block _ (by omega)).trans ((hb1.block _ (by simp)).trans (heap_alloc_at _ _ _ rfl))
  have hl2 : ∀ (i : Nat) (x : List UInt8), (l0 :: lr)[i]? = some x → W2.cell? ⟨gg, i, none⟩ = some (.string ⟨x.toArray⟩) := fun i x hx => (hb2.cell hgl).trans (hcell i _ (by simp only [strs, List.getElem?_map, hx]; rfl))
  have hB2 : Below w.heap.size w W2 := HB0.out.trans ((hb1.mono (by simp)).trans (hb2.mono (by omega)))
  have lgr : gg < rb := by omega
  have lgn : gg ≠ rb := by omega
  have lwr : w.heap.size < rb := by omega
  have lwn : w.heap.size ≠ rb := by omega
  have lwg : w.heap.size < gg := by omega
  have H2 := Lib.hid (And.intro hr2 (And.intro ho2 (And.intro hl2 hB2)))
  have HRB := Lib.hid (And.intro hrb hW2)
  clear hown hb1 hb2 hr2 ho2 hl2 hB2 hcell hgb hz1 hgl HB0 HCU hrb hW2
  go_upto_region 3 with fail
  rw [← HRB.out.2, ← HRB.out.1]
  clear HRB
  go_wp2_with fail
  go_loopw [6] (fun i wr => ∃ j : Nat, i = .int .i64 (j : Nat) ∧ 1 ≤ j ∧ j ≤ 8 ∧ Rg rb W2 wr ∧ wr.heap[rb]? = some (.cells #[.int .i64 ((if 4 < j then 4 else 0 : Nat) : Int), .int .u64 0, .int .u64 0, .int .u64 0, .int .u64 0, .int .u64 0, .int .i64 0, .int .u64 0, .int .u64 0, .slice none 0 0, .slice none 0 0] 41 (0, 0))) (fun i _ => 8 - (intOf i).toNat)
  case atStart => exact ⟨1, rfl, by omega, by omega, Rg.refl _ _, by rw [if_neg (by omega)]; exact H2.out.1⟩
  case round =>
    obtain ⟨j, rfl, hj1, hj8, hrg, hrow⟩ := hrel
    have hzr := hrg.size
    by_cases hj : j < 8
    · obtain ⟨WJ, hWJ⟩ : ∃ WJ : ByteArray, WJ = ⟨(wordOf j).toArray⟩ := ⟨_, rfl⟩
      obtain ⟨L0, hL0⟩ : ∃ L0 : ByteArray, L0 = ⟨l0.toArray⟩ := ⟨_, rfl⟩
      have HWJ : Hid (wordsC[j]? = some (.string WJ)) := Lib.hid (by rw [hWJ]; exact wordsC_at j hj1 (by omega))
      have cl : wr.cell? ⟨gg, 0, none⟩ = some (.string L0) := by rw [hL0]; exact hrg.cell (H2.out.2.2.1 0 l0 rfl) lgn
      have lg : gg < wr.heap.size := by omega
      have eWJ : WJ.toList = wordOf j := by rw [hWJ, ByteArray.toList_eq]
      have eL0 : L0.toList = l0 := by rw [hL0, ByteArray.toList_eq]
      have i1 : (j : Int) < 8 := by omega
      have i0 : (0 : Int) ≤ (j : Int) := by omega
      have i2 : (0 : Int) < (N : Int) := by omega
      have c0 : wr.cell? ⟨rb, 0, none⟩ = some (.int .i64 ((if 4 < j then 4 else 0 : Nat) : Int)) := by rw [cell_of_row wr _ 0 _ _ _ hrow]; rfl
      have f0 : wr.frozen? ⟨rb, 0, none⟩ = false := by rw [frozen_of_row wr _ 0 _ _ hrow]
      have lrb : rb < wr.heap.size := (Array.getElem?_eq_some_iff.1 hrow).1
      have HG := Lib.hid (And.intro hrg hrow)
      clear hrg hrow hWJ hL0
      by_cases hw : wordOf j = l0
      · have hkj : j = 4 := ((kindOf_iff hj1 (by omega) l0).2 hw).symm.trans HKD.out
        have hq : (WJ.toList == L0.toList) = true := by rw [eWJ, eL0]; simpa using hw
        clear eWJ eL0
        have HKJ := Lib.hid hkj
        clear hkj
        go_wp2_with fail
        refine wp_region_prs (w0 := wr) rfl [.of (pWords), .eq (.int .i64 (j : Nat)), .of (pWordAt WJ), .eq (.string WJ), .eq (.slice (some ⟨gg, 0, none⟩) N gc), .eq (.pointer (some ⟨gg, 0, none⟩)), .eq (.string L0), .eq (.bool true)] (by kernel_rfl) ⟨?_, ?_, ?_, ?_, ?_, ?_, ?_, ?_, ?_, ?_, trivial⟩ (fun vs => [(18, vs 0), (19, (.int .i64 (j : Nat))), (20, vs 2), (21, (.string WJ)), (22, (.slice (some ⟨gg, 0, none⟩) N gc)), (23, (.pointer (some ⟨gg, 0, none⟩))), (24, (.string L0)), (25, (.bool true))]) (fun _ => rfl) ?_
        · exact steadyWords
        · refine RStep.mk rfl rfl (fun S a wx K Q hR hK => ?_)
          go_simp
          go_at_call 85
          refine (refWords_any _).mono ?_
          rintro e w' ⟨rfl, rfl⟩
          exact hK _ _ ((Below.refl _ _).alloc (Nat.le_refl _) _) ⟨_, rfl, by simp, hR.new _ (Nat.le_refl _), heap_alloc_at _ _ _ rfl⟩
        · refine RStep.mk rfl rfl (fun S a wx K Q hR hK => ?_)
          have t6 : a.tmps[6]? = some (.int .i64 (j : Nat)) := (hR.old 6 (by kernel_rfl)).trans (by kernel_rfl)
          go_simp
          exact hK _ _ (Below.refl _ _) rfl
        · exact steadyWordAt _
        · refine RStep.mk rfl rfl (fun S a wx K Q hR hK => ?_)
          obtain ⟨u18, t18, f18⟩ := hR.of 0 (by kernel_rfl) rfl rfl
          have t19 := hR.eq 1 (by kernel_rfl) rfl rfl
          obtain ⟨g9, rfl, hg9, hS9, hw9⟩ := (show pWords S u18 wx from f18)
          go_simp
          exact hK _ _ (Below.refl _ _) ⟨g9, j, by simp, hg9, hS9, by rw [cell_of_row wx _ _ _ _ _ hw9]; exact HWJ.out⟩
        · refine RStep.mk rfl rfl (fun S a wx K Q hR hK => ?_)
          obtain ⟨u20, t20, f20⟩ := hR.of 2 (by kernel_rfl) rfl rfl
          obtain ⟨g12, o12, rfl, _, _, y12⟩ := (show pWordAt WJ S u20 wx from f20)
          go_simp
          exact hK _ _ (Below.refl _ _) rfl
        · refine RStep.mk rfl rfl (fun S a wx K Q hR hK => ?_)
          have t4 : a.tmps[4]? = some (.slice (some ⟨gg, 0, none⟩) N gc) := (hR.old 4 (by kernel_rfl)).trans (by kernel_rfl)
          go_simp
          exact hK _ _ (Below.refl _ _) rfl
        · refine RStep.mk rfl rfl (fun S a wx K Q hR hK => ?_)
          have t22 := hR.eq 4 (by kernel_rfl) rfl rfl
          go_simp
          exact hK _ _ (Below.refl _ _) rfl
        · refine RStep.mk rfl rfl (fun S a wx K Q hR hK => ?_)
          have t23 := hR.eq 5 (by kernel_rfl) rfl rfl
          have y0 := (hR.bel.cell lg).trans cl
          go_simp
          exact hK _ _ (Below.refl _ _) rfl
        · refine RStep.mk rfl rfl (fun S a wx K Q hR hK => ?_)
          have t21 := hR.eq 3 (by kernel_rfl) rfl rfl
          have t24 := hR.eq 6 (by kernel_rfl) rfl rfl
          go_simp
          (try go_ints)
          exact hK _ _ (Below.refl _ _) rfl
        intro S1 vs w1 hD
        have hb1 := hD.bel
        have c0' := (hb1.cell lrb).trans c0
        have f0' : w1.frozen? ⟨rb, 0, none⟩ = false := by rw [frozen_of_row w1 _ 0 _ _ ((hb1.block _ lrb).trans HG.out.2)]
        have HB1 := Lib.hid hb1
        simp only [putsL, List.foldl_cons, List.foldl_nil]
        clear hD cl c0 f0 hb1
        go_simp
        go_wp2_with fail
        go_roundw
        case rel =>
          refine ⟨j + 1, by go_num, by omega, by omega, (HG.out.1.trans (Rg.of_below HB1.out)).setCell _ _, ?_⟩
          rw [if_pos (by rw [HKJ.out]; omega)]
          exact heap_set_at ((HB1.out.block _ lrb).trans HG.out.2) (by rw [HKJ.out]; rfl)
        case measure => simp [intOf]; omega
      · have hkj : 4 ≠ j := fun e => hw ((kindOf_iff hj1 (by omega) l0).1 (HKD.out.trans e))
        have hq : (WJ.toList == L0.toList) = false := by rw [eWJ, eL0]; simpa using hw
        clear eWJ eL0
        go_wp2_with fail
        refine wp_region_prs (w0 := wr) rfl [.of (pWords), .eq (.int .i64 (j : Nat)), .of (pWordAt WJ), .eq (.string WJ), .eq (.slice (some ⟨gg, 0, none⟩) N gc), .eq (.pointer (some ⟨gg, 0, none⟩)), .eq (.string L0), .eq (.bool false)] (by kernel_rfl) ⟨?_, ?_, ?_, ?_, ?_, ?_, ?_, ?_, ?_, ?_, trivial⟩ (fun vs => [(18, vs 0), (19, (.int .i64 (j : Nat))), (20, vs 2), (21, (.string WJ)), (22, (.slice (some ⟨gg, 0, none⟩) N gc)), (23, (.pointer (some ⟨gg, 0, none⟩))), (24, (.string L0)), (25, (.bool false))]) (fun _ => rfl) ?_
        · exact steadyWords
        · refine RStep.mk rfl rfl (fun S a wx K Q hR hK => ?_)
          go_simp
          go_at_call 85
          refine (refWords_any _).mono ?_
          rintro e w' ⟨rfl, rfl⟩
          exact hK _ _ ((Below.refl _ _).alloc (Nat.le_refl _) _) ⟨_, rfl, by simp, hR.new _ (Nat.le_refl _), heap_alloc_at _ _ _ rfl⟩
        · refine RStep.mk rfl rfl (fun S a wx K Q hR hK => ?_)
          have t6 : a.tmps[6]? = some (.int .i64 (j : Nat)) := (hR.old 6 (by kernel_rfl)).trans (by kernel_rfl)
          go_simp
          exact hK _ _ (Below.refl _ _) rfl
        · exact steadyWordAt _
        · refine RStep.mk rfl rfl (fun S a wx K Q hR hK => ?_)
          obtain ⟨u18, t18, f18⟩ := hR.of 0 (by kernel_rfl) rfl rfl
          have t19 := hR.eq 1 (by kernel_rfl) rfl rfl
          obtain ⟨g9, rfl, hg9, hS9, hw9⟩ := (show pWords S u18 wx from f18)
          go_simp
          exact hK _ _ (Below.refl _ _) ⟨g9, j, by simp, hg9, hS9, by rw [cell_of_row wx _ _ _ _ _ hw9]; exact HWJ.out⟩
        · refine RStep.mk rfl rfl (fun S a wx K Q hR hK => ?_)
          obtain ⟨u20, t20, f20⟩ := hR.of 2 (by kernel_rfl) rfl rfl
          obtain ⟨g12, o12, rfl, _, _, y12⟩ := (show pWordAt WJ S u20 wx from f20)
          go_simp
          exact hK _ _ (Below.refl _ _) rfl
        · refine RStep.mk rfl rfl (fun S a wx K Q hR hK => ?_)
          have t4 : a.tmps[4]? = some (.slice (some ⟨gg, 0, none⟩) N gc) := (hR.old 4 (by kernel_rfl)).trans (by kernel_rfl)
          go_simp
          exact hK _ _ (Below.refl _ _) rfl
        · refine RStep.mk rfl rfl (fun S a wx K Q hR hK => ?_)
          have t22 := hR.eq 4 (by kernel_rfl) rfl rfl
          go_simp
          exact hK _ _ (Below.refl _ _) rfl
        · refine RStep.mk rfl rfl (fun S a wx K Q hR hK => ?_)
          have t23 := hR.eq 5 (by kernel_rfl) rfl rfl
          have y0 := (hR.bel.cell lg).trans cl
          go_simp
          exact hK _ _ (Below.refl _ _) rfl
        · refine RStep.mk rfl rfl (fun S a wx K Q hR hK => ?_)
          have t21 := hR.eq 3 (by kernel_rfl) rfl rfl
          have t24 := hR.eq 6 (by kernel_rfl) rfl rfl
          go_simp
          (try go_ints)
          exact hK _ _ (Below.refl _ _) rfl
        intro S1 vs w1 hD
        have HB1 := Lib.hid hD.bel
        simp only [putsL, List.foldl_cons, List.foldl_nil]
        clear hD cl
        go_simp
        go_wp2_with fail
        go_roundw
        case rel => exact ⟨j + 1, by go_num, by omega, by omega, HG.out.1.trans (Rg.of_below HB1.out), by
          have h := (HB1.out.block _ lrb).trans HG.out.2
          have e : (if 4 < j + 1 then 4 else 0 : Nat) = (if 4 < j then 4 else 0) := by split <;> split <;> omega
          rw [e]; exact h⟩
        case measure => simp [intOf]; omega
    · have hj2 : j = 8 := by omega
      subst hj2
      rw [if_pos (by omega)] at hrow
      have c0 : wr.cell? ⟨rb, 0, none⟩ = some (.int .i64 4) := by rw [cell_of_row wr _ 0 _ _ _ hrow]; rfl
      have lrb : rb < wr.heap.size := (Array.getElem?_eq_some_iff.1 hrow).1
      have HG := Lib.hid (And.intro hrg hrow)
      clear hrg hrow
      go_upto_region 9 with fail
      obtain ⟨W4, hW4⟩ : ∃ W4, W4 = wr.alloc (.cells #[.int .i64 0, .int .i64 2, .int .i64 4, .int .i64 4, .int .i64 3, .int .i64 3, .int .i64 2, .int .i64 2] 3) := ⟨_, rfl⟩
      have hb4 : Below wr.heap.size wr W4 := by rw [hW4]; exact (Below.refl _ _).alloc (Nat.le_refl _) _
      have hrg4 : Rg rb W2 W4 := HG.out.1.trans (Rg.of_below hb4)
      have hrow4 : W4.heap[rb]? = some (.cells #[.int .i64 4, .int .u64 0, .int .u64 0, .int .u64 0, .int .u64 0, .int .u64 0, .int .i64 0, .int .u64 0, .int .u64 0, .slice none 0 0, .slice none 0 0] 41 (0, 0)) := (hb4.block _ lrb).trans HG.out.2
      have hz4 : W4.heap[w.heap.size]? = some (.cells #[.int .i64 0, .int .u64 0, .int .u64 0, .int .u64 0, .int .u64 0, .int .u64 0, .int .i64 0, .int .u64 0, .int .u64 0, .slice none 0 0, .slice none 0 0] 41 (0, 0)) := (hrg4.keep _ (by omega) lwn).trans H2.out.2.1
      have hl4 : ∀ (i : Nat) (x : List UInt8), (l0 :: lr)[i]? = some x → W4.cell? ⟨gg, i, none⟩ = some (.string ⟨x.toArray⟩) := fun i x hx => hrg4.cell (H2.out.2.2.1 i x hx) lgn
      have hB4 : Below w.heap.size w W4 := H2.out.2.2.2.trans ((hrg4.below (by omega)).mono (by omega))
      have hzz4 := hrg4.size
      have l4 : rb < W4.heap.size := by omega
      have H4 := Lib.hid (And.intro hrow4 (And.intro hz4 (And.intro hl4 (And.intro hB4 hrg4))))
      rw [← hW4]
      have c0 : W4.cell? ⟨rb, 0, none⟩ = some (.int .i64 4) := by rw [cell_of_row W4 _ 0 _ _ _ hrow4]; rfl
      clear hW4 hb4 hrow4 hz4 hl4 hB4 hrg4 hzr HG
      by_cases hlt : N < 3
      · have t1 : decide ((N : Int) < 3) = true := by simp; omega
        have HLN : Hid (lineB s.data.toList = none) := Lib.hid (lineB_bad HC.out HKD.out (by have := HMM.out.2.2; simp [manyK]; omega))
        go_upto_region 10 with fail
        go_wp2_with (refine wpList_store_row rfl 41 (.tmp 2) (.tmp 53) rfl rfl w.heap.size rfl _ rfl 41 _ H4.out.2.1 (by kernel_rfl) rfl (by simp [Value.oneCell']) ?_)
        exact bodyPost_ret (v := .tuple #[.agg #[.int .i64 0, .int .u64 0, .int .u64 0, .int .u64 0, .int .u64 0, .int .u64 0, .int .i64 0, .int .u64 0, .int .u64 0, .slice none 0 0, .slice none 0 0], .int .i64 50]) (results_row2 rfl _ _ w.heap.size 41 _ _ _ _ rfl (setRow_heap _ _ _ _ _ _ H4.out.2.1) Tryz.underlying41 rfl (by kernel_rfl) rfl) rfl (lineEnds_none HLN.out (below_setRow H4.out.2.2.2.1 _ _ (Nat.le_refl _)))
      have t1 : decide ((N : Int) < 3) = false := by simp; omega
      by_cases hgt : 3 < N
      · have t2 : decide ((3 : Int) < (N : Int)) = true := by simp; omega
        have HLN : Hid (lineB s.data.toList = none) := Lib.hid (lineB_bad HC.out HKD.out (by have := HMM.out.2.2; simp [manyK]; omega))
        go_upto_region 10 with fail
        go_wp2_with (refine wpList_store_row rfl 41 (.tmp 2) (.tmp 53) rfl rfl w.heap.size rfl _ rfl 41 _ H4.out.2.1 (by kernel_rfl) rfl (by simp [Value.oneCell']) ?_)
        exact bodyPost_ret (v := .tuple #[.agg #[.int .i64 0, .int .u64 0, .int .u64 0, .int .u64 0, .int .u64 0, .int .u64 0, .int .i64 0, .int .u64 0, .int .u64 0, .slice none 0 0, .slice none 0 0], .int .i64 50]) (results_row2 rfl _ _ w.heap.size 41 _ _ _ _ rfl (setRow_heap _ _ _ _ _ _ H4.out.2.1) Tryz.underlying41 rfl (by kernel_rfl) rfl) rfl (lineEnds_none HLN.out (below_setRow H4.out.2.2.2.1 _ _ (Nat.le_refl _)))
      have t2 : decide ((3 : Int) < (N : Int)) = false := by simp; omega
      obtain ⟨l1, l2, hlr⟩ : ∃ l1 l2, lr = [l1, l2] := len_2 (by have := HMM.out.2.2; omega)
      have hN4 : N = 3 := by have := HMM.out.2.2; rw [hlr] at this; simpa using this
      subst hN4
      have HLR := Lib.hid hlr
      have c21 : W4.cell? ⟨gg, 1, none⟩ = some (.string ⟨l1.toArray⟩) := H4.out.2.2.1 1 l1 (by rw [hlr]; rfl)
      have z1 : (ByteArray.mk l1.toArray).size ≤ 1000000 := by have := HMM.out.1 l1 (by rw [hlr]; simp); rw [← ba_size]; simp; omega
      have c22 : W4.cell? ⟨gg, 2, none⟩ = some (.string ⟨l2.toArray⟩) := H4.out.2.2.1 2 l2 (by rw [hlr]; rfl)
      have z2 : (ByteArray.mk l2.toArray).size ≤ 1000000 := by have := HMM.out.1 l2 (by rw [hlr]; simp); rw [← ba_size]; simp; omega
      have r1 : W4.cell? ⟨rb, 1, none⟩ = some (.int .u64 0) := by rw [cell_of_row W4 _ 1 _ _ _ H4.out.1]; rfl
      have f1 : W4.frozen? ⟨rb, 1, none⟩ = false := by rw [frozen_of_row W4 _ 1 _ _ H4.out.1]
      have r2 : W4.cell? ⟨rb, 2, none⟩ = some (.int .u64 0) := by rw [cell_of_row W4 _ 2 _ _ _ H4.out.1]; rfl
      have f2 : W4.frozen? ⟨rb, 2, none⟩ = false := by rw [frozen_of_row W4 _ 2 _ _ H4.out.1]
      clear hlr
      go_upto_region 33 with (go_at_call 86; refine (refValue_any _ _ (by assumption)).mono ?_; rintro e w' ⟨rfl, hw'⟩; rw [hw']; clear hw' w')
      obtain ⟨W6, hW6⟩ : ∃ W6, W6 = ((W4.setCell ⟨rb, 1, none⟩ (.int .u64 (valW l1 : Nat))).setCell ⟨rb, 2, none⟩ (.int .u64 (valW l2 : Nat))) := ⟨_, rfl⟩
      have hrow6 : W6.heap[rb]? = some (.cells #[.int .i64 4, .int .u64 (valW l1 : Nat), .int .u64 (valW l2 : Nat), .int .u64 0, .int .u64 0, .int .u64 0, .int .i64 0, .int .u64 0, .int .u64 0, .slice none 0 0, .slice none 0 0] 41 (0, 0)) := by rw [hW6]; exact heap_set_at (heap_set_at (H4.out.1) rfl) rfl
      have hrg6 : Rg rb W4 W6 := by rw [hW6]; exact ((Rg.refl _ _).setCell _ _).setCell _ _
      rw [← hW6]
      have hz6 : W6.heap[w.heap.size]? = some (.cells #[.int .i64 0, .int .u64 0, .int .u64 0, .int .u64 0, .int .u64 0, .int .u64 0, .int .i64 0, .int .u64 0, .int .u64 0, .slice none 0 0, .slice none 0 0] 41 (0, 0)) := (hrg6.keep _ (by omega) lwn).trans H4.out.2.1
      have hB6 : Below w.heap.size w W6 := H4.out.2.2.2.1.trans ((hrg6.below (by omega)).mono (by omega))
      have HRC : Hid (RepR W6 (fun b => w.heap.size < b) true ⟨4, (valW l1), (valW l2), 0, 0, 0, .zero, []⟩ (.agg #[.int .i64 4, .int .u64 (valW l1 : Nat), .int .u64 (valW l2 : Nat), .int .u64 0, .int .u64 0, .int .u64 0, .int .i64 0, .int .u64 0, .int .u64 0, .slice none 0 0, .slice none 0 0])) := Lib.hid (repR_plain W6 _ 4 (valW l1) (valW l2) 0 0 0 (by omega) (valW_lt _) (valW_lt _) (by omega) (by omega) (by omega))
      have HCAND : Hid (candB s.data.toList = some ⟨4, (valW l1), (valW l2), 0, 0, 0, .zero, []⟩) := Lib.hid (cand_4 HC.out HLR.out HKD.out)
      have hsz : (Rec.p (⟨4, (valW l1), (valW l2), 0, 0, 0, .zero, []⟩ : Rec)).size ≤ 900 := show (Ex.zero).size ≤ 900 by decide
      have hle : (Rec.es (⟨4, (valW l1), (valW l2), 0, 0, 0, .zero, []⟩ : Rec)).length ≤ 10000 := by simp
      have H6 := Lib.hid (And.intro hrow6 (And.intro hz6 hB6))
      clear hW6 hrow6 hrg6 hz6 hB6 c0 c21 c22 r1 f1 r2 f2
      go_wp2_with (refine wpList_load_row rfl 41 (.tmp 5) rfl rb rfl 41 _ (0, 0) _ H6.out.1 Tryz.underlying41 rfl (by kernel_rfl) ?_)
      refine (refTextR_any _ true (⟨4, (valW l1), (valW l2), 0, 0, 0, .zero, []⟩) _ W6 hsz hle HRC.out).mono ?_
      rintro e w7 ⟨rfl, hb7⟩
      obtain ⟨TB, hTB⟩ : ∃ TB : ByteArray, TB = ⟨(Rec.text (⟨4, (valW l1), (valW l2), 0, 0, 0, .zero, []⟩)).toArray⟩ := ⟨_, rfl⟩
      have eTB : TB.toList = Rec.text (⟨4, (valW l1), (valW l2), 0, 0, 0, .zero, []⟩) := by rw [hTB, ByteArray.toList_eq]
      rw [← hTB]
      have l6 : rb < W6.heap.size := (Array.getElem?_eq_some_iff.1 H6.out.1).1
      have hrow7 := (hb7.block _ l6).trans H6.out.1
      have hz7 := (hb7.block _ (by omega)).trans H6.out.2.1
      have hB7 : Below w.heap.size w w7 := H6.out.2.2.trans (hb7.mono (by omega))
      have hrc7 := HRC.out.below hb7 (Nat.le_refl _)
      have H7 := Lib.hid (And.intro hrow7 (And.intro hz7 (And.intro hB7 hrc7)))
      clear hTB hb7 hrow7 hz7 hB7 hrc7
      by_cases hq : Rec.text (⟨4, (valW l1), (valW l2), 0, 0, 0, .zero, []⟩) = s.data.toList
      · have hne : (TB.toList == s.toList) = true := by rw [eTB, hq, ByteArray.toList_eq]; simp
        have HLN : Hid (lineB s.data.toList = some (⟨4, (valW l1), (valW l2), 0, 0, 0, .zero, []⟩)) := Lib.hid (by rw [← refB_eq, HCAND.out]; simp [hq])
        clear hq eTB
        go_wp2_with (first
          | (refine wpList_load_row rfl 41 (.tmp 5) rfl rb rfl 41 _ (0, 0) _ H7.out.1 Tryz.underlying41 rfl (by kernel_rfl) ?_)
          | (refine wpList_store_row rfl 41 (.tmp 2) (.tmp 144) rfl rfl w.heap.size rfl _ rfl 41 _ H7.out.2.1 (by kernel_rfl) rfl (by simp [Value.oneCell']) ?_))
        exact bodyPost_ret (v := .tuple #[.agg #[.int .i64 4, .int .u64 (valW l1 : Nat), .int .u64 (valW l2 : Nat), .int .u64 0, .int .u64 0, .int .u64 0, .int .i64 0, .int .u64 0, .int .u64 0, .slice none 0 0, .slice none 0 0], .int .i64 0]) (results_row2 rfl _ _ w.heap.size 41 _ _ _ _ rfl (setRow_heap _ _ _ _ _ _ H7.out.2.1) Tryz.underlying41 rfl (by kernel_rfl) rfl) rfl (lineEnds_some _ HLN.out (RepR.keep H7.out.2.2.2 (fun b hb _ => setRow_other _ _ _ _ (by omega)) (fun b _ hb => by omega)) (below_setRow H7.out.2.2.1 _ _ (Nat.le_refl _)))
      · have hne : (TB.toList == s.toList) = false := by rw [eTB, ByteArray.toList_eq]; simpa using hq
        have HLN : Hid (lineB s.data.toList = none) := Lib.hid (by rw [← refB_eq, HCAND.out]; simp [hq])
        clear hq eTB
        go_upto_region 34 with fail
        go_wp2_with (refine wpList_store_row rfl 41 (.tmp 2) (.tmp 143) rfl rfl w.heap.size rfl _ rfl 41 _ H7.out.2.1 (by kernel_rfl) rfl (by simp [Value.oneCell']) ?_)
        exact bodyPost_ret (v := .tuple #[.agg #[.int .i64 0, .int .u64 0, .int .u64 0, .int .u64 0, .int .u64 0, .int .u64 0, .int .i64 0, .int .u64 0, .int .u64 0, .slice none 0 0, .slice none 0 0], .int .i64 50]) (results_row2 rfl _ _ w.heap.size 41 _ _ _ _ rfl (setRow_heap _ _ _ _ _ _ H7.out.2.1) Tryz.underlying41 rfl (by kernel_rfl) rfl) rfl (lineEnds_none HLN.out (below_setRow H7.out.2.2.1 _ _ (Nat.le_refl _)))
set_option maxHeartbeats 8000000 in
set_option maxRecDepth 100000 in
theorem refLine_k6 (s : ByteArray) (w : World) (hs : s.size ≤ 800) (l0 : List UInt8) (lr : List (List UInt8)) (HC : Hid (cuts 32 s.data.toList = l0 :: lr)) (HKD : Hid (kindOf l0 = 6)) :
    Calls Tryz.prog 18 #[.string s] w (LineEnds (lineB s.data.toList) w) := by
  have hb0 : Below w.heap.size w (w.alloc (.cells #[.int .i64 0, .int .u64 0, .int .u64 0, .int .u64 0, .int .u64 0, .int .u64 0, .int .i64 0, .int .u64 0, .int .u64 0, .slice none 0 0, .slice none 0 0] 41)) := (Below.refl _ _).alloc (Nat.le_refl _) _
  have hMem := cuts_mem_length 32 s.data.toList
  have hLen := cuts_length_le 32 s.data.toList
  rw [HC.out] at hMem hLen
  rw [ba_size] at hMem hLen
  have HCU := Lib.hid (refCuts_any 32 s (w.alloc (.cells #[.int .i64 0, .int .u64 0, .int .u64 0, .int .u64 0, .int .u64 0, .int .u64 0, .int .i64 0, .int .u64 0, .int .u64 0, .slice none 0 0, .slice none 0 0] 41)) (by omega))
  obtain ⟨N, hN⟩ : ∃ N, N = lr.length + 1 := ⟨_, rfl⟩
  have HMM := Lib.hid (And.intro hMem (And.intro hLen hN))
  have HB0 := Lib.hid hb0
  have hN0 : 0 < N := by omega
  have hN1 : N ≤ 1000 := by rw [List.length_cons] at hLen; omega
  clear hb0 hMem hLen hN
  go_enter Tryz.func18, Tryz.ntmps18
  go_wp2_with fail
  refine HCU.out.mono ?_
  rintro e W1 ⟨v, rfl, hown, hb1⟩
  rw [HC.out] at hown
  obtain ⟨gg, gc, rfl, hgb, hgl, hcell⟩ := owns_cells hown (by simp)
  rw [List.length_cons, ← HMM.out.2.2]
  simp only [World.size_alloc] at hgb
  have hz1 := hb1.size
  simp only [World.size_alloc] at hz1
  obtain ⟨rb, hrb⟩ : ∃ rb, rb = W1.heap.size := ⟨_, rfl⟩
  obtain ⟨W2, hW2⟩ : ∃ W2, W2 = W1.alloc (.cells #[.int .i64 0, .int .u64 0, .int .u64 0, .int .u64 0, .int .u64 0, .int .u64 0, .int .i64 0, .int .u64 0, .int .u64 0, .slice none 0 0, .slice none 0 0] 41) := ⟨_, rfl⟩
  have hb2 : Below W1.heap.size W1 W2 := by rw [hW2]; exact (Below.refl _ _).alloc (Nat.le_refl _) _
  have hr2 : W2.heap[rb]? = some (.cells #[.int .i64 0, .int .u64 0, .int .u64 0, .int .u64 0, .int .u64 0, .int .u64 0, .int .i64 0, .int .u64 0, .int .u64 0, .slice none 0 0, .slice none 0 0] 41 (0, 0)) := by rw [hW2, hrb]; exact heap_alloc_at _ _ _ rfl
  have hz2 : W2.heap.size = rb + 1 := by rw [hW2, hrb]; simp
  have ho2 : W2.heap[w.heap.size]? = some (.cells #[.int .i64 0, .int .u64 0, .int .u64 0, .int .u64 0, .int .u64 0, .int .u64 0, .int .i64 0, .int .u64 0, .int .u64 0, .slice none 0 0, .slice none 0 0] 41 (0, 0)) := (hb2.block _ (by omega)).trans ((hb1.block _ (by simp)).trans (heap_alloc_at _ _ _ rfl))
  have hl2 : ∀ (i : Nat) (x : List UInt8), (l0 :: lr)[i]? = some x → W2.cell? ⟨gg, i, none⟩ = some (.string ⟨x.toArray⟩) := fun i x hx => (hb2.cell hgl).trans (hcell i _ (by simp only [strs, List.getElem?_map, hx]; rfl))
  have hB2 : Below w.heap.size w W2 := HB0.out.trans ((hb1.mono (by simp)).trans (hb2.mono (by omega)))
  have lgr : gg < rb := by omega
  have lgn : gg ≠ rb := by omega
  have lwr : w.heap.size < rb := by omega
  have lwn : w.heap.size ≠ rb := by omega
  have lwg : w.heap.size < gg := by omega
  have H2 := Lib.hid (And.intro hr2 (And.intro ho2 (And.intro hl2 hB2)))
  have HRB := Lib.hid (And.intro hrb hW2)
  clear hown hb1 hb2 hr2 ho2 hl2 hB2 hcell hgb hz1 hgl HB0 HCU hrb hW2
  go_upto_region 3 with fail
  rw [← HRB.out.2, ← HRB.out.1]
  clear HRB
  go_wp2_with fail
  go_loopw [6] (fun i wr => ∃ j : Nat, i = .int .i64 (j : Nat) ∧ 1 ≤ j ∧ j ≤ 8 ∧ Rg rb W2 wr ∧ wr.heap[rb]? = some (.cells #[.int .i64 ((if 6 < j then 6 else 0 : Nat) : Int), .int .u64 0, .int .u64 0, .int .u64 0, .int .u64 0, .int .u64 0, .int .i64 0, .int .u64 0, .int .u64 0, .slice none 0 0, .slice none 0 0] 41 (0, 0))) (fun i _ => 8 - (intOf i).toNat)
  case atStart => exact ⟨1, rfl, by omega, by omega, Rg.refl _ _, by rw [if_neg (by omega)]; exact H2.out.1⟩
  case round =>
    obtain ⟨j, rfl, hj1, hj8, hrg, hrow⟩ := hrel
    have hzr := hrg.size
    by_cases hj : j < 8
    · obtain ⟨WJ, hWJ⟩ : ∃ WJ : ByteArray, WJ = ⟨(wordOf j).toArray⟩ := ⟨_, rfl⟩
      obtain ⟨L0, hL0⟩ : ∃ L0 : ByteArray, L0 = ⟨l0.toArray⟩ := ⟨_, rfl⟩
      have HWJ : Hid (wordsC[j]? = some (.string WJ)) := Lib.hid (by rw [hWJ]; exact wordsC_at j hj1 (by omega))
      have cl : wr.cell? ⟨gg, 0, none⟩ = some (.string L0) := by rw [hL0]; exact hrg.cell (H2.out.2.2.1 0 l0 rfl) lgn
      have lg : gg < wr.heap.size := by omega
      have eWJ : WJ.toList = wordOf j := by rw [hWJ, ByteArray.toList_eq]
      have eL0 : L0.toList = l0 := by rw [hL0, ByteArray.toList_eq]
      have i1 : (j : Int) < 8 := by omega
      have i0 : (0 : Int) ≤ (j : Int) := by omega
      have i2 : (0 : Int) < (N : Int) := by omega
      have c0 : wr.cell? ⟨rb, 0, none⟩ = some (.int .i64 ((if 6 < j then 6 else 0 : Nat) : Int)) := by rw [cell_of_row wr _ 0 _ _ _ hrow]; rfl
      have f0 : wr.frozen? ⟨rb, 0, none⟩ = false := by rw [frozen_of_row wr _ 0 _ _ hrow]
      have lrb : rb < wr.heap.size := (Array.getElem?_eq_some_iff.1 hrow).1
      have HG := Lib.hid (And.intro hrg hrow)
      clear hrg hrow hWJ hL0
      by_cases hw : wordOf j = l0
      · have hkj : j = 6 := ((kindOf_iff hj1 (by omega) l0).2 hw).symm.trans HKD.out
        have hq : (WJ.toList == L0.toList) = true := by rw [eWJ, eL0]; simpa using hw
        clear eWJ eL0
        have HKJ := Lib.hid hkj
        clear hkj
        go_wp2_with fail
        refine wp_region_prs (w0 := wr) rfl [.of (pWords), .eq (.int .i64 (j : Nat)), .of (pWordAt WJ), .eq (.string WJ), .eq (.slice (some ⟨gg, 0, none⟩) N gc), .eq (.pointer (some ⟨gg, 0, none⟩)), .eq (.string L0), .eq (.bool true)] (by kernel_rfl) ⟨?_, ?_, ?_, ?_, ?_, ?_, ?_, ?_, ?_, ?_, trivial⟩ (fun vs => [(18, vs 0), (19, (.int .i64 (j : Nat))), (20, vs 2), (21, (.string WJ)), (22, (.slice (some ⟨gg, 0, none⟩) N gc)), (23, (.pointer (some ⟨gg, 0, none⟩))), (24, (.string L0)), (25, (.bool true))]) (fun _ => rfl) ?_
        · exact steadyWords
        · refine RStep.mk rfl rfl (fun S a wx K Q hR hK => ?_)
          go_simp
          go_at_call 85
          refine (refWords_any _).mono ?_
          rintro e w' ⟨rfl, rfl⟩
          exact hK _ _ ((Below.refl _ _).alloc (Nat.le_refl _) _) ⟨_, rfl, by simp, hR.new _ (Nat.le_refl _), heap_alloc_at _ _ _ rfl⟩
        · refine RStep.mk rfl rfl (fun S a wx K Q hR hK => ?_)
          have t6 : a.tmps[6]? = some (.int .i64 (j : Nat)) := (hR.old 6 (by kernel_rfl)).trans (by kernel_rfl)
          go_simp
          exact hK _ _ (Below.refl _ _) rfl
        · exact steadyWordAt _
        · refine RStep.mk rfl rfl (fun S a wx K Q hR hK => ?_)
          obtain ⟨u18, t18, f18⟩ := hR.of 0 (by kernel_rfl) rfl rfl
          have t19 := hR.eq 1 (by kernel_rfl) rfl rfl
          obtain ⟨g9, rfl, hg9, hS9, hw9⟩ := (show pWords S u18 wx from f18)
          go_simp
          exact hK _ _ (Below.refl _ _) ⟨g9, j, by simp, hg9, hS9, by rw [cell_of_row wx _ _ _ _ _ hw9]; exact HWJ.out⟩
        · refine RStep.mk rfl rfl (fun S a wx K Q hR hK => ?_)
          obtain ⟨u20, t20, f20⟩ := hR.of 2 (by kernel_rfl) rfl rfl
          obtain ⟨g12, o12, rfl, _, _, y12⟩ := (show pWordAt WJ S u20 wx from f20)
          go_simp
          exact hK _ _ (Below.refl _ _) rfl
        · refine RStep.mk rfl rfl (fun S a wx K Q hR hK => ?_)
          have t4 : a.tmps[4]? = some (.slice (some ⟨gg, 0, none⟩) N gc) := (hR.old 4 (by kernel_rfl)).trans (by kernel_rfl)
          go_simp
          exact hK _ _ (Below.refl _ _) rfl
        · refine RStep.mk rfl rfl (fun S a wx K Q hR hK => ?_)
          have t22 := hR.eq 4 (by kernel_rfl) rfl rfl
          go_simp
          exact hK _ _ (Below.refl _ _) rfl
        · refine RStep.mk rfl rfl (fun S a wx K Q hR hK => ?_)
          have t23 := hR.eq 5 (by kernel_rfl) rfl rfl
          have y0 := (hR.bel.cell lg).trans cl
          go_simp
          exact hK _ _ (Below.refl _ _) rfl
        · refine RStep.mk rfl rfl (fun S a wx K Q hR hK => ?_)
          have t21 := hR.eq 3 (by kernel_rfl) rfl rfl
          have t24 := hR.eq 6 (by kernel_rfl) rfl rfl
          go_simp
          (try go_ints)
          exact hK _ _ (Below.refl _ _) rfl
        intro S1 vs w1 hD
        have hb1 := hD.bel
        have c0' := (hb1.cell lrb).trans c0
        have f0' : w1.frozen? ⟨rb, 0, none⟩ = false := by rw [frozen_of_row w1 _ 0 _ _ ((hb1.block _ lrb).trans HG.out.2)]
        have HB1 := Lib.hid hb1
        simp only [putsL, List.foldl_cons, List.foldl_nil]
        clear hD cl c0 f0 hb1
        go_simp
        go_wp2_with fail
        go_roundw
        case rel =>
          refine ⟨j + 1, by go_num, by omega, by omega, (HG.out.1.trans (Rg.of_below HB1.out)).setCell _ _, ?_⟩
          rw [if_pos (by rw [HKJ.out]; omega)]
          exact heap_set_at ((HB1.out.block _ lrb).trans HG.out.2) (by rw [HKJ.out]; rfl)
        case measure => simp [intOf]; omega
      · have hkj : 6 ≠ j := fun e => hw ((kindOf_iff hj1 (by omega) l0).1 (HKD.out.trans e))
        have hq : (WJ.toList == L0.toList) = false := by rw [eWJ, eL0]; simpa using hw
        clear eWJ eL0
        go_wp2_with fail
        refine wp_region_prs (w0 := wr) rfl [.of (pWords), .eq (.int .i64 (j : Nat)), .of (pWordAt WJ), .eq (.string WJ), .eq (.slice (some ⟨gg, 0, none⟩) N gc), .eq (.pointer (some ⟨gg, 0, none⟩)), .eq (.string L0), .eq (.bool false)] (by kernel_rfl) ⟨?_, ?_, ?_, ?_, ?_, ?_, ?_, ?_, ?_, ?_, trivial⟩ (fun vs => [(18, vs 0), (19, (.int .i64 (j : Nat))), (20, vs 2), (21, (.string WJ)), (22, (.slice (some ⟨gg, 0, none⟩) N gc)), (23, (.pointer (some ⟨gg, 0, none⟩))), (24, (.string L0)), (25, (.bool false))]) (fun _ => rfl) ?_
        · exact steadyWords
        · refine RStep.mk rfl rfl (fun S a wx K Q hR hK => ?_)
          go_simp
          go_at_call 85
          refine (refWords_any _).mono ?_
          rintro e w' ⟨rfl, rfl⟩
          exact hK _ _ ((Below.refl _ _).alloc (Nat.le_refl _) _) ⟨_, rfl, by simp, hR.new _ (Nat.le_refl _), heap_alloc_at _ _ _ rfl⟩
        · refine RStep.mk rfl rfl (fun S a wx K Q hR hK => ?_)
          have t6 : a.tmps[6]? = some (.int .i64 (j : Nat)) := (hR.old 6 (by kernel_rfl)).trans (by kernel_rfl)
          go_simp
          exact hK _ _ (Below.refl _ _) rfl
        · exact steadyWordAt _
        · refine RStep.mk rfl rfl (fun S a wx K Q hR hK => ?_)
          obtain ⟨u18, t18, f18⟩ := hR.of 0 (by kernel_rfl) rfl rfl
          have t19 := hR.eq 1 (by kernel_rfl) rfl rfl
          obtain ⟨g9, rfl, hg9, hS9, hw9⟩ := (show pWords S u18 wx from f18)
          go_simp
          exact hK _ _ (Below.refl _ _) ⟨g9, j, by simp, hg9, hS9, by rw [cell_of_row wx _ _ _ _ _ hw9]; exact HWJ.out⟩
        · refine RStep.mk rfl rfl (fun S a wx K Q hR hK => ?_)
          obtain ⟨u20, t20, f20⟩ := hR.of 2 (by kernel_rfl) rfl rfl
          obtain ⟨g12, o12, rfl, _, _, y12⟩ := (show pWordAt WJ S u20 wx from f20)
          go_simp
          exact hK _ _ (Below.refl _ _) rfl
        · refine RStep.mk rfl rfl (fun S a wx K Q hR hK => ?_)
          have t4 : a.tmps[4]? = some (.slice (some ⟨gg, 0, none⟩) N gc) := (hR.old 4 (by kernel_rfl)).trans (by kernel_rfl)
          go_simp
          exact hK _ _ (Below.refl _ _) rfl
        · refine RStep.mk rfl rfl (fun S a wx K Q hR hK => ?_)
          have t22 := hR.eq 4 (by kernel_rfl) rfl rfl
          go_simp
          exact hK _ _ (Below.refl _ _) rfl
        · refine RStep.mk rfl rfl (fun S a wx K Q hR hK => ?_)
          have t23 := hR.eq 5 (by kernel_rfl) rfl rfl
          have y0 := (hR.bel.cell lg).trans cl
          go_simp
          exact hK _ _ (Below.refl _ _) rfl
        · refine RStep.mk rfl rfl (fun S a wx K Q hR hK => ?_)
          have t21 := hR.eq 3 (by kernel_rfl) rfl rfl
          have t24 := hR.eq 6 (by kernel_rfl) rfl rfl
          go_simp
          (try go_ints)
          exact hK _ _ (Below.refl _ _) rfl
        intro S1 vs w1 hD
        have HB1 := Lib.hid hD.bel
        simp only [putsL, List.foldl_cons, List.foldl_nil]
        clear hD cl
        go_simp
        go_wp2_with fail
        go_roundw
        case rel => exact ⟨j + 1, by go_num, by omega, by omega, HG.out.1.trans (Rg.of_below HB1.out), by
          have h := (HB1.out.block _ lrb).trans HG.out.2
          have e : (if 6 < j + 1 then 6 else 0 : Nat) = (if 6 < j then 6 else 0) := by split <;> split <;> omega
          rw [e]; exact h⟩
        case measure => simp [intOf]; omega
    · have hj2 : j = 8 := by omega
      subst hj2
      rw [if_pos (by omega)] at hrow
      have c0 : wr.cell? ⟨rb, 0, none⟩ = some (.int .i64 6) := by rw [cell_of_row wr _ 0 _ _ _ hrow]; rfl
      have lrb : rb < wr.heap.size := (Array.getElem?_eq_some_iff.1 hrow).1
      have HG := Lib.hid (And.intro hrg hrow)
      clear hrg hrow
      go_upto_region 9 with fail
      obtain ⟨W4, hW4⟩ : ∃ W4, W4 = wr.alloc (.cells #[.int .i64 0, .int .i64 2, .int .i64 4, .int .i64 4, .int .i64 3, .int .i64 3, .int .i64 2, .int .i64 2] 3) := ⟨_, rfl⟩
      have hb4 : Below wr.heap.size wr W4 := by rw [hW4]; exact (Below.refl _ _).alloc (Nat.le_refl _) _
      have hrg4 : Rg rb W2 W4 := HG.out.1.trans (Rg.of_below hb4)
      have hrow4 : W4.heap[rb]? = some (.cells #[.int .i64 6, .int .u64 0, .int .u64 0, .int .u64 0, .int .u64 0, .int .u64 0, .int .i64 0, .int .u64 0, .int .u64 0, .slice none 0 0, .slice none 0 0] 41 (0, 0)) := (hb4.block _ lrb).trans HG.out.2
      have hz4 : W4.heap[w.heap.size]? = some (.cells #[.int .i64 0, .int .u64 0, .int .u64 0, .int .u64 0, .int .u64 0, .int .u64 0, .int .i64 0, .int .u64 0, .int .u64 0, .slice none 0 0, .slice none 0 0] 41 (0, 0)) := (hrg4.keep _ (by omega) lwn).trans H2.out.2.1
      have hl4 : ∀ (i : Nat) (x : List UInt8), (l0 :: lr)[i]? = some x → W4.cell? ⟨gg, i, none⟩ = some (.string ⟨x.toArray⟩) := fun i x hx => hrg4.cell (H2.out.2.2.1 i x hx) lgn
      have hB4 : Below w.heap.size w W4 := H2.out.2.2.2.trans ((hrg4.below (by omega)).mono (by omega))
      have hzz4 := hrg4.size
      have l4 : rb < W4.heap.size := by omega
      have H4 := Lib.hid (And.intro hrow4 (And.intro hz4 (And.intro hl4 (And.intro hB4 hrg4))))
      rw [← hW4]
      have c0 : W4.cell? ⟨rb, 0, none⟩ = some (.int .i64 6) := by rw [cell_of_row W4 _ 0 _ _ _ hrow4]; rfl
      clear hW4 hb4 hrow4 hz4 hl4 hB4 hrg4 hzr HG
      by_cases hlt : N < 2
      · have t1 : decide ((N : Int) < 2) = true := by simp; omega
        have HLN : Hid (lineB s.data.toList = none) := Lib.hid (lineB_bad HC.out HKD.out (by have := HMM.out.2.2; simp [manyK]; omega))
        go_upto_region 10 with fail
        go_wp2_with (refine wpList_store_row rfl 41 (.tmp 2) (.tmp 53) rfl rfl w.heap.size rfl _ rfl 41 _ H4.out.2.1 (by kernel_rfl) rfl (by simp [Value.oneCell']) ?_)
        exact bodyPost_ret (v := .tuple #[.agg #[.int .i64 0, .int .u64 0, .int .u64 0, .int .u64 0, .int .u64 0, .int .u64 0, .int .i64 0, .int .u64 0, .int .u64 0, .slice none 0 0, .slice none 0 0], .int .i64 50]) (results_row2 rfl _ _ w.heap.size 41 _ _ _ _ rfl (setRow_heap _ _ _ _ _ _ H4.out.2.1) Tryz.underlying41 rfl (by kernel_rfl) rfl) rfl (lineEnds_none HLN.out (below_setRow H4.out.2.2.2.1 _ _ (Nat.le_refl _)))
      have t1 : decide ((N : Int) < 2) = false := by simp; omega
      by_cases hgt : 2 < N
      · have t2 : decide ((2 : Int) < (N : Int)) = true := by simp; omega
        have HLN : Hid (lineB s.data.toList = none) := Lib.hid (lineB_bad HC.out HKD.out (by have := HMM.out.2.2; simp [manyK]; omega))
        go_upto_region 10 with fail
        go_wp2_with (refine wpList_store_row rfl 41 (.tmp 2) (.tmp 53) rfl rfl w.heap.size rfl _ rfl 41 _ H4.out.2.1 (by kernel_rfl) rfl (by simp [Value.oneCell']) ?_)
        exact bodyPost_ret (v := .tuple #[.agg #[.int .i64 0, .int .u64 0, .int .u64 0, .int .u64 0, .int .u64 0, .int .u64 0, .int .i64 0, .int .u64 0, .int .u64 0, .slice none 0 0, .slice none 0 0], .int .i64 50]) (results_row2 rfl _ _ w.heap.size 41 _ _ _ _ rfl (setRow_heap _ _ _ _ _ _ H4.out.2.1) Tryz.underlying41 rfl (by kernel_rfl) rfl) rfl (lineEnds_none HLN.out (below_setRow H4.out.2.2.2.1 _ _ (Nat.le_refl _)))
      have t2 : decide ((2 : Int) < (N : Int)) = false := by simp; omega
      obtain ⟨l1, hlr⟩ : ∃ l1, lr = [l1] := len_1 (by have := HMM.out.2.2; omega)
      have hN4 : N = 2 := by have := HMM.out.2.2; rw [hlr] at this; simpa using this
      subst hN4
      have HLR := Lib.hid hlr
      have c21 : W4.cell? ⟨gg, 1, none⟩ = some (.string ⟨l1.toArray⟩) := H4.out.2.2.1 1 l1 (by rw [hlr]; rfl)
      have z1 : (ByteArray.mk l1.toArray).size ≤ 1000000 := by have := HMM.out.1 l1 (by rw [hlr]; simp); rw [← ba_size]; simp; omega
      have r1 : W4.cell? ⟨rb, 1, none⟩ = some (.int .u64 0) := by rw [cell_of_row W4 _ 1 _ _ _ H4.out.1]; rfl
      have f1 : W4.frozen? ⟨rb, 1, none⟩ = false := by rw [frozen_of_row W4 _ 1 _ _ H4.out.1]
      clear hlr
      go_upto_region 33 with (go_at_call 86; refine (refValue_any _ _ (by assumption)).mono ?_; rintro e w' ⟨rfl, hw'⟩; rw [hw']; clear hw' w')
      obtain ⟨W6, hW6⟩ : ∃ W6, W6 = (W4.setCell ⟨rb, 1, none⟩ (.int .u64 (valW l1 : Nat))) := ⟨_, rfl⟩
      have hrow6 : W6.heap[rb]? = some (.cells #[.int .i64 6, .int .u64 (valW l1 : Nat), .int .u64 0, .int .u64 0, .int .u64 0, .int .u64 0, .int .i64 0, .int .u64 0, .int .u64 0, .slice none 0 0, .slice none 0 0] 41 (0, 0)) := by rw [hW6]; exact heap_set_at (H4.out.1) rfl
      have hrg6 : Rg rb W4 W6 := by rw [hW6]; exact (Rg.refl _ _).setCell _ _
      rw [← hW6]
      have hz6 : W6.heap[w.heap.size]? = some (.cells #[.int .i64 0, .int .u64 0, .int .u64 0, .int .u64 0, .int .u64 0, .int .u64 0, .int .i64 0, .int .u64 0, .int .u64 0, .slice none 0 0, .slice none 0 0] 41 (0, 0)) := (hrg6.keep _ (by omega) lwn).trans H4.out.2.1
      have hB6 : Below w.heap.size w W6 := H4.out.2.2.2.1.trans ((hrg6.below (by omega)).mono (by omega))
      have HRC : Hid (RepR W6 (fun b => w.heap.size < b) true ⟨6, (valW l1), 0, 0, 0, 0, .zero, []⟩ (.agg #[.int .i64 6, .int .u64 (valW l1 : Nat), .int .u64 0, .int .u64 0, .int .u64 0, .int .u64 0, .int .i64 0, .int .u64 0, .int .u64 0, .slice none 0 0, .slice none 0 0])) := Lib.hid (repR_plain W6 _ 6 (valW l1) 0 0 0 0 (by omega) (valW_lt _) (by omega) (by omega) (by omega) (by omega))
      have HCAND : Hid (candB s.data.toList = some ⟨6, (valW l1), 0, 0, 0, 0, .zero, []⟩) := Lib.hid (cand_1 HC.out HLR.out HKD.out)
      have hsz : (Rec.p (⟨6, (valW l1), 0, 0, 0, 0, .zero, []⟩ : Rec)).size ≤ 900 := show (Ex.zero).size ≤ 900 by decide
      have hle : (Rec.es (⟨6, (valW l1), 0, 0, 0, 0, .zero, []⟩ : Rec)).length ≤ 10000 := by simp
      have H6 := Lib.hid (And.intro hrow6 (And.intro hz6 hB6))
      clear hW6 hrow6 hrg6 hz6 hB6 c0 c21 r1 f1
      go_wp2_with (refine wpList_load_row rfl 41 (.tmp 5) rfl rb rfl 41 _ (0, 0) _ H6.out.1 Tryz.underlying41 rfl (by kernel_rfl) ?_)
      refine (refTextR_any _ true (⟨6, (valW l1), 0, 0, 0, 0, .zero, []⟩) _ W6 hsz hle HRC.out).mono ?_
      rintro e w7 ⟨rfl, hb7⟩
      obtain ⟨TB, hTB⟩ : ∃ TB : ByteArray, TB = ⟨(Rec.text (⟨6, (valW l1), 0, 0, 0, 0, .zero, []⟩)).toArray⟩ := ⟨_, rfl⟩
      have eTB : TB.toList = Rec.text (⟨6, (valW l1), 0, 0, 0, 0, .zero, []⟩) := by rw [hTB, ByteArray.toList_eq]
      rw [← hTB]
      have l6 : rb < W6.heap.size := (Array.getElem?_eq_some_iff.1 H6.out.1).1
      have hrow7 := (hb7.block _ l6).trans H6.out.1
      have hz7 := (hb7.block _ (by omega)).trans H6.out.2.1
      have hB7 : Below w.heap.size w w7 := H6.out.2.2.trans (hb7.mono (by omega))
      have hrc7 := HRC.out.below hb7 (Nat.le_refl _)
      have H7 := Lib.hid (And.intro hrow7 (And.intro hz7 (And.intro hB7 hrc7)))
      clear hTB hb7 hrow7 hz7 hB7 hrc7
      by_cases hq : Rec.text (⟨6, (valW l1), 0, 0, 0, 0, .zero, []⟩) = s.data.toList
      · have hne : (TB.toList == s.toList) = true := by rw [eTB, hq, ByteArray.toList_eq]; simp
        have HLN : Hid (lineB s.data.toList = some (⟨6, (valW l1), 0, 0, 0, 0, .zero, []⟩)) := Lib.hid (by rw [← refB_eq, HCAND.out]; simp [hq])
        clear hq eTB
        go_wp2_with (first
          | (refine wpList_load_row rfl 41 (.tmp 5) rfl rb rfl 41 _ (0, 0) _ H7.out.1 Tryz.underlying41 rfl (by kernel_rfl) ?_)
          | (refine wpList_store_row rfl 41 (.tmp 2) (.tmp 144) rfl rfl w.heap.size rfl _ rfl 41 _ H7.out.2.1 (by kernel_rfl) rfl (by simp [Value.oneCell']) ?_))
        exact bodyPost_ret (v := .tuple #[.agg #[.int .i64 6, .int .u64 (valW l1 : Nat), .int .u64 0, .int .u64 0, .int .u64 0, .int .u64 0, .int .i64 0, .int .u64 0, .int .u64 0, .slice none 0 0, .slice none 0 0], .int .i64 0]) (results_row2 rfl _ _ w.heap.size 41 _ _ _ _ rfl (setRow_heap _ _ _ _ _ _ H7.out.2.1) Tryz.underlying41 rfl (by kernel_rfl) rfl) rfl (lineEnds_some _ HLN.out (RepR.keep H7.out.2.2.2 (fun b hb _ => setRow_other _ _ _ _ (by omega)) (fun b _ hb => by omega)) (below_setRow H7.out.2.2.1 _ _ (Nat.le_refl _)))
      · have hne : (TB.toList == s.toList) = false := by rw [eTB, ByteArray.toList_eq]; simpa using hq
        have HLN : Hid (lineB s.data.toList = none) := Lib.hid (by rw [← refB_eq, HCAND.out]; simp [hq])
        clear hq eTB
        go_upto_region 34 with fail
        go_wp2_with (refine wpList_store_row rfl 41 (.tmp 2) (.tmp 143) rfl rfl w.heap.size rfl _ rfl 41 _ H7.out.2.1 (by kernel_rfl) rfl (by simp [Value.oneCell']) ?_)
        exact bodyPost_ret (v := .tuple #[.agg #[.int .i64 0, .int .u64 0, .int .u64 0, .int .u64 0, .int .u64 0, .int .u64 0, .int .i64 0, .int .u64 0, .int .u64 0, .slice none 0 0, .slice none 0 0], .int .i64 50]) (results_row2 rfl _ _ w.heap.size 41 _ _ _ _ rfl (setRow_heap _ _ _ _ _ _ H7.out.2.1) Tryz.underlying41 rfl (by kernel_rfl) rfl) rfl (lineEnds_none HLN.out (below_setRow H7.out.2.2.1 _ _ (Nat.le_refl _)))
set_option maxHeartbeats 8000000 in
set_option maxRecDepth 100000 in
theorem refLine_k7 (s : ByteArray) (w : World) (hs : s.size ≤ 800) (l0 : List UInt8) (lr : List (List UInt8)) (HC : Hid (cuts 32 s.data.toList = l0 :: lr)) (HKD : Hid (kindOf l0 = 7)) :
    Calls Tryz.prog 18 #[.string s] w (LineEnds (lineB s.data.toList) w) := by
  have hb0 : Below w.heap.size w (w.alloc (.cells #[.int .i64 0, .int .u64 0, .int .u64 0, .int .u64 0, .int .u64 0, .int .u64 0, .int .i64 0, .int .u64 0, .int .u64 0, .slice none 0 0, .slice none 0 0] 41)) := (Below.refl _ _).alloc (Nat.le_refl _) _
  have hMem := cuts_mem_length 32 s.data.toList
  have hLen := cuts_length_le 32 s.data.toList
  rw [HC.out] at hMem hLen
  rw [ba_size] at hMem hLen
  have HCU := Lib.hid (refCuts_any 32 s (w.alloc (.cells #[.int .i64 0, .int .u64 0, .int .u64 0, .int .u64 0, .int .u64 0, .int .u64 0, .int .i64 0, .int .u64 0, .int .u64 0, .slice none 0 0, .slice none 0 0] 41)) (by omega))
  obtain ⟨N, hN⟩ : ∃ N, N = lr.length + 1 := ⟨_, rfl⟩
  have HMM := Lib.hid (And.intro hMem (And.intro hLen hN))
  have HB0 := Lib.hid hb0
  have hN0 : 0 < N := by omega
  have hN1 : N ≤ 1000 := by rw [List.length_cons] at hLen; omega
  clear hb0 hMem hLen hN
  go_enter Tryz.func18, Tryz.ntmps18
  go_wp2_with fail
  refine HCU.out.mono ?_
  rintro e W1 ⟨v, rfl, hown, hb1⟩
  rw [HC.out] at hown
  obtain ⟨gg, gc, rfl, hgb, hgl, hcell⟩ := owns_cells hown (by simp)
  rw [List.length_cons, ← HMM.out.2.2]
  simp only [World.size_alloc] at hgb
  have hz1 := hb1.size
  simp only [World.size_alloc] at hz1
  obtain ⟨rb, hrb⟩ : ∃ rb, rb = W1.heap.size := ⟨_, rfl⟩
  obtain ⟨W2, hW2⟩ : ∃ W2, W2 = W1.alloc (.cells #[.int .i64 0, .int .u64 0, .int .u64 0, .int .u64 0, .int .u64 0, .int .u64 0, .int .i64 0, .int .u64 0, .int .u64 0, .slice none 0 0, .slice none 0 0] 41) := ⟨_, rfl⟩
  have hb2 : Below W1.heap.size W1 W2 := by rw [hW2]; exact (Below.refl _ _).alloc (Nat.le_refl _) _
  have hr2 : W2.heap[rb]? = some (.cells #[.int .i64 0, .int .u64 0, .int .u64 0, .int .u64 0, .int .u64 0, .int .u64 0, .int .i64 0, .int .u64 0, .int .u64 0, .slice none 0 0, .slice none 0 0] 41 (0, 0)) := by rw [hW2, hrb]; exact heap_alloc_at _ _ _ rfl
  have hz2 : W2.heap.size = rb + 1 := by rw [hW2, hrb]; simp
  have ho2 : W2.heap[w.heap.size]? = some (.cells #[.int .i64 0, .int .u64 0, .int .u64 0, .int .u64 0, .int .u64 0, .int .u64 0, .int .i64 0, .int .u64 0, .int .u64 0, .slice none 0 0, .slice none 0 0] 41 (0, 0)) := (hb2.block _ (by omega)).trans ((hb1.block _ (by simp)).trans (heap_alloc_at _ _ _ rfl))
  have hl2 : ∀ (i : Nat) (x : List UInt8), (l0 :: lr)[i]? = some x → W2.cell? ⟨gg, i, none⟩ = some (.string ⟨x.toArray⟩) := fun i x hx => (hb2.cell hgl).trans (hcell i _ (by simp only [strs, List.getElem?_map, hx]; rfl))
  have hB2 : Below w.heap.size w W2 := HB0.out.trans ((hb1.mono (by simp)).trans (hb2.mono (by omega)))
  have lgr : gg < rb := by omega
  have lgn : gg ≠ rb := by omega
  have lwr : w.heap.size < rb := by omega
  have lwn : w.heap.size ≠ rb := by omega
  have lwg : w.heap.size < gg := by omega
  have H2 := Lib.hid (And.intro hr2 (And.intro ho2 (And.intro hl2 hB2)))
  have HRB := Lib.hid (And.intro hrb hW2)
  clear hown hb1 hb2 hr2 ho2 hl2 hB2 hcell hgb hz1 hgl HB0 HCU hrb hW2
  go_upto_region 3 with fail
  rw [← HRB.out.2, ← HRB.out.1]
  clear HRB
  go_wp2_with fail
  go_loopw [6] (fun i wr => ∃ j : Nat, i = .int .i64 (j : Nat) ∧ 1 ≤ j ∧ j ≤ 8 ∧ Rg rb W2 wr ∧ wr.heap[rb]? = some (.cells #[.int .i64 ((if 7 < j then 7 else 0 : Nat) : Int), .int .u64 0, .int .u64 0, .int .u64 0, .int .u64 0, .int .u64 0, .int .i64 0, .int .u64 0, .int .u64 0, .slice none 0 0, .slice none 0 0] 41 (0, 0))) (fun i _ => 8 - (intOf i).toNat)
  case atStart => exact ⟨1, rfl, by omega, by omega, Rg.refl _ _, by rw [if_neg (by omega)]; exact H2.out.1⟩
  case round =>
    obtain ⟨j, rfl, hj1, hj8, hrg, hrow⟩ := hrel
    have hzr := hrg.size
    by_cases hj : j < 8
    · obtain ⟨WJ, hWJ⟩ : ∃ WJ : ByteArray, WJ = ⟨(wordOf j).toArray⟩ := ⟨_, rfl⟩
      obtain ⟨L0, hL0⟩ : ∃ L0 : ByteArray, L0 = ⟨l0.toArray⟩ := ⟨_, rfl⟩
      have HWJ : Hid (wordsC[j]? = some (.string WJ)) := Lib.hid (by rw [hWJ]; exact wordsC_at j hj1 (by omega))
      have cl : wr.cell? ⟨gg, 0, none⟩ = some (.string L0) := by rw [hL0]; exact hrg.cell (H2.out.2.2.1 0 l0 rfl) lgn
      have lg : gg < wr.heap.size := by omega
      have eWJ : WJ.toList = wordOf j := by rw [hWJ, ByteArray.toList_eq]
      have eL0 : L0.toList = l0 := by rw [hL0, ByteArray.toList_eq]
      have i1 : (j : Int) < 8 := by omega
      have i0 : (0 : Int) ≤ (j : Int) := by omega
      have i2 : (0 : Int) < (N : Int) := by omega
      have c0 : wr.cell? ⟨rb, 0, none⟩ = some (.int .i64 ((if 7 < j then 7 else 0 : Nat) : Int)) := by rw [cell_of_row wr _ 0 _ _ _ hrow]; rfl
      have f0 : wr.frozen? ⟨rb, 0, none⟩ = false := by rw [frozen_of_row wr _ 0 _ _ hrow]
      have lrb : rb < wr.heap.size := (Array.getElem?_eq_some_iff.1 hrow).1
      have HG := Lib.hid (And.intro hrg hrow)
      clear hrg hrow hWJ hL0
      by_cases hw : wordOf j = l0
      · have hkj : j = 7 := ((kindOf_iff hj1 (by omega) l0).2 hw).symm.trans HKD.out
        have hq : (WJ.toList == L0.toList) = true := by rw [eWJ, eL0]; simpa using hw
        clear eWJ eL0
        have HKJ := Lib.hid hkj
        clear hkj
        go_wp2_with fail
        refine wp_region_prs (w0 := wr) rfl [.of (pWords), .eq (.int .i64 (j : Nat)), .of (pWordAt WJ), .eq (.string WJ), .eq (.slice (some ⟨gg, 0, none⟩) N gc), .eq (.pointer (some ⟨gg, 0, none⟩)), .eq (.string L0), .eq (.bool true)] (by kernel_rfl) ⟨?_, ?_, ?_, ?_, ?_, ?_, ?_, ?_, ?_, ?_, trivial⟩ (fun vs => [(18, vs 0), (19, (.int .i64 (j : Nat))), (20, vs 2), (21, (.string WJ)), (22, (.slice (some ⟨gg, 0, none⟩) N gc)), (23, (.pointer (some ⟨gg, 0, none⟩))), (24, (.string L0)), (25, (.bool true))]) (fun _ => rfl) ?_
        · exact steadyWords
        · refine RStep.mk rfl rfl (fun S a wx K Q hR hK => ?_)
          go_simp
          go_at_call 85
          refine (refWords_any _).mono ?_
          rintro e w' ⟨rfl, rfl⟩
          exact hK _ _ ((Below.refl _ _).alloc (Nat.le_refl _) _) ⟨_, rfl, by simp, hR.new _ (Nat.le_refl _), heap_alloc_at _ _ _ rfl⟩
        · refine RStep.mk rfl rfl (fun S a wx K Q hR hK => ?_)
          have t6 : a.tmps[6]? = some (.int .i64 (j : Nat)) := (hR.old 6 (by kernel_rfl)).trans (by kernel_rfl)
          go_simp
          exact hK _ _ (Below.refl _ _) rfl
        · exact steadyWordAt _
        · refine RStep.mk rfl rfl (fun S a wx K Q hR hK => ?_)
          obtain ⟨u18, t18, f18⟩ := hR.of 0 (by kernel_rfl) rfl rfl
          have t19 := hR.eq 1 (by kernel_rfl) rfl rfl
          obtain ⟨g9, rfl, hg9, hS9, hw9⟩ := (show pWords S u18 wx from f18)
          go_simp
          exact hK _ _ (Below.refl _ _) ⟨g9, j, by simp, hg9, hS9, by rw [cell_of_row wx _ _ _ _ _ hw9]; exact HWJ.out⟩
        · refine RStep.mk rfl rfl (fun S a wx K Q hR hK => ?_)
          obtain ⟨u20, t20, f20⟩ := hR.of 2 (by kernel_rfl) rfl rfl
          obtain ⟨g12, o12, rfl, _, _, y12⟩ := (show pWordAt WJ S u20 wx from f20)
          go_simp
          exact hK _ _ (Below.refl _ _) rfl
        · refine RStep.mk rfl rfl (fun S a wx K Q hR hK => ?_)
          have t4 : a.tmps[4]? = some (.slice (some ⟨gg, 0, none⟩) N gc) := (hR.old 4 (by kernel_rfl)).trans (by kernel_rfl)
          go_simp
          exact hK _ _ (Below.refl _ _) rfl
        · refine RStep.mk rfl rfl (fun S a wx K Q hR hK => ?_)
          have t22 := hR.eq 4 (by kernel_rfl) rfl rfl
          go_simp
          exact hK _ _ (Below.refl _ _) rfl
        · refine RStep.mk rfl rfl (fun S a wx K Q hR hK => ?_)
          have t23 := hR.eq 5 (by kernel_rfl) rfl rfl
          have y0 := (hR.bel.cell lg).trans cl
          go_simp
          exact hK _ _ (Below.refl _ _) rfl
        · refine RStep.mk rfl rfl (fun S a wx K Q hR hK => ?_)
          have t21 := hR.eq 3 (by kernel_rfl) rfl rfl
          have t24 := hR.eq 6 (by kernel_rfl) rfl rfl
          go_simp
          (try go_ints)
          exact hK _ _ (Below.refl _ _) rfl
        intro S1 vs w1 hD
        have hb1 := hD.bel
        have c0' := (hb1.cell lrb).trans c0
        have f0' : w1.frozen? ⟨rb, 0, none⟩ = false := by rw [frozen_of_row w1 _ 0 _ _ ((hb1.block _ lrb).trans HG.out.2)]
        have HB1 := Lib.hid hb1
        simp only [putsL, List.foldl_cons, List.foldl_nil]
        clear hD cl c0 f0 hb1
        go_simp
        go_wp2_with fail
        go_roundw
        case rel =>
          refine ⟨j + 1, by go_num, by omega, by omega, (HG.out.1.trans (Rg.of_below HB1.out)).setCell _ _, ?_⟩
          rw [if_pos (by rw [HKJ.out]; omega)]
          exact heap_set_at ((HB1.out.block _ lrb).trans HG.out.2) (by rw [HKJ.out]; rfl)
        case measure => simp [intOf]; omega
      · have hkj : 7 ≠ j := fun e => hw ((kindOf_iff hj1 (by omega) l0).1 (HKD.out.trans e))
        have hq : (WJ.toList == L0.toList) = false := by rw [eWJ, eL0]; simpa using hw
        clear eWJ eL0
        go_wp2_with fail
        refine wp_region_prs (w0 := wr) rfl [.of (pWords), .eq (.int .i64 (j : Nat)), .of (pWordAt WJ), .eq (.string WJ), .eq (.slice (some ⟨gg, 0, none⟩) N gc), .eq (.pointer (some ⟨gg, 0, none⟩)), .eq (.string L0), .eq (.bool false)] (by kernel_rfl) ⟨?_, ?_, ?_, ?_, ?_, ?_, ?_, ?_, ?_, ?_, trivial⟩ (fun vs => [(18, vs 0), (19, (.int .i64 (j : Nat))), (20, vs 2), (21, (.string WJ)), (22, (.slice (some ⟨gg, 0, none⟩) N gc)), (23, (.pointer (some ⟨gg, 0, none⟩))), (24, (.string L0)), (25, (.bool false))]) (fun _ => rfl) ?_
        · exact steadyWords
        · refine RStep.mk rfl rfl (fun S a wx K Q hR hK => ?_)
          go_simp
          go_at_call 85
          refine (refWords_any _).mono ?_
          rintro e w' ⟨rfl, rfl⟩
          exact hK _ _ ((Below.refl _ _).alloc (Nat.le_refl _) _) ⟨_, rfl, by simp, hR.new _ (Nat.le_refl _), heap_alloc_at _ _ _ rfl⟩
        · refine RStep.mk rfl rfl (fun S a wx K Q hR hK => ?_)
          have t6 : a.tmps[6]? = some (.int .i64 (j : Nat)) := (hR.old 6 (by kernel_rfl)).trans (by kernel_rfl)
          go_simp
          exact hK _ _ (Below.refl _ _) rfl
        · exact steadyWordAt _
        · refine RStep.mk rfl rfl (fun S a wx K Q hR hK => ?_)
          obtain ⟨u18, t18, f18⟩ := hR.of 0 (by kernel_rfl) rfl rfl
          have t19 := hR.eq 1 (by kernel_rfl) rfl rfl
          obtain ⟨g9, rfl, hg9, hS9, hw9⟩ := (show pWords S u18 wx from f18)
          go_simp
          exact hK _ _ (Below.refl _ _) ⟨g9, j, by simp, hg9, hS9, by rw [cell_of_row wx _ _ _ _ _ hw9]; exact HWJ.out⟩
        · refine RStep.mk rfl rfl (fun S a wx K Q hR hK => ?_)
          obtain ⟨u20, t20, f20⟩ := hR.of 2 (by kernel_rfl) rfl rfl
          obtain ⟨g12, o12, rfl, _, _, y12⟩ := (show pWordAt WJ S u20 wx from f20)
          go_simp
          exact hK _ _ (Below.refl _ _) rfl
        · refine RStep.mk rfl rfl (fun S a wx K Q hR hK => ?_)
          have t4 : a.tmps[4]? = some (.slice (some ⟨gg, 0, none⟩) N gc) := (hR.old 4 (by kernel_rfl)).trans (by kernel_rfl)
          go_simp
          exact hK _ _ (Below.refl _ _) rfl
        · refine RStep.mk rfl rfl (fun S a wx K Q hR hK => ?_)
          have t22 := hR.eq 4 (by kernel_rfl) rfl rfl
          go_simp
          exact hK _ _ (Below.refl _ _) rfl
        · refine RStep.mk rfl rfl (fun S a wx K Q hR hK => ?_)
          have t23 := hR.eq 5 (by kernel_rfl) rfl rfl
          have y0 := (hR.bel.cell lg).trans cl
          go_simp
          exact hK _ _ (Below.refl _ _) rfl
        · refine RStep.mk rfl rfl (fun S a wx K Q hR hK => ?_)
          have t21 := hR.eq 3 (by kernel_rfl) rfl rfl
          have t24 := hR.eq 6 (by kernel_rfl) rfl rfl
          go_simp
          (try go_ints)
          exact hK _ _ (Below.refl _ _) rfl
        intro S1 vs w1 hD
        have HB1 := Lib.hid hD.bel
        simp only [putsL, List.foldl_cons, List.foldl_nil]
        clear hD cl
        go_simp
        go_wp2_with fail
        go_roundw
        case rel => exact ⟨j + 1, by go_num, by omega, by omega, HG.out.1.trans (Rg.of_below HB1.out), by
          have h := (HB1.out.block _ lrb).trans HG.out.2
          have e : (if 7 < j + 1 then 7 else 0 : Nat) = (if 7 < j then 7 else 0) := by split <;> split <;> omega
          rw [e]; exact h⟩
        case measure => simp [intOf]; omega
    · have hj2 : j = 8 := by omega
      subst hj2
      rw [if_pos (by omega)] at hrow
      have c0 : wr.cell? ⟨rb, 0, none⟩ = some (.int .i64 7) := by rw [cell_of_row wr _ 0 _ _ _ hrow]; rfl
      have lrb : rb < wr.heap.size := (Array.getElem?_eq_some_iff.1 hrow).1
      have HG := Lib.hid (And.intro hrg hrow)
      clear hrg hrow
      go_upto_region 9 with fail
      obtain ⟨W4, hW4⟩ : ∃ W4, W4 = wr.alloc (.cells #[.int .i64 0, .int .i64 2, .int .i64 4, .int .i64 4, .int .i64 3, .int .i64 3, .int .i64 2, .int .i64 2] 3) := ⟨_, rfl⟩
      have hb4 : Below wr.heap.size wr W4 := by rw [hW4]; exact (Below.refl _ _).alloc (Nat.le_refl _) _
      have hrg4 : Rg rb W2 W4 := HG.out.1.trans (Rg.of_below hb4)
      have hrow4 : W4.heap[rb]? = some (.cells #[.int .i64 7, .int .u64 0, .int .u64 0, .int .u64 0, .int .u64 0, .int .u64 0, .int .i64 0, .int .u64 0, .int .u64 0, .slice none 0 0, .slice none 0 0] 41 (0, 0)) := (hb4.block _ lrb).trans HG.out.2
      have hz4 : W4.heap[w.heap.size]? = some (.cells #[.int .i64 0, .int .u64 0, .int .u64 0, .int .u64 0, .int .u64 0, .int .u64 0, .int .i64 0, .int .u64 0, .int .u64 0, .slice none 0 0, .slice none 0 0] 41 (0, 0)) := (hrg4.keep _ (by omega) lwn).trans H2.out.2.1
      have hl4 : ∀ (i : Nat) (x : List UInt8), (l0 :: lr)[i]? = some x → W4.cell? ⟨gg, i, none⟩ = some (.string ⟨x.toArray⟩) := fun i x hx => hrg4.cell (H2.out.2.2.1 i x hx) lgn
      have hB4 : Below w.heap.size w W4 := H2.out.2.2.2.trans ((hrg4.below (by omega)).mono (by omega))
      have hzz4 := hrg4.size
      have l4 : rb < W4.heap.size := by omega
      have H4 := Lib.hid (And.intro hrow4 (And.intro hz4 (And.intro hl4 (And.intro hB4 hrg4))))
      rw [← hW4]
      have c0 : W4.cell? ⟨rb, 0, none⟩ = some (.int .i64 7) := by rw [cell_of_row W4 _ 0 _ _ _ hrow4]; rfl
      clear hW4 hb4 hrow4 hz4 hl4 hB4 hrg4 hzr HG
      by_cases hlt : N < 2
      · have t1 : decide ((N : Int) < 2) = true := by simp; omega
        have HLN : Hid (lineB s.data.toList = none) := Lib.hid (lineB_bad HC.out HKD.out (by have := HMM.out.2.2; simp [manyK]; omega))
        go_upto_region 10 with fail
        go_wp2_with (refine wpList_store_row rfl 41 (.tmp 2) (.tmp 53) rfl rfl w.heap.size rfl _ rfl 41 _ H4.out.2.1 (by kernel_rfl) rfl (by simp [Value.oneCell']) ?_)
        exact bodyPost_ret (v := .tuple #[.agg #[.int .i64 0, .int .u64 0, .int .u64 0, .int .u64 0, .int .u64 0, .int .u64 0, .int .i64 0, .int .u64 0, .int .u64 0, .slice none 0 0, .slice none 0 0], .int .i64 50]) (results_row2 rfl _ _ w.heap.size 41 _ _ _ _ rfl (setRow_heap _ _ _ _ _ _ H4.out.2.1) Tryz.underlying41 rfl (by kernel_rfl) rfl) rfl (lineEnds_none HLN.out (below_setRow H4.out.2.2.2.1 _ _ (Nat.le_refl _)))
      have t1 : decide ((N : Int) < 2) = false := by simp; omega
      by_cases hgt : 2 < N
      · have t2 : decide ((2 : Int) < (N : Int)) = true := by simp; omega
        have HLN : Hid (lineB s.data.toList = none) := Lib.hid (lineB_bad HC.out HKD.out (by have := HMM.out.2.2; simp [manyK]; omega))
        go_upto_region 10 with fail
        go_wp2_with (refine wpList_store_row rfl 41 (.tmp 2) (.tmp 53) rfl rfl w.heap.size rfl _ rfl 41 _ H4.out.2.1 (by kernel_rfl) rfl (by simp [Value.oneCell']) ?_)
        exact bodyPost_ret (v := .tuple #[.agg #[.int .i64 0, .int .u64 0, .int .u64 0, .int .u64 0, .int .u64 0, .int .u64 0, .int .i64 0, .int .u64 0, .int .u64 0, .slice none 0 0, .slice none 0 0], .int .i64 50]) (results_row2 rfl _ _ w.heap.size 41 _ _ _ _ rfl (setRow_heap _ _ _ _ _ _ H4.out.2.1) Tryz.underlying41 rfl (by kernel_rfl) rfl) rfl (lineEnds_none HLN.out (below_setRow H4.out.2.2.2.1 _ _ (Nat.le_refl _)))
      have t2 : decide ((2 : Int) < (N : Int)) = false := by simp; omega
      obtain ⟨l1, hlr⟩ : ∃ l1, lr = [l1] := len_1 (by have := HMM.out.2.2; omega)
      have hN4 : N = 2 := by have := HMM.out.2.2; rw [hlr] at this; simpa using this
      subst hN4
      have HLR := Lib.hid hlr
      have c21 : W4.cell? ⟨gg, 1, none⟩ = some (.string ⟨l1.toArray⟩) := H4.out.2.2.1 1 l1 (by rw [hlr]; rfl)
      have z1 : (ByteArray.mk l1.toArray).size ≤ 1000000 := by have := HMM.out.1 l1 (by rw [hlr]; simp); rw [← ba_size]; simp; omega
      have r1 : W4.cell? ⟨rb, 1, none⟩ = some (.int .u64 0) := by rw [cell_of_row W4 _ 1 _ _ _ H4.out.1]; rfl
      have f1 : W4.frozen? ⟨rb, 1, none⟩ = false := by rw [frozen_of_row W4 _ 1 _ _ H4.out.1]
      clear hlr
      go_upto_region 33 with (go_at_call 86; refine (refValue_any _ _ (by assumption)).mono ?_; rintro e w' ⟨rfl, hw'⟩; rw [hw']; clear hw' w')
      obtain ⟨W6, hW6⟩ : ∃ W6, W6 = (W4.setCell ⟨rb, 1, none⟩ (.int .u64 (valW l1 : Nat))) := ⟨_, rfl⟩
      have hrow6 : W6.heap[rb]? = some (.cells #[.int .i64 7, .int .u64 (valW l1 : Nat), .int .u64 0, .int .u64 0, .int .u64 0, .int .u64 0, .int .i64 0, .int .u64 0, .int .u64 0, .slice none 0 0, .slice none 0 0] 41 (0, 0)) := by rw [hW6]; exact heap_set_at (H4.out.1) rfl
      have hrg6 : Rg rb W4 W6 := by rw [hW6]; exact (Rg.refl _ _).setCell _ _
      rw [← hW6]
      have hz6 : W6.heap[w.heap.size]? = some (.cells #[.int .i64 0, .int .u64 0, .int .u64 0, .int .u64 0, .int .u64 0, .int .u64 0, .int .i64 0, .int .u64 0, .int .u64 0, .slice none 0 0, .slice none 0 0] 41 (0, 0)) := (hrg6.keep _ (by omega) lwn).trans H4.out.2.1
      have hB6 : Below w.heap.size w W6 := H4.out.2.2.2.1.trans ((hrg6.below (by omega)).mono (by omega))
      have HRC : Hid (RepR W6 (fun b => w.heap.size < b) true ⟨7, (valW l1), 0, 0, 0, 0, .zero, []⟩ (.agg #[.int .i64 7, .int .u64 (valW l1 : Nat), .int .u64 0, .int .u64 0, .int .u64 0, .int .u64 0, .int .i64 0, .int .u64 0, .int .u64 0, .slice none 0 0, .slice none 0 0])) := Lib.hid (repR_plain W6 _ 7 (valW l1) 0 0 0 0 (by omega) (valW_lt _) (by omega) (by omega) (by omega) (by omega))
      have HCAND : Hid (candB s.data.toList = some ⟨7, (valW l1), 0, 0, 0, 0, .zero, []⟩) := Lib.hid (cand_1 HC.out HLR.out HKD.out)
      have hsz : (Rec.p (⟨7, (valW l1), 0, 0, 0, 0, .zero, []⟩ : Rec)).size ≤ 900 := show (Ex.zero).size ≤ 900 by decide
      have hle : (Rec.es (⟨7, (valW l1), 0, 0, 0, 0, .zero, []⟩ : Rec)).length ≤ 10000 := by simp
      have H6 := Lib.hid (And.intro hrow6 (And.intro hz6 hB6))
      clear hW6 hrow6 hrg6 hz6 hB6 c0 c21 r1 f1
      go_wp2_with (refine wpList_load_row rfl 41 (.tmp 5) rfl rb rfl 41 _ (0, 0) _ H6.out.1 Tryz.underlying41 rfl (by kernel_rfl) ?_)
      refine (refTextR_any _ true (⟨7, (valW l1), 0, 0, 0, 0, .zero, []⟩) _ W6 hsz hle HRC.out).mono ?_
      rintro e w7 ⟨rfl, hb7⟩
      obtain ⟨TB, hTB⟩ : ∃ TB : ByteArray, TB = ⟨(Rec.text (⟨7, (valW l1), 0, 0, 0, 0, .zero, []⟩)).toArray⟩ := ⟨_, rfl⟩
      have eTB : TB.toList = Rec.text (⟨7, (valW l1), 0, 0, 0, 0, .zero, []⟩) := by rw [hTB, ByteArray.toList_eq]
      rw [← hTB]
      have l6 : rb < W6.heap.size := (Array.getElem?_eq_some_iff.1 H6.out.1).1
      have hrow7 := (hb7.block _ l6).trans H6.out.1
      have hz7 := (hb7.block _ (by omega)).trans H6.out.2.1
      have hB7 : Below w.heap.size w w7 := H6.out.2.2.trans (hb7.mono (by omega))
      have hrc7 := HRC.out.below hb7 (Nat.le_refl _)
      have H7 := Lib.hid (And.intro hrow7 (And.intro hz7 (And.intro hB7 hrc7)))
      clear hTB hb7 hrow7 hz7 hB7 hrc7
      by_cases hq : Rec.text (⟨7, (valW l1), 0, 0, 0, 0, .zero, []⟩) = s.data.toList
      · have hne : (TB.toList == s.toList) = true := by rw [eTB, hq, ByteArray.toList_eq]; simp
        have HLN : Hid (lineB s.data.toList = some (⟨7, (valW l1), 0, 0, 0, 0, .zero, []⟩)) := Lib.hid (by rw [← refB_eq, HCAND.out]; simp [hq])
        clear hq eTB
        go_wp2_with (first
          | (refine wpList_load_row rfl 41 (.tmp 5) rfl rb rfl 41 _ (0, 0) _ H7.out.1 Tryz.underlying41 rfl (by kernel_rfl) ?_)
          | (refine wpList_store_row rfl 41 (.tmp 2) (.tmp 144) rfl rfl w.heap.size rfl _ rfl 41 _ H7.out.2.1 (by kernel_rfl) rfl (by simp [Value.oneCell']) ?_))
        exact bodyPost_ret (v := .tuple #[.agg #[.int .i64 7, .int .u64 (valW l1 : Nat), .int .u64 0, .int .u64 0, .int .u64 0, .int .u64 0, .int .i64 0, .int .u64 0, .int .u64 0, .slice none 0 0, .slice none 0 0], .int .i64 0]) (results_row2 rfl _ _ w.heap.size 41 _ _ _ _ rfl (setRow_heap _ _ _ _ _ _ H7.out.2.1) Tryz.underlying41 rfl (by kernel_rfl) rfl) rfl (lineEnds_some _ HLN.out (RepR.keep H7.out.2.2.2 (fun b hb _ => setRow_other _ _ _ _ (by omega)) (fun b _ hb => by omega)) (below_setRow H7.out.2.2.1 _ _ (Nat.le_refl _)))
      · have hne : (TB.toList == s.toList) = false := by rw [eTB, ByteArray.toList_eq]; simpa using hq
        have HLN : Hid (lineB s.data.toList = none) := Lib.hid (by rw [← refB_eq, HCAND.out]; simp [hq])
        clear hq eTB
        go_upto_region 34 with fail
        go_wp2_with (refine wpList_store_row rfl 41 (.tmp 2) (.tmp 143) rfl rfl w.heap.size rfl _ rfl 41 _ H7.out.2.1 (by kernel_rfl) rfl (by simp [Value.oneCell']) ?_)
        exact bodyPost_ret (v := .tuple #[.agg #[.int .i64 0, .int .u64 0, .int .u64 0, .int .u64 0, .int .u64 0, .int .u64 0, .int .i64 0, .int .u64 0, .int .u64 0, .slice none 0 0, .slice none 0 0], .int .i64 50]) (results_row2 rfl _ _ w.heap.size 41 _ _ _ _ rfl (setRow_heap _ _ _ _ _ _ H7.out.2.1) Tryz.underlying41 rfl (by kernel_rfl) rfl) rfl (lineEnds_none HLN.out (below_setRow H7.out.2.2.1 _ _ (Nat.le_refl _)))
end Go.Proofs.YtjedgiiplebofaaGreatDoor
