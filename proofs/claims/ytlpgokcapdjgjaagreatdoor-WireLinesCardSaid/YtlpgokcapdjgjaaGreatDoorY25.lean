/- Walks. -/
import Derived.Test.YtlpgokcapdjgjaaGreatDoorY24
set_option maxHeartbeats 8000000
set_option maxRecDepth 100000
namespace Go.Proofs.YtlpgokcapdjgjaaGreatDoor
open Go.RowKit Go
set_option linter.unusedVariables false
set_option linter.unusedSimpArgs false
theorem Cx {s l0 : List UInt8} {lr : List (List UInt8)} (hc : cuts 32 s = l0 :: lr) (hk : kindOf l0 = 0) : aM s = none := by
 rw [← dU]
 unfold dS
 rw [hc]
 cases lr with
 | nil => rfl
 | cons a l => simp only; rw [if_pos hk]; rfl
def jE (k : Nat) : Nat := if k = 2 then 4 else if k = 3 then 4 else if k = 4 then 3 else if k = 5 then 3 else 2
theorem eG {s l0 : List UInt8} {lr : List (List UInt8)} {K : Nat} (hc : cuts 32 s = l0 :: lr) (hk : kindOf l0 = K) (h : lr.length + 1 < jE K ∨ (K ≠ 5 ∧ jE K < lr.length + 1)) : aM s = none := by
 rw [← dU]
 unfold dS
 rw [hc]
 cases lr with
 | nil => rfl
 | cons a l =>
  simp only
  by_cases h0 : kindOf l0 = 0
  ·rw [if_pos h0]; rfl
  rw [if_neg h0, hk]
  simp only [List.length_cons] at h
  have e : iD K (aj a) l = none := by
   unfold iD
   unfold jE at h
   split
   ·split
    ·simp_all
    ·rfl
   split
   ·split
    ·simp_all
    ·rfl
   split
   ·split
    ·simp_all
    ·rfl
   split
   ·rename_i h2 h3 h4 h5
    subst h5
    cases l with
    | nil => rfl
    | cons x es => simp at h; omega
   ·rw [if_neg]
    intro e
    subst e
    simp_all
  rw [e]; rfl
theorem Fg {α : Type} {l : List α} (h : l.length = 1) : ∃ a, l = [a] := Ci h
theorem Fh {α : Type} {l : List α} (h : l.length = 2) : ∃ a b, l = [a, b] := uQ h
theorem Ea {α : Type} {l : List α} (h : l.length = 3) : ∃ a b c, l = [a, b, c] := qw h
theorem EJ {s l0 l1 : List UInt8} {lr : List (List UInt8)} {K : Nat} (hc : cuts 32 s = l0 :: lr) (hl : lr = [l1]) (hk : kindOf l0 = K) (hK : K = 1 ∨ K = 6 ∨ K = 7 := by decide) : dS s = some ⟨K, aj l1, 0, 0, 0, 0, .zero, []⟩ := by
 unfold dS
 rw [hc, hl]
 simp only
 rw [if_neg (by omega), hk]
 unfold iD
 rw [if_neg (by omega), if_neg (by omega), if_neg (by omega), if_neg (by omega), if_pos rfl]
theorem EK {s l0 l1 l2 l3 : List UInt8} {lr : List (List UInt8)} (hc : cuts 32 s = l0 :: lr) (hl : lr = [l1, l2, l3]) (hk : kindOf l0 = 2) : dS s = some ⟨2, aj l1, aj l2, (bV l3).1, (bV l3).2, 0, .zero, []⟩ := by
 unfold dS
 rw [hc, hl]
 simp only
 rw [if_neg (by omega), hk]
 rfl
theorem EL {s l0 l1 l2 l3 : List UInt8} {lr : List (List UInt8)} (hc : cuts 32 s = l0 :: lr) (hl : lr = [l1, l2, l3]) (hk : kindOf l0 = 3) : dS s = some ⟨3, aj l1, aj l2, 0, 0, aj l3, .zero, []⟩ := by
 unfold dS
 rw [hc, hl]
 simp only
 rw [if_neg (by omega), hk]
 rfl
theorem EM {s l0 l1 l2 : List UInt8} {lr : List (List UInt8)} (hc : cuts 32 s = l0 :: lr) (hl : lr = [l1, l2]) (hk : kindOf l0 = 4) : dS s = some ⟨4, aj l1, aj l2, 0, 0, 0, .zero, []⟩ := by
 unfold dS
 rw [hc, hl]
 simp only
 rw [if_neg (by omega), hk]
 rfl
theorem yO (s : ByteArray) (w : World) (hs : s.size ≤ 800) (l0 : List UInt8) (lr : List (List UInt8)) (HC : Hid (cuts 32 s.data.toList = l0 :: lr)) (HKD : Hid (kindOf l0 = 0)) :
  Calls Tryz.prog 29 #[.string s] w (eZ (aM s.data.toList) w) := by
 have hb0 : Below w.heap.size w (w.alloc (.cells #[.int .i64 0, .int .u64 0, .int .u64 0, .int .u64 0, .int .u64 0, .int .u64 0, .int .i64 0, .int .u64 0, .int .u64 0, .slice none 0 0, .slice none 0 0] 65)) := br.alloc nl _
 have hMem := aV 32 s.data.toList
 have hLen := bJ 32 s.data.toList
 rw [HC.out] at hMem hLen
 rw [af] at hMem hLen
 have HCU := hid (dn 32 s (w.alloc (.cells #[.int .i64 0, .int .u64 0, .int .u64 0, .int .u64 0, .int .u64 0, .int .u64 0, .int .i64 0, .int .u64 0, .int .u64 0, .slice none 0 0, .slice none 0 0] 65)) (by omega))
 obtain ⟨N, hN⟩ : ∃ N, N = lr.length + 1 := ⟨_, rfl⟩
 have HMM := hid (And.intro hMem (And.intro hLen hN))
 have HB0 := hid hb0
 have hN0 : 0 < N := by omega
 have hN1 : N ≤ 1000 := by rw [List.length_cons] at hLen; omega
 clear hb0 hMem hLen hN
 go_enter Tryz.func29, Tryz.ntmps29
 go_wp2_with fail
 refine HCU.out.mono ?_
 rintro e W1 ⟨v, rfl, hown, hb1⟩
 rw [HC.out] at hown
 obtain ⟨gg, gc, rfl, hgb, hgl, hcell⟩ := dI hown (by simp)
 rw [List.length_cons, ← HMM.out.2.2]
 simp only [World.size_alloc] at hgb
 have hz1 := hb1.size
 simp only [World.size_alloc] at hz1
 obtain ⟨rb, hrb⟩ : ∃ rb, rb = W1.heap.size := ⟨_, rfl⟩
 obtain ⟨W2, hW2⟩ : ∃ W2, W2 = W1.alloc (.cells #[.int .i64 0, .int .u64 0, .int .u64 0, .int .u64 0, .int .u64 0, .int .u64 0, .int .i64 0, .int .u64 0, .int .u64 0, .slice none 0 0, .slice none 0 0] 65) := ⟨_, rfl⟩
 have hb2 : Below W1.heap.size W1 W2 := by rw [hW2]; exact br.alloc nl _
 have hr2 : W2.heap[rb]? = some (.cells #[.int .i64 0, .int .u64 0, .int .u64 0, .int .u64 0, .int .u64 0, .int .u64 0, .int .i64 0, .int .u64 0, .int .u64 0, .slice none 0 0, .slice none 0 0] 65 (0, 0)) := by rw [hW2, hrb]; exact aa _ _ _ rfl
 have hz2 : W2.heap.size = rb + 1 := by rw [hW2, hrb]; simp
 have ho2 : W2.heap[w.heap.size]? = some (.cells #[.int .i64 0, .int .u64 0, .int .u64 0, .int .u64 0, .int .u64 0, .int .u64 0, .int .i64 0, .int .u64 0, .int .u64 0, .slice none 0 0, .slice none 0 0] 65 (0, 0)) := (hb2.block _ (by omega)).trans ((hb1.block _ (by simp)).trans (aa _ _ _ rfl))
 have hl2 : ∀ (i : Nat) (x : List UInt8), (l0 :: lr)[i]? = some x → W2.cell? ⟨gg, i, none⟩ = some (.string ⟨x.toArray⟩) := fun i x hx => (hb2.cell hgl).trans (hcell i _ (by simp only [strs, List.getElem?_map, hx]; rfl))
 have hB2 : Below w.heap.size w W2 := HB0.out.trans ((hb1.mono (by simp)).trans (hb2.mono (by omega)))
 have lgr : gg < rb := by omega
 have lgn : gg ≠ rb := by omega
 have lwr : w.heap.size < rb := by omega
 have lwn : w.heap.size ≠ rb := by omega
 have lwg : w.heap.size < gg := by omega
 have H2 := hid (And.intro hr2 (And.intro ho2 (And.intro hl2 hB2)))
 have HRB := hid (And.intro hrb hW2)
 clear hown hb1 hb2 hr2 ho2 hl2 hB2 hcell hgb hz1 hgl HB0 HCU hrb hW2
 go_upto_region 3 with fail
 rw [← HRB.out.2, ← HRB.out.1]
 clear HRB
 go_wp2_with fail
 go_loopw [6] (fun i wr => ∃ j : Nat, i = .int .i64 (j : Nat) ∧ 1 ≤ j ∧ j ≤ 8 ∧ Rg rb W2 wr ∧ wr.heap[rb]? = some (.cells #[.int .i64 ((if 0 < j then 0 else 0 : Nat) : Int), .int .u64 0, .int .u64 0, .int .u64 0, .int .u64 0, .int .u64 0, .int .i64 0, .int .u64 0, .int .u64 0, .slice none 0 0, .slice none 0 0] 65 (0, 0))) (fun i _ => 8 - (intOf i).toNat)
 case atStart => exact ⟨1, rfl, by omega, by omega, Rg.refl _ _, by rw [if_pos (by omega)]; exact H2.out.1⟩
 case round =>
  obtain ⟨j, rfl, hj1, hj8, hrg, hrow⟩ := hrel
  have hzr := hrg.size
  by_cases hj : j < 8
  ·obtain ⟨WJ, hWJ⟩ : ∃ WJ : ByteArray, WJ = ⟨(ay j).toArray⟩ := ⟨_, rfl⟩
   obtain ⟨L0, hL0⟩ : ∃ L0 : ByteArray, L0 = ⟨l0.toArray⟩ := ⟨_, rfl⟩
   have HWJ : Hid (eT[j]? = some (.string WJ)) := hid (by rw [hWJ]; exact cu j hj1 (by omega))
   have cl : wr.cell? ⟨gg, 0, none⟩ = some (.string L0) := by rw [hL0]; exact hrg.cell (H2.out.2.2.1 0 l0 rfl) lgn
   have lg : gg < wr.heap.size := by omega
   have eWJ : WJ.toList = ay j := by rw [hWJ, ByteArray.toList_eq]
   have eL0 : L0.toList = l0 := by rw [hL0, ByteArray.toList_eq]
   have i1 : (j : Int) < 8 := by omega
   have i0 : (0 : Int) ≤ (j : Int) := by omega
   have i2 : (0 : Int) < (N : Int) := by omega
   have c0 : wr.cell? ⟨rb, 0, none⟩ = some (.int .i64 ((if 0 < j then 0 else 0 : Nat) : Int)) := by rw [cell_of_row wr _ 0 _ _ _ hrow]; rfl
   have f0 : wr.frozen? ⟨rb, 0, none⟩ = false := by rw [frozen_of_row wr _ 0 _ _ hrow]
   have lrb : rb < wr.heap.size := (Array.getElem?_eq_some_iff.1 hrow).1
   have HG := hid (And.intro hrg hrow)
   clear hrg hrow hWJ hL0
   have hw : ay j ≠ l0 := fun h => by
    have := (bK hj1 (by omega) l0).2 h
    rw [HKD.out] at this; omega
   rcases (show True from trivial) with _
   ·have hkj : 0 ≠ j := fun e => hw ((bK hj1 (by omega) l0).1 (HKD.out.trans e))
    have hq : (WJ.toList == L0.toList) = false := by rw [eWJ, eL0]; simpa using hw
    clear eWJ eL0
    go_wp2_with fail
    refine av (w0 := wr) rfl [.of (aZ), .eq (.int .i64 (j : Nat)), .of (aQ WJ), .eq (.string WJ), .eq (.slice (some ⟨gg, 0, none⟩) N gc), .eq (.pointer (some ⟨gg, 0, none⟩)), .eq (.string L0), .eq (.bool false)] (by kernel_rfl) ⟨?_, ?_, ?_, ?_, ?_, ?_, ?_, ?_, ?_, ?_, trivial⟩ (fun vs => [(18, vs 0), (19, (.int .i64 (j : Nat))), (20, vs 2), (21, (.string WJ)), (22, (.slice (some ⟨gg, 0, none⟩) N gc)), (23, (.pointer (some ⟨gg, 0, none⟩))), (24, (.string L0)), (25, (.bool false))]) (fun _ => rfl) ?_
    ·exact aW
    ·refine rs fun S a wx K Q hR hK => ?_
     go_simp
     go_at_call 52
     refine (aP _).mono ?_
     rintro e w' ⟨rfl, rfl⟩
     exact hK _ _ (br.alloc nl _) ⟨_, rfl, by simp, hR.new _ nl, aa _ _ _ rfl⟩
    ·refine rs fun S a wx K Q hR hK => ?_
     have t6 : a.tmps[6]? = some (.int .i64 (j : Nat)) := hR.o 6
     go_simp
     exact hK _ _ br rfl
    ·exact aR _
    ·refine rs fun S a wx K Q hR hK => ?_
     obtain ⟨u18, t18, f18⟩ := hR.f 0
     have t19 := hR.q 1
     obtain ⟨g9, rfl, hg9, hS9, hw9⟩ := (show aZ S u18 wx from f18)
     go_simp
     exact hK _ _ br ⟨g9, j, by simp, hg9, hS9, by rw [cell_of_row wx _ _ _ _ _ hw9]; exact HWJ.out⟩
    ·refine rs fun S a wx K Q hR hK => ?_
     obtain ⟨u20, t20, f20⟩ := hR.f 2
     obtain ⟨g12, o12, rfl, _, _, y12⟩ := (show aQ WJ S u20 wx from f20)
     go_simp
     exact hK _ _ br rfl
    ·refine rs fun S a wx K Q hR hK => ?_
     have t4 : a.tmps[4]? = some (.slice (some ⟨gg, 0, none⟩) N gc) := hR.o 4
     go_simp
     exact hK _ _ br rfl
    ·refine rs fun S a wx K Q hR hK => ?_
     have t22 := hR.q 4
     go_simp
     exact hK _ _ br rfl
    ·refine rs fun S a wx K Q hR hK => ?_
     have t23 := hR.q 5
     have y0 := (hR.bel.cell lg).trans cl
     go_simp
     exact hK _ _ br rfl
    ·refine rs fun S a wx K Q hR hK => ?_
     have t21 := hR.q 3
     have t24 := hR.q 6
     go_simp
     (try go_ints)
     exact hK _ _ br rfl
    intro S1 vs w1 hD
    have HB1 := hid hD.bel
    simp only [aH, List.foldl_cons, List.foldl_nil]
    clear hD cl
    go_simp
    go_wp2_with fail
    go_roundw
    case rel => exact ⟨j + 1, by go_num, by omega, by omega, HG.out.1.trans (Rg.of_below HB1.out), by
     have h := (HB1.out.block _ lrb).trans HG.out.2
     have e : (if 0 < j + 1 then 0 else 0 : Nat) = (if 0 < j then 0 else 0) := by split <;> split <;> omega
     rw [e]; exact h⟩
    case measure => simp [intOf]; omega
  ·have hj2 : j = 8 := by omega
   subst hj2
   rw [if_pos (by omega)] at hrow
   have c0 : wr.cell? ⟨rb, 0, none⟩ = some (.int .i64 0) := by rw [cell_of_row wr _ 0 _ _ _ hrow]; rfl
   have lrb : rb < wr.heap.size := (Array.getElem?_eq_some_iff.1 hrow).1
   have HG := hid (And.intro hrg hrow)
   clear hrg hrow
   go_upto_region 9 with fail
   obtain ⟨W4, hW4⟩ : ∃ W4, W4 = wr.alloc (.cells #[.int .i64 0, .int .i64 2, .int .i64 4, .int .i64 4, .int .i64 3, .int .i64 3, .int .i64 2, .int .i64 2] 3) := ⟨_, rfl⟩
   have hb4 : Below wr.heap.size wr W4 := by rw [hW4]; exact br.alloc nl _
   have hrg4 : Rg rb W2 W4 := HG.out.1.trans (Rg.of_below hb4)
   have hrow4 : W4.heap[rb]? = some (.cells #[.int .i64 0, .int .u64 0, .int .u64 0, .int .u64 0, .int .u64 0, .int .u64 0, .int .i64 0, .int .u64 0, .int .u64 0, .slice none 0 0, .slice none 0 0] 65 (0, 0)) := (hb4.block _ lrb).trans HG.out.2
   have hz4 : W4.heap[w.heap.size]? = some (.cells #[.int .i64 0, .int .u64 0, .int .u64 0, .int .u64 0, .int .u64 0, .int .u64 0, .int .i64 0, .int .u64 0, .int .u64 0, .slice none 0 0, .slice none 0 0] 65 (0, 0)) := (hrg4.keep _ (by omega) lwn).trans H2.out.2.1
   have hl4 : ∀ (i : Nat) (x : List UInt8), (l0 :: lr)[i]? = some x → W4.cell? ⟨gg, i, none⟩ = some (.string ⟨x.toArray⟩) := fun i x hx => hrg4.cell (H2.out.2.2.1 i x hx) lgn
   have hB4 : Below w.heap.size w W4 := H2.out.2.2.2.trans ((hrg4.below (by omega)).mono (by omega))
   have hzz4 := hrg4.size
   have l4 : rb < W4.heap.size := by omega
   have H4 := hid (And.intro hrow4 (And.intro hz4 (And.intro hl4 (And.intro hB4 hrg4))))
   rw [← hW4]
   have c0 : W4.cell? ⟨rb, 0, none⟩ = some (.int .i64 0) := by rw [cell_of_row W4 _ 0 _ _ _ hrow4]; rfl
   clear hW4 hb4 hrow4 hz4 hl4 hB4 hrg4 hzr HG
   have HLN : Hid (aM s.data.toList = none) := hid (Cx HC.out HKD.out)
   go_upto_region 10 with fail
   go_wp2_with (refine wpList_store_row rfl 65 (.tmp 2) (.tmp 53) rfl rfl w.heap.size rfl _ rfl 65 _ H4.out.2.1 (by kernel_rfl) rfl (by simp [Value.oneCell']) ?_)
   exact bodyPost_ret (v := .tuple #[.agg #[.int .i64 0, .int .u64 0, .int .u64 0, .int .u64 0, .int .u64 0, .int .u64 0, .int .i64 0, .int .u64 0, .int .u64 0, .slice none 0 0, .slice none 0 0], .int .i64 50]) (ag rfl _ _ w.heap.size 65 _ _ _ _ rfl (setRow_heap _ _ _ _ _ _ H4.out.2.1) Tryz.underlying65 rfl (by kernel_rfl) rfl) rfl (aG HLN.out (below_setRow H4.out.2.2.2.1 _ _ nl))
theorem lJ (K : Nat) (hK : K = 1 ∨ K = 6 ∨ K = 7) (s : ByteArray) (w : World) (hs : s.size ≤ 800) (l0 : List UInt8) (lr : List (List UInt8)) (HC : Hid (cuts 32 s.data.toList = l0 :: lr)) (HKD : Hid (kindOf l0 = K)) :
  Calls Tryz.prog 29 #[.string s] w (eZ (aM s.data.toList) w) := by
 have hb0 : Below w.heap.size w (w.alloc (.cells #[.int .i64 0, .int .u64 0, .int .u64 0, .int .u64 0, .int .u64 0, .int .u64 0, .int .i64 0, .int .u64 0, .int .u64 0, .slice none 0 0, .slice none 0 0] 65)) := br.alloc nl _
 have hMem := aV 32 s.data.toList
 have hLen := bJ 32 s.data.toList
 rw [HC.out] at hMem hLen
 rw [af] at hMem hLen
 have HCU := hid (dn 32 s (w.alloc (.cells #[.int .i64 0, .int .u64 0, .int .u64 0, .int .u64 0, .int .u64 0, .int .u64 0, .int .i64 0, .int .u64 0, .int .u64 0, .slice none 0 0, .slice none 0 0] 65)) (by omega))
 obtain ⟨N, hN⟩ : ∃ N, N = lr.length + 1 := ⟨_, rfl⟩
 have HMM := hid (And.intro hMem (And.intro hLen hN))
 have HB0 := hid hb0
 have hN0 : 0 < N := by omega
 have hN1 : N ≤ 1000 := by rw [List.length_cons] at hLen; omega
 have HKK := hid hK
 clear hb0 hMem hLen hN hK
 go_enter Tryz.func29, Tryz.ntmps29
 go_wp2_with fail
 refine HCU.out.mono ?_
 rintro e W1 ⟨v, rfl, hown, hb1⟩
 rw [HC.out] at hown
 obtain ⟨gg, gc, rfl, hgb, hgl, hcell⟩ := dI hown (by simp)
 rw [List.length_cons, ← HMM.out.2.2]
 simp only [World.size_alloc] at hgb
 have hz1 := hb1.size
 simp only [World.size_alloc] at hz1
 obtain ⟨rb, hrb⟩ : ∃ rb, rb = W1.heap.size := ⟨_, rfl⟩
 obtain ⟨W2, hW2⟩ : ∃ W2, W2 = W1.alloc (.cells #[.int .i64 0, .int .u64 0, .int .u64 0, .int .u64 0, .int .u64 0, .int .u64 0, .int .i64 0, .int .u64 0, .int .u64 0, .slice none 0 0, .slice none 0 0] 65) := ⟨_, rfl⟩
 have hb2 : Below W1.heap.size W1 W2 := by rw [hW2]; exact br.alloc nl _
 have hr2 : W2.heap[rb]? = some (.cells #[.int .i64 0, .int .u64 0, .int .u64 0, .int .u64 0, .int .u64 0, .int .u64 0, .int .i64 0, .int .u64 0, .int .u64 0, .slice none 0 0, .slice none 0 0] 65 (0, 0)) := by rw [hW2, hrb]; exact aa _ _ _ rfl
 have hz2 : W2.heap.size = rb + 1 := by rw [hW2, hrb]; simp
 have ho2 : W2.heap[w.heap.size]? = some (.cells #[.int .i64 0, .int .u64 0, .int .u64 0, .int .u64 0, .int .u64 0, .int .u64 0, .int .i64 0, .int .u64 0, .int .u64 0, .slice none 0 0, .slice none 0 0] 65 (0, 0)) := (hb2.block _ (by omega)).trans ((hb1.block _ (by simp)).trans (aa _ _ _ rfl))
 have hl2 : ∀ (i : Nat) (x : List UInt8), (l0 :: lr)[i]? = some x → W2.cell? ⟨gg, i, none⟩ = some (.string ⟨x.toArray⟩) := fun i x hx => (hb2.cell hgl).trans (hcell i _ (by simp only [strs, List.getElem?_map, hx]; rfl))
 have hB2 : Below w.heap.size w W2 := HB0.out.trans ((hb1.mono (by simp)).trans (hb2.mono (by omega)))
 have lgr : gg < rb := by omega
 have lgn : gg ≠ rb := by omega
 have lwr : w.heap.size < rb := by omega
 have lwn : w.heap.size ≠ rb := by omega
 have lwg : w.heap.size < gg := by omega
 have H2 := hid (And.intro hr2 (And.intro ho2 (And.intro hl2 hB2)))
 have HRB := hid (And.intro hrb hW2)
 clear hown hb1 hb2 hr2 ho2 hl2 hB2 hcell hgb hz1 hgl HB0 HCU hrb hW2
 go_upto_region 3 with fail
 rw [← HRB.out.2, ← HRB.out.1]
 clear HRB
 go_wp2_with fail
 go_loopw [6] (fun i wr => ∃ j : Nat, i = .int .i64 (j : Nat) ∧ 1 ≤ j ∧ j ≤ 8 ∧ Rg rb W2 wr ∧ wr.heap[rb]? = some (.cells #[.int .i64 ((if K < j then K else 0 : Nat) : Int), .int .u64 0, .int .u64 0, .int .u64 0, .int .u64 0, .int .u64 0, .int .i64 0, .int .u64 0, .int .u64 0, .slice none 0 0, .slice none 0 0] 65 (0, 0))) (fun i _ => 8 - (intOf i).toNat)
 case atStart => exact ⟨1, rfl, by omega, by omega, Rg.refl _ _, by rw [if_neg (by have := HKK.out; omega)]; exact H2.out.1⟩
 case round =>
  obtain ⟨j, rfl, hj1, hj8, hrg, hrow⟩ := hrel
  have hzr := hrg.size
  by_cases hj : j < 8
  ·obtain ⟨WJ, hWJ⟩ : ∃ WJ : ByteArray, WJ = ⟨(ay j).toArray⟩ := ⟨_, rfl⟩
   obtain ⟨L0, hL0⟩ : ∃ L0 : ByteArray, L0 = ⟨l0.toArray⟩ := ⟨_, rfl⟩
   have HWJ : Hid (eT[j]? = some (.string WJ)) := hid (by rw [hWJ]; exact cu j hj1 (by omega))
   have cl : wr.cell? ⟨gg, 0, none⟩ = some (.string L0) := by rw [hL0]; exact hrg.cell (H2.out.2.2.1 0 l0 rfl) lgn
   have lg : gg < wr.heap.size := by omega
   have eWJ : WJ.toList = ay j := by rw [hWJ, ByteArray.toList_eq]
   have eL0 : L0.toList = l0 := by rw [hL0, ByteArray.toList_eq]
   have i1 : (j : Int) < 8 := by omega
   have i0 : (0 : Int) ≤ (j : Int) := by omega
   have i2 : (0 : Int) < (N : Int) := by omega
   have c0 : wr.cell? ⟨rb, 0, none⟩ = some (.int .i64 ((if K < j then K else 0 : Nat) : Int)) := by rw [cell_of_row wr _ 0 _ _ _ hrow]; rfl
   have f0 : wr.frozen? ⟨rb, 0, none⟩ = false := by rw [frozen_of_row wr _ 0 _ _ hrow]
   have lrb : rb < wr.heap.size := (Array.getElem?_eq_some_iff.1 hrow).1
   have HG := hid (And.intro hrg hrow)
   clear hrg hrow hWJ hL0
   by_cases hw : ay j = l0
   ·have hkj : j = K := ((bK hj1 (by omega) l0).2 hw).symm.trans HKD.out
    have hq : (WJ.toList == L0.toList) = true := by rw [eWJ, eL0]; simpa using hw
    clear eWJ eL0
    have HKJ := hid hkj
    clear hkj
    go_wp2_with fail
    refine av (w0 := wr) rfl [.of (aZ), .eq (.int .i64 (j : Nat)), .of (aQ WJ), .eq (.string WJ), .eq (.slice (some ⟨gg, 0, none⟩) N gc), .eq (.pointer (some ⟨gg, 0, none⟩)), .eq (.string L0), .eq (.bool true)] (by kernel_rfl) ⟨?_, ?_, ?_, ?_, ?_, ?_, ?_, ?_, ?_, ?_, trivial⟩ (fun vs => [(18, vs 0), (19, (.int .i64 (j : Nat))), (20, vs 2), (21, (.string WJ)), (22, (.slice (some ⟨gg, 0, none⟩) N gc)), (23, (.pointer (some ⟨gg, 0, none⟩))), (24, (.string L0)), (25, (.bool true))]) (fun _ => rfl) ?_
    ·exact aW
    ·refine rs fun S a wx K Q hR hK => ?_
     go_simp
     go_at_call 52
     refine (aP _).mono ?_
     rintro e w' ⟨rfl, rfl⟩
     exact hK _ _ (br.alloc nl _) ⟨_, rfl, by simp, hR.new _ nl, aa _ _ _ rfl⟩
    ·refine rs fun S a wx K Q hR hK => ?_
     have t6 : a.tmps[6]? = some (.int .i64 (j : Nat)) := hR.o 6
     go_simp
     exact hK _ _ br rfl
    ·exact aR _
    ·refine rs fun S a wx K Q hR hK => ?_
     obtain ⟨u18, t18, f18⟩ := hR.f 0
     have t19 := hR.q 1
     obtain ⟨g9, rfl, hg9, hS9, hw9⟩ := (show aZ S u18 wx from f18)
     go_simp
     exact hK _ _ br ⟨g9, j, by simp, hg9, hS9, by rw [cell_of_row wx _ _ _ _ _ hw9]; exact HWJ.out⟩
    ·refine rs fun S a wx K Q hR hK => ?_
     obtain ⟨u20, t20, f20⟩ := hR.f 2
     obtain ⟨g12, o12, rfl, _, _, y12⟩ := (show aQ WJ S u20 wx from f20)
     go_simp
     exact hK _ _ br rfl
    ·refine rs fun S a wx K Q hR hK => ?_
     have t4 : a.tmps[4]? = some (.slice (some ⟨gg, 0, none⟩) N gc) := hR.o 4
     go_simp
     exact hK _ _ br rfl
    ·refine rs fun S a wx K Q hR hK => ?_
     have t22 := hR.q 4
     go_simp
     exact hK _ _ br rfl
    ·refine rs fun S a wx K Q hR hK => ?_
     have t23 := hR.q 5
     have y0 := (hR.bel.cell lg).trans cl
     go_simp
     exact hK _ _ br rfl
    ·refine rs fun S a wx K Q hR hK => ?_
     have t21 := hR.q 3
     have t24 := hR.q 6
     go_simp
     (try go_ints)
     exact hK _ _ br rfl
    intro S1 vs w1 hD
    have hb1 := hD.bel
    have c0' := (hb1.cell lrb).trans c0
    have f0' : w1.frozen? ⟨rb, 0, none⟩ = false := by rw [frozen_of_row w1 _ 0 _ _ ((hb1.block _ lrb).trans HG.out.2)]
    have HB1 := hid hb1
    simp only [aH, List.foldl_cons, List.foldl_nil]
    clear hD cl c0 f0 hb1
    go_simp
    go_wp2_with fail
    go_roundw
    case rel =>
     refine ⟨j + 1, by go_num, by omega, by omega, (HG.out.1.trans (Rg.of_below HB1.out)).setCell _ _, ?_⟩
     rw [if_pos (by rw [HKJ.out]; omega)]
     exact ae ((HB1.out.block _ lrb).trans HG.out.2) (by rw [HKJ.out]; rfl)
    case measure => simp [intOf]; omega
   ·have hkj : K ≠ j := fun e => hw ((bK hj1 (by omega) l0).1 (HKD.out.trans e))
    have hq : (WJ.toList == L0.toList) = false := by rw [eWJ, eL0]; simpa using hw
    clear eWJ eL0
    go_wp2_with fail
    refine av (w0 := wr) rfl [.of (aZ), .eq (.int .i64 (j : Nat)), .of (aQ WJ), .eq (.string WJ), .eq (.slice (some ⟨gg, 0, none⟩) N gc), .eq (.pointer (some ⟨gg, 0, none⟩)), .eq (.string L0), .eq (.bool false)] (by kernel_rfl) ⟨?_, ?_, ?_, ?_, ?_, ?_, ?_, ?_, ?_, ?_, trivial⟩ (fun vs => [(18, vs 0), (19, (.int .i64 (j : Nat))), (20, vs 2), (21, (.string WJ)), (22, (.slice (some ⟨gg, 0, none⟩) N gc)), (23, (.pointer (some ⟨gg, 0, none⟩))), (24, (.string L0)), (25, (.bool false))]) (fun _ => rfl) ?_
    ·exact aW
    ·refine rs fun S a wx K Q hR hK => ?_
     go_simp
     go_at_call 52
     refine (aP _).mono ?_
     rintro e w' ⟨rfl, rfl⟩
     exact hK _ _ (br.alloc nl _) ⟨_, rfl, by simp, hR.new _ nl, aa _ _ _ rfl⟩
    ·refine rs fun S a wx K Q hR hK => ?_
     have t6 : a.tmps[6]? = some (.int .i64 (j : Nat)) := hR.o 6
     go_simp
     exact hK _ _ br rfl
    ·exact aR _
    ·refine rs fun S a wx K Q hR hK => ?_
     obtain ⟨u18, t18, f18⟩ := hR.f 0
     have t19 := hR.q 1
     obtain ⟨g9, rfl, hg9, hS9, hw9⟩ := (show aZ S u18 wx from f18)
     go_simp
     exact hK _ _ br ⟨g9, j, by simp, hg9, hS9, by rw [cell_of_row wx _ _ _ _ _ hw9]; exact HWJ.out⟩
    ·refine rs fun S a wx K Q hR hK => ?_
     obtain ⟨u20, t20, f20⟩ := hR.f 2
     obtain ⟨g12, o12, rfl, _, _, y12⟩ := (show aQ WJ S u20 wx from f20)
     go_simp
     exact hK _ _ br rfl
    ·refine rs fun S a wx K Q hR hK => ?_
     have t4 : a.tmps[4]? = some (.slice (some ⟨gg, 0, none⟩) N gc) := hR.o 4
     go_simp
     exact hK _ _ br rfl
    ·refine rs fun S a wx K Q hR hK => ?_
     have t22 := hR.q 4
     go_simp
     exact hK _ _ br rfl
    ·refine rs fun S a wx K Q hR hK => ?_
     have t23 := hR.q 5
     have y0 := (hR.bel.cell lg).trans cl
     go_simp
     exact hK _ _ br rfl
    ·refine rs fun S a wx K Q hR hK => ?_
     have t21 := hR.q 3
     have t24 := hR.q 6
     go_simp
     (try go_ints)
     exact hK _ _ br rfl
    intro S1 vs w1 hD
    have HB1 := hid hD.bel
    simp only [aH, List.foldl_cons, List.foldl_nil]
    clear hD cl
    go_simp
    go_wp2_with fail
    go_roundw
    case rel => exact ⟨j + 1, by go_num, by omega, by omega, HG.out.1.trans (Rg.of_below HB1.out), by
     have h := (HB1.out.block _ lrb).trans HG.out.2
     have e : (if K < j + 1 then K else 0 : Nat) = (if K < j then K else 0) := by split <;> split <;> omega
     rw [e]; exact h⟩
    case measure => simp [intOf]; omega
  ·have hj2 : j = 8 := by omega
   subst hj2
   rw [if_pos (by have := HKK.out; omega)] at hrow
   have c0 : wr.cell? ⟨rb, 0, none⟩ = some (.int .i64 (K : Nat)) := by rw [cell_of_row wr _ 0 _ _ _ hrow]; rfl
   have lrb : rb < wr.heap.size := (Array.getElem?_eq_some_iff.1 hrow).1
   have HG := hid (And.intro hrg hrow)
   clear hrg hrow
   have u1 : (0 : Int) ≤ (K : Int) := by omega
   have u2 : (K : Int) < 8 := by rcases HKK.out with e | e | e <;> omega
   have x0 : (((K : Nat) : Int) == 0) = false := by rw [beq_eq_false_iff_ne]; rcases HKK.out with e | e | e <;> omega
   have x2 : (((K : Nat) : Int) == 2) = false := by rw [beq_eq_false_iff_ne]; rcases HKK.out with e | e | e <;> omega
   have x3 : (((K : Nat) : Int) == 3) = false := by rw [beq_eq_false_iff_ne]; rcases HKK.out with e | e | e <;> omega
   have x4 : (((K : Nat) : Int) == 4) = false := by rw [beq_eq_false_iff_ne]; rcases HKK.out with e | e | e <;> omega
   have x5 : (((K : Nat) : Int) == 5) = false := by rw [beq_eq_false_iff_ne]; rcases HKK.out with e | e | e <;> omega
   have x6 : (((K : Nat) : Int) != 5) = true := by rw [bne_iff_ne]; rcases HKK.out with e | e | e <;> omega
   have w7' : (wr.alloc (.cells #[.int .i64 0, .int .i64 2, .int .i64 4, .int .i64 4, .int .i64 3, .int .i64 3, .int .i64 2, .int .i64 2] 3)).cell? ⟨wr.heap.size, K, none⟩ = some (.int .i64 2) := by
    rw [cell_of_row _ _ _ _ _ _ (aa _ _ _ rfl)]
    rcases HKK.out with e | e | e <;> subst e <;> rfl
   go_upto_region 9 with fail
   clear w7'
   obtain ⟨W4, hW4⟩ : ∃ W4, W4 = wr.alloc (.cells #[.int .i64 0, .int .i64 2, .int .i64 4, .int .i64 4, .int .i64 3, .int .i64 3, .int .i64 2, .int .i64 2] 3) := ⟨_, rfl⟩
   have hb4 : Below wr.heap.size wr W4 := by rw [hW4]; exact br.alloc nl _
   have hrg4 : Rg rb W2 W4 := HG.out.1.trans (Rg.of_below hb4)
   have hrow4 : W4.heap[rb]? = some (.cells #[.int .i64 (K : Nat), .int .u64 0, .int .u64 0, .int .u64 0, .int .u64 0, .int .u64 0, .int .i64 0, .int .u64 0, .int .u64 0, .slice none 0 0, .slice none 0 0] 65 (0, 0)) := (hb4.block _ lrb).trans HG.out.2
   have hz4 : W4.heap[w.heap.size]? = some (.cells #[.int .i64 0, .int .u64 0, .int .u64 0, .int .u64 0, .int .u64 0, .int .u64 0, .int .i64 0, .int .u64 0, .int .u64 0, .slice none 0 0, .slice none 0 0] 65 (0, 0)) := (hrg4.keep _ (by omega) lwn).trans H2.out.2.1
   have hl4 : ∀ (i : Nat) (x : List UInt8), (l0 :: lr)[i]? = some x → W4.cell? ⟨gg, i, none⟩ = some (.string ⟨x.toArray⟩) := fun i x hx => hrg4.cell (H2.out.2.2.1 i x hx) lgn
   have hB4 : Below w.heap.size w W4 := H2.out.2.2.2.trans ((hrg4.below (by omega)).mono (by omega))
   have hzz4 := hrg4.size
   have l4 : rb < W4.heap.size := by omega
   have H4 := hid (And.intro hrow4 (And.intro hz4 (And.intro hl4 (And.intro hB4 hrg4))))
   rw [← hW4]
   have c0 : W4.cell? ⟨rb, 0, none⟩ = some (.int .i64 (K : Nat)) := by rw [cell_of_row W4 _ 0 _ _ _ hrow4]; rfl
   clear hW4 hb4 hrow4 hz4 hl4 hB4 hrg4 hzr HG
   by_cases hlt : N < 2
   ·have t1 : decide ((N : Int) < 2) = true := by simp; omega
    have HLN : Hid (aM s.data.toList = none) := hid (eG HC.out HKD.out (by have := HMM.out.2.2; rcases HKK.out with e | e | e <;> subst e <;> simp [jE] <;> omega))
    go_upto_region 10 with fail
    go_wp2_with (refine wpList_store_row rfl 65 (.tmp 2) (.tmp 53) rfl rfl w.heap.size rfl _ rfl 65 _ H4.out.2.1 (by kernel_rfl) rfl (by simp [Value.oneCell']) ?_)
    exact bodyPost_ret (v := .tuple #[.agg #[.int .i64 0, .int .u64 0, .int .u64 0, .int .u64 0, .int .u64 0, .int .u64 0, .int .i64 0, .int .u64 0, .int .u64 0, .slice none 0 0, .slice none 0 0], .int .i64 50]) (ag rfl _ _ w.heap.size 65 _ _ _ _ rfl (setRow_heap _ _ _ _ _ _ H4.out.2.1) Tryz.underlying65 rfl (by kernel_rfl) rfl) rfl (aG HLN.out (below_setRow H4.out.2.2.2.1 _ _ nl))
   have t1 : decide ((N : Int) < 2) = false := by simp; omega
   by_cases hgt : 2 < N
   ·have t2 : decide ((2 : Int) < (N : Int)) = true := by simp; omega
    have HLN : Hid (aM s.data.toList = none) := hid (eG HC.out HKD.out (by have := HMM.out.2.2; rcases HKK.out with e | e | e <;> subst e <;> simp [jE] <;> omega))
    go_upto_region 10 with fail
    go_wp2_with (refine wpList_store_row rfl 65 (.tmp 2) (.tmp 53) rfl rfl w.heap.size rfl _ rfl 65 _ H4.out.2.1 (by kernel_rfl) rfl (by simp [Value.oneCell']) ?_)
    exact bodyPost_ret (v := .tuple #[.agg #[.int .i64 0, .int .u64 0, .int .u64 0, .int .u64 0, .int .u64 0, .int .u64 0, .int .i64 0, .int .u64 0, .int .u64 0, .slice none 0 0, .slice none 0 0], .int .i64 50]) (ag rfl _ _ w.heap.size 65 _ _ _ _ rfl (setRow_heap _ _ _ _ _ _ H4.out.2.1) Tryz.underlying65 rfl (by kernel_rfl) rfl) rfl (aG HLN.out (below_setRow H4.out.2.2.2.1 _ _ nl))
   have t2 : decide ((2 : Int) < (N : Int)) = false := by simp; omega
   obtain ⟨l1, hlr⟩ : ∃ l1, lr = [l1] := Fg (by have := HMM.out.2.2; omega)
   have hN4 : N = 2 := by have := HMM.out.2.2; rw [hlr] at this; simpa using this
   subst hN4
   have HLR := hid hlr
   have c21 : W4.cell? ⟨gg, 1, none⟩ = some (.string ⟨l1.toArray⟩) := H4.out.2.2.1 1 l1 (by rw [hlr]; rfl)
   have z1 : (ByteArray.mk l1.toArray).size ≤ 1000000 := by have := HMM.out.1 l1 (by rw [hlr]; simp); rw [← af]; simp; omega
   have r1 : W4.cell? ⟨rb, 1, none⟩ = some (.int .u64 0) := by rw [cell_of_row W4 _ 1 _ _ _ H4.out.1]; rfl
   have f1 : W4.frozen? ⟨rb, 1, none⟩ = false := by rw [frozen_of_row W4 _ 1 _ _ H4.out.1]
   clear hlr
   go_upto_region 33 with (go_at_call 53; refine (dm _ _ (by assumption)).mono ?_; rintro e w' ⟨rfl, hw'⟩; rw [hw']; clear hw' w')
   obtain ⟨W6, hW6⟩ : ∃ W6, W6 = (W4.setCell ⟨rb, 1, none⟩ (.int .u64 (aj l1 : Nat))) := ⟨_, rfl⟩
   have hrow6 : W6.heap[rb]? = some (.cells #[.int .i64 (K : Nat), .int .u64 (aj l1 : Nat), .int .u64 0, .int .u64 0, .int .u64 0, .int .u64 0, .int .i64 0, .int .u64 0, .int .u64 0, .slice none 0 0, .slice none 0 0] 65 (0, 0)) := by rw [hW6]; exact ae (H4.out.1) rfl
   have hrg6 : Rg rb W4 W6 := by rw [hW6]; exact (Rg.refl _ _).setCell _ _
   rw [← hW6]
   have hz6 : W6.heap[w.heap.size]? = some (.cells #[.int .i64 0, .int .u64 0, .int .u64 0, .int .u64 0, .int .u64 0, .int .u64 0, .int .i64 0, .int .u64 0, .int .u64 0, .slice none 0 0, .slice none 0 0] 65 (0, 0)) := (hrg6.keep _ (by omega) lwn).trans H4.out.2.1
   have hB6 : Below w.heap.size w W6 := H4.out.2.2.2.1.trans ((hrg6.below (by omega)).mono (by omega))
   have HRC : Hid (aI W6 (fun b => w.heap.size < b) true ⟨(K : Nat), (aj l1), 0, 0, 0, 0, .zero, []⟩ (.agg #[.int .i64 (K : Nat), .int .u64 (aj l1 : Nat), .int .u64 0, .int .u64 0, .int .u64 0, .int .u64 0, .int .i64 0, .int .u64 0, .int .u64 0, .slice none 0 0, .slice none 0 0])) := hid (dw W6 _ (K : Nat) (aj l1) 0 0 0 0 (by omega) (cK _) (by omega) (by omega) (by omega) (by omega))
   have HCAND : Hid (dS s.data.toList = some ⟨(K : Nat), (aj l1), 0, 0, 0, 0, .zero, []⟩) := hid (EJ HC.out HLR.out HKD.out HKK.out)
   have hsz : (Rec.p (⟨(K : Nat), (aj l1), 0, 0, 0, 0, .zero, []⟩ : Rec)).size ≤ 900 := show (Ex.zero).size ≤ 900 by decide
   have hle : (Rec.es (⟨(K : Nat), (aj l1), 0, 0, 0, 0, .zero, []⟩ : Rec)).length ≤ 10000 := by simp
   have H6 := hid (And.intro hrow6 (And.intro hz6 hB6))
   clear hW6 hrow6 hrg6 hz6 hB6 c0 c21 r1 f1
   go_wp2_with (refine wpList_load_row rfl 65 (.tmp 5) rfl rb rfl 65 _ (0, 0) _ H6.out.1 Tryz.underlying65 rfl (by kernel_rfl) ?_)
   refine (fQ _ true (⟨(K : Nat), (aj l1), 0, 0, 0, 0, .zero, []⟩) _ W6 hsz hle HRC.out).mono ?_
   rintro e w7 ⟨rfl, hb7⟩
   obtain ⟨TB, hTB⟩ : ∃ TB : ByteArray, TB = ⟨(Rec.text (⟨(K : Nat), (aj l1), 0, 0, 0, 0, .zero, []⟩)).toArray⟩ := ⟨_, rfl⟩
   have eTB : TB.toList = Rec.text (⟨(K : Nat), (aj l1), 0, 0, 0, 0, .zero, []⟩) := by rw [hTB, ByteArray.toList_eq]
   rw [← hTB]
   have l6 : rb < W6.heap.size := (Array.getElem?_eq_some_iff.1 H6.out.1).1
   have hrow7 := (hb7.block _ l6).trans H6.out.1
   have hz7 := (hb7.block _ (by omega)).trans H6.out.2.1
   have hB7 : Below w.heap.size w w7 := H6.out.2.2.trans (hb7.mono (by omega))
   have hrc7 := HRC.out.below hb7 nl
   have H7 := hid (And.intro hrow7 (And.intro hz7 (And.intro hB7 hrc7)))
   clear hTB hb7 hrow7 hz7 hB7 hrc7
   by_cases hq : Rec.text (⟨(K : Nat), (aj l1), 0, 0, 0, 0, .zero, []⟩) = s.data.toList
   ·have hne : (TB.toList == s.toList) = true := by rw [eTB, hq, ByteArray.toList_eq]; simp
    have HLN : Hid (aM s.data.toList = some (⟨(K : Nat), (aj l1), 0, 0, 0, 0, .zero, []⟩)) := hid (by rw [← dU, HCAND.out]; simp [hq])
    clear hq eTB
    go_wp2_with (first
     | (refine wpList_load_row rfl 65 (.tmp 5) rfl rb rfl 65 _ (0, 0) _ H7.out.1 Tryz.underlying65 rfl (by kernel_rfl) ?_)
     | (refine wpList_store_row rfl 65 (.tmp 2) (.tmp 144) rfl rfl w.heap.size rfl _ rfl 65 _ H7.out.2.1 (by kernel_rfl) rfl (by simp [Value.oneCell']) ?_))
    exact bodyPost_ret (v := .tuple #[.agg #[.int .i64 (K : Nat), .int .u64 (aj l1 : Nat), .int .u64 0, .int .u64 0, .int .u64 0, .int .u64 0, .int .i64 0, .int .u64 0, .int .u64 0, .slice none 0 0, .slice none 0 0], .int .i64 0]) (ag rfl _ _ w.heap.size 65 _ _ _ _ rfl (setRow_heap _ _ _ _ _ _ H7.out.2.1) Tryz.underlying65 rfl (by kernel_rfl) rfl) rfl (dP _ HLN.out (aI.keep H7.out.2.2.2 (fun b hb _ => setRow_other _ _ _ _ (by omega)) (fun b _ hb => by omega)) (below_setRow H7.out.2.2.1 _ _ nl))
   ·have hne : (TB.toList == s.toList) = false := by rw [eTB, ByteArray.toList_eq]; simpa using hq
    have HLN : Hid (aM s.data.toList = none) := hid (by rw [← dU, HCAND.out]; simp [hq])
    clear hq eTB
    go_upto_region 34 with fail
    go_wp2_with (refine wpList_store_row rfl 65 (.tmp 2) (.tmp 143) rfl rfl w.heap.size rfl _ rfl 65 _ H7.out.2.1 (by kernel_rfl) rfl (by simp [Value.oneCell']) ?_)
    exact bodyPost_ret (v := .tuple #[.agg #[.int .i64 0, .int .u64 0, .int .u64 0, .int .u64 0, .int .u64 0, .int .u64 0, .int .i64 0, .int .u64 0, .int .u64 0, .slice none 0 0, .slice none 0 0], .int .i64 50]) (ag rfl _ _ w.heap.size 65 _ _ _ _ rfl (setRow_heap _ _ _ _ _ _ H7.out.2.1) Tryz.underlying65 rfl (by kernel_rfl) rfl) rfl (aG HLN.out (below_setRow H7.out.2.2.1 _ _ nl))
theorem yP (s : ByteArray) (w : World) (hs : s.size ≤ 800) (l0 : List UInt8) (lr : List (List UInt8)) (HC : Hid (cuts 32 s.data.toList = l0 :: lr)) (HKD : Hid (kindOf l0 = 2)) :
  Calls Tryz.prog 29 #[.string s] w (eZ (aM s.data.toList) w) := by
 have hb0 : Below w.heap.size w (w.alloc (.cells #[.int .i64 0, .int .u64 0, .int .u64 0, .int .u64 0, .int .u64 0, .int .u64 0, .int .i64 0, .int .u64 0, .int .u64 0, .slice none 0 0, .slice none 0 0] 65)) := br.alloc nl _
 have hMem := aV 32 s.data.toList
 have hLen := bJ 32 s.data.toList
 rw [HC.out] at hMem hLen
 rw [af] at hMem hLen
 have HCU := hid (dn 32 s (w.alloc (.cells #[.int .i64 0, .int .u64 0, .int .u64 0, .int .u64 0, .int .u64 0, .int .u64 0, .int .i64 0, .int .u64 0, .int .u64 0, .slice none 0 0, .slice none 0 0] 65)) (by omega))
 obtain ⟨N, hN⟩ : ∃ N, N = lr.length + 1 := ⟨_, rfl⟩
 have HMM := hid (And.intro hMem (And.intro hLen hN))
 have HB0 := hid hb0
 have hN0 : 0 < N := by omega
 have hN1 : N ≤ 1000 := by rw [List.length_cons] at hLen; omega
 clear hb0 hMem hLen hN
 go_enter Tryz.func29, Tryz.ntmps29
 go_wp2_with fail
 refine HCU.out.mono ?_
 rintro e W1 ⟨v, rfl, hown, hb1⟩
 rw [HC.out] at hown
 obtain ⟨gg, gc, rfl, hgb, hgl, hcell⟩ := dI hown (by simp)
 rw [List.length_cons, ← HMM.out.2.2]
 simp only [World.size_alloc] at hgb
 have hz1 := hb1.size
 simp only [World.size_alloc] at hz1
 obtain ⟨rb, hrb⟩ : ∃ rb, rb = W1.heap.size := ⟨_, rfl⟩
 obtain ⟨W2, hW2⟩ : ∃ W2, W2 = W1.alloc (.cells #[.int .i64 0, .int .u64 0, .int .u64 0, .int .u64 0, .int .u64 0, .int .u64 0, .int .i64 0, .int .u64 0, .int .u64 0, .slice none 0 0, .slice none 0 0] 65) := ⟨_, rfl⟩
 have hb2 : Below W1.heap.size W1 W2 := by rw [hW2]; exact br.alloc nl _
 have hr2 : W2.heap[rb]? = some (.cells #[.int .i64 0, .int .u64 0, .int .u64 0, .int .u64 0, .int .u64 0, .int .u64 0, .int .i64 0, .int .u64 0, .int .u64 0, .slice none 0 0, .slice none 0 0] 65 (0, 0)) := by rw [hW2, hrb]; exact aa _ _ _ rfl
 have hz2 : W2.heap.size = rb + 1 := by rw [hW2, hrb]; simp
 have ho2 : W2.heap[w.heap.size]? = some (.cells #[.int .i64 0, .int .u64 0, .int .u64 0, .int .u64 0, .int .u64 0, .int .u64 0, .int .i64 0, .int .u64 0, .int .u64 0, .slice none 0 0, .slice none 0 0] 65 (0, 0)) := (hb2.block _ (by omega)).trans ((hb1.block _ (by simp)).trans (aa _ _ _ rfl))
 have hl2 : ∀ (i : Nat) (x : List UInt8), (l0 :: lr)[i]? = some x → W2.cell? ⟨gg, i, none⟩ = some (.string ⟨x.toArray⟩) := fun i x hx => (hb2.cell hgl).trans (hcell i _ (by simp only [strs, List.getElem?_map, hx]; rfl))
 have hB2 : Below w.heap.size w W2 := HB0.out.trans ((hb1.mono (by simp)).trans (hb2.mono (by omega)))
 have lgr : gg < rb := by omega
 have lgn : gg ≠ rb := by omega
 have lwr : w.heap.size < rb := by omega
 have lwn : w.heap.size ≠ rb := by omega
 have lwg : w.heap.size < gg := by omega
 have H2 := hid (And.intro hr2 (And.intro ho2 (And.intro hl2 hB2)))
 have HRB := hid (And.intro hrb hW2)
 clear hown hb1 hb2 hr2 ho2 hl2 hB2 hcell hgb hz1 hgl HB0 HCU hrb hW2
 go_upto_region 3 with fail
 rw [← HRB.out.2, ← HRB.out.1]
 clear HRB
 go_wp2_with fail
 go_loopw [6] (fun i wr => ∃ j : Nat, i = .int .i64 (j : Nat) ∧ 1 ≤ j ∧ j ≤ 8 ∧ Rg rb W2 wr ∧ wr.heap[rb]? = some (.cells #[.int .i64 ((if 2 < j then 2 else 0 : Nat) : Int), .int .u64 0, .int .u64 0, .int .u64 0, .int .u64 0, .int .u64 0, .int .i64 0, .int .u64 0, .int .u64 0, .slice none 0 0, .slice none 0 0] 65 (0, 0))) (fun i _ => 8 - (intOf i).toNat)
 case atStart => exact ⟨1, rfl, by omega, by omega, Rg.refl _ _, by rw [if_neg (by omega)]; exact H2.out.1⟩
 case round =>
  obtain ⟨j, rfl, hj1, hj8, hrg, hrow⟩ := hrel
  have hzr := hrg.size
  by_cases hj : j < 8
  ·obtain ⟨WJ, hWJ⟩ : ∃ WJ : ByteArray, WJ = ⟨(ay j).toArray⟩ := ⟨_, rfl⟩
   obtain ⟨L0, hL0⟩ : ∃ L0 : ByteArray, L0 = ⟨l0.toArray⟩ := ⟨_, rfl⟩
   have HWJ : Hid (eT[j]? = some (.string WJ)) := hid (by rw [hWJ]; exact cu j hj1 (by omega))
   have cl : wr.cell? ⟨gg, 0, none⟩ = some (.string L0) := by rw [hL0]; exact hrg.cell (H2.out.2.2.1 0 l0 rfl) lgn
   have lg : gg < wr.heap.size := by omega
   have eWJ : WJ.toList = ay j := by rw [hWJ, ByteArray.toList_eq]
   have eL0 : L0.toList = l0 := by rw [hL0, ByteArray.toList_eq]
   have i1 : (j : Int) < 8 := by omega
   have i0 : (0 : Int) ≤ (j : Int) := by omega
   have i2 : (0 : Int) < (N : Int) := by omega
   have c0 : wr.cell? ⟨rb, 0, none⟩ = some (.int .i64 ((if 2 < j then 2 else 0 : Nat) : Int)) := by rw [cell_of_row wr _ 0 _ _ _ hrow]; rfl
   have f0 : wr.frozen? ⟨rb, 0, none⟩ = false := by rw [frozen_of_row wr _ 0 _ _ hrow]
   have lrb : rb < wr.heap.size := (Array.getElem?_eq_some_iff.1 hrow).1
   have HG := hid (And.intro hrg hrow)
   clear hrg hrow hWJ hL0
   by_cases hw : ay j = l0
   ·have hkj : j = 2 := ((bK hj1 (by omega) l0).2 hw).symm.trans HKD.out
    have hq : (WJ.toList == L0.toList) = true := by rw [eWJ, eL0]; simpa using hw
    clear eWJ eL0
    have HKJ := hid hkj
    clear hkj
    go_wp2_with fail
    refine av (w0 := wr) rfl [.of (aZ), .eq (.int .i64 (j : Nat)), .of (aQ WJ), .eq (.string WJ), .eq (.slice (some ⟨gg, 0, none⟩) N gc), .eq (.pointer (some ⟨gg, 0, none⟩)), .eq (.string L0), .eq (.bool true)] (by kernel_rfl) ⟨?_, ?_, ?_, ?_, ?_, ?_, ?_, ?_, ?_, ?_, trivial⟩ (fun vs => [(18, vs 0), (19, (.int .i64 (j : Nat))), (20, vs 2), (21, (.string WJ)), (22, (.slice (some ⟨gg, 0, none⟩) N gc)), (23, (.pointer (some ⟨gg, 0, none⟩))), (24, (.string L0)), (25, (.bool true))]) (fun _ => rfl) ?_
    ·exact aW
    ·refine rs fun S a wx K Q hR hK => ?_
     go_simp
     go_at_call 52
     refine (aP _).mono ?_
     rintro e w' ⟨rfl, rfl⟩
     exact hK _ _ (br.alloc nl _) ⟨_, rfl, by simp, hR.new _ nl, aa _ _ _ rfl⟩
    ·refine rs fun S a wx K Q hR hK => ?_
     have t6 : a.tmps[6]? = some (.int .i64 (j : Nat)) := hR.o 6
     go_simp
     exact hK _ _ br rfl
    ·exact aR _
    ·refine rs fun S a wx K Q hR hK => ?_
     obtain ⟨u18, t18, f18⟩ := hR.f 0
     have t19 := hR.q 1
     obtain ⟨g9, rfl, hg9, hS9, hw9⟩ := (show aZ S u18 wx from f18)
     go_simp
     exact hK _ _ br ⟨g9, j, by simp, hg9, hS9, by rw [cell_of_row wx _ _ _ _ _ hw9]; exact HWJ.out⟩
    ·refine rs fun S a wx K Q hR hK => ?_
     obtain ⟨u20, t20, f20⟩ := hR.f 2
     obtain ⟨g12, o12, rfl, _, _, y12⟩ := (show aQ WJ S u20 wx from f20)
     go_simp
     exact hK _ _ br rfl
    ·refine rs fun S a wx K Q hR hK => ?_
     have t4 : a.tmps[4]? = some (.slice (some ⟨gg, 0, none⟩) N gc) := hR.o 4
     go_simp
     exact hK _ _ br rfl
    ·refine rs fun S a wx K Q hR hK => ?_
     have t22 := hR.q 4
     go_simp
     exact hK _ _ br rfl
    ·refine rs fun S a wx K Q hR hK => ?_
     have t23 := hR.q 5
     have y0 := (hR.bel.cell lg).trans cl
     go_simp
     exact hK _ _ br rfl
    ·refine rs fun S a wx K Q hR hK => ?_
     have t21 := hR.q 3
     have t24 := hR.q 6
     go_simp
     (try go_ints)
     exact hK _ _ br rfl
    intro S1 vs w1 hD
    have hb1 := hD.bel
    have c0' := (hb1.cell lrb).trans c0
    have f0' : w1.frozen? ⟨rb, 0, none⟩ = false := by rw [frozen_of_row w1 _ 0 _ _ ((hb1.block _ lrb).trans HG.out.2)]
    have HB1 := hid hb1
    simp only [aH, List.foldl_cons, List.foldl_nil]
    clear hD cl c0 f0 hb1
    go_simp
    go_wp2_with fail
    go_roundw
    case rel =>
     refine ⟨j + 1, by go_num, by omega, by omega, (HG.out.1.trans (Rg.of_below HB1.out)).setCell _ _, ?_⟩
     rw [if_pos (by rw [HKJ.out]; omega)]
     exact ae ((HB1.out.block _ lrb).trans HG.out.2) (by rw [HKJ.out]; rfl)
    case measure => simp [intOf]; omega
   ·have hkj : 2 ≠ j := fun e => hw ((bK hj1 (by omega) l0).1 (HKD.out.trans e))
    have hq : (WJ.toList == L0.toList) = false := by rw [eWJ, eL0]; simpa using hw
    clear eWJ eL0
    go_wp2_with fail
    refine av (w0 := wr) rfl [.of (aZ), .eq (.int .i64 (j : Nat)), .of (aQ WJ), .eq (.string WJ), .eq (.slice (some ⟨gg, 0, none⟩) N gc), .eq (.pointer (some ⟨gg, 0, none⟩)), .eq (.string L0), .eq (.bool false)] (by kernel_rfl) ⟨?_, ?_, ?_, ?_, ?_, ?_, ?_, ?_, ?_, ?_, trivial⟩ (fun vs => [(18, vs 0), (19, (.int .i64 (j : Nat))), (20, vs 2), (21, (.string WJ)), (22, (.slice (some ⟨gg, 0, none⟩) N gc)), (23, (.pointer (some ⟨gg, 0, none⟩))), (24, (.string L0)), (25, (.bool false))]) (fun _ => rfl) ?_
    ·exact aW
    ·refine rs fun S a wx K Q hR hK => ?_
     go_simp
     go_at_call 52
     refine (aP _).mono ?_
     rintro e w' ⟨rfl, rfl⟩
     exact hK _ _ (br.alloc nl _) ⟨_, rfl, by simp, hR.new _ nl, aa _ _ _ rfl⟩
    ·refine rs fun S a wx K Q hR hK => ?_
     have t6 : a.tmps[6]? = some (.int .i64 (j : Nat)) := hR.o 6
     go_simp
     exact hK _ _ br rfl
    ·exact aR _
    ·refine rs fun S a wx K Q hR hK => ?_
     obtain ⟨u18, t18, f18⟩ := hR.f 0
     have t19 := hR.q 1
     obtain ⟨g9, rfl, hg9, hS9, hw9⟩ := (show aZ S u18 wx from f18)
     go_simp
     exact hK _ _ br ⟨g9, j, by simp, hg9, hS9, by rw [cell_of_row wx _ _ _ _ _ hw9]; exact HWJ.out⟩
    ·refine rs fun S a wx K Q hR hK => ?_
     obtain ⟨u20, t20, f20⟩ := hR.f 2
     obtain ⟨g12, o12, rfl, _, _, y12⟩ := (show aQ WJ S u20 wx from f20)
     go_simp
     exact hK _ _ br rfl
    ·refine rs fun S a wx K Q hR hK => ?_
     have t4 : a.tmps[4]? = some (.slice (some ⟨gg, 0, none⟩) N gc) := hR.o 4
     go_simp
     exact hK _ _ br rfl
    ·refine rs fun S a wx K Q hR hK => ?_
     have t22 := hR.q 4
     go_simp
     exact hK _ _ br rfl
    ·refine rs fun S a wx K Q hR hK => ?_
     have t23 := hR.q 5
     have y0 := (hR.bel.cell lg).trans cl
     go_simp
     exact hK _ _ br rfl
    ·refine rs fun S a wx K Q hR hK => ?_
     have t21 := hR.q 3
     have t24 := hR.q 6
     go_simp
     (try go_ints)
     exact hK _ _ br rfl
    intro S1 vs w1 hD
    have HB1 := hid hD.bel
    simp only [aH, List.foldl_cons, List.foldl_nil]
    clear hD cl
    go_simp
    go_wp2_with fail
    go_roundw
    case rel => exact ⟨j + 1, by go_num, by omega, by omega, HG.out.1.trans (Rg.of_below HB1.out), by
     have h := (HB1.out.block _ lrb).trans HG.out.2
     have e : (if 2 < j + 1 then 2 else 0 : Nat) = (if 2 < j then 2 else 0) := by split <;> split <;> omega
     rw [e]; exact h⟩
    case measure => simp [intOf]; omega
  ·have hj2 : j = 8 := by omega
   subst hj2
   rw [if_pos (by omega)] at hrow
   have c0 : wr.cell? ⟨rb, 0, none⟩ = some (.int .i64 2) := by rw [cell_of_row wr _ 0 _ _ _ hrow]; rfl
   have lrb : rb < wr.heap.size := (Array.getElem?_eq_some_iff.1 hrow).1
   have HG := hid (And.intro hrg hrow)
   clear hrg hrow
   go_upto_region 9 with fail
   obtain ⟨W4, hW4⟩ : ∃ W4, W4 = wr.alloc (.cells #[.int .i64 0, .int .i64 2, .int .i64 4, .int .i64 4, .int .i64 3, .int .i64 3, .int .i64 2, .int .i64 2] 3) := ⟨_, rfl⟩
   have hb4 : Below wr.heap.size wr W4 := by rw [hW4]; exact br.alloc nl _
   have hrg4 : Rg rb W2 W4 := HG.out.1.trans (Rg.of_below hb4)
   have hrow4 : W4.heap[rb]? = some (.cells #[.int .i64 2, .int .u64 0, .int .u64 0, .int .u64 0, .int .u64 0, .int .u64 0, .int .i64 0, .int .u64 0, .int .u64 0, .slice none 0 0, .slice none 0 0] 65 (0, 0)) := (hb4.block _ lrb).trans HG.out.2
   have hz4 : W4.heap[w.heap.size]? = some (.cells #[.int .i64 0, .int .u64 0, .int .u64 0, .int .u64 0, .int .u64 0, .int .u64 0, .int .i64 0, .int .u64 0, .int .u64 0, .slice none 0 0, .slice none 0 0] 65 (0, 0)) := (hrg4.keep _ (by omega) lwn).trans H2.out.2.1
   have hl4 : ∀ (i : Nat) (x : List UInt8), (l0 :: lr)[i]? = some x → W4.cell? ⟨gg, i, none⟩ = some (.string ⟨x.toArray⟩) := fun i x hx => hrg4.cell (H2.out.2.2.1 i x hx) lgn
   have hB4 : Below w.heap.size w W4 := H2.out.2.2.2.trans ((hrg4.below (by omega)).mono (by omega))
   have hzz4 := hrg4.size
   have l4 : rb < W4.heap.size := by omega
   have H4 := hid (And.intro hrow4 (And.intro hz4 (And.intro hl4 (And.intro hB4 hrg4))))
   rw [← hW4]
   have c0 : W4.cell? ⟨rb, 0, none⟩ = some (.int .i64 2) := by rw [cell_of_row W4 _ 0 _ _ _ hrow4]; rfl
   clear hW4 hb4 hrow4 hz4 hl4 hB4 hrg4 hzr HG
   by_cases hlt : N < 4
   ·have t1 : decide ((N : Int) < 4) = true := by simp; omega
    have HLN : Hid (aM s.data.toList = none) := hid (eG HC.out HKD.out (by have := HMM.out.2.2; simp [jE]; omega))
    go_upto_region 10 with fail
    go_wp2_with (refine wpList_store_row rfl 65 (.tmp 2) (.tmp 53) rfl rfl w.heap.size rfl _ rfl 65 _ H4.out.2.1 (by kernel_rfl) rfl (by simp [Value.oneCell']) ?_)
    exact bodyPost_ret (v := .tuple #[.agg #[.int .i64 0, .int .u64 0, .int .u64 0, .int .u64 0, .int .u64 0, .int .u64 0, .int .i64 0, .int .u64 0, .int .u64 0, .slice none 0 0, .slice none 0 0], .int .i64 50]) (ag rfl _ _ w.heap.size 65 _ _ _ _ rfl (setRow_heap _ _ _ _ _ _ H4.out.2.1) Tryz.underlying65 rfl (by kernel_rfl) rfl) rfl (aG HLN.out (below_setRow H4.out.2.2.2.1 _ _ nl))
   have t1 : decide ((N : Int) < 4) = false := by simp; omega
   by_cases hgt : 4 < N
   ·have t2 : decide ((4 : Int) < (N : Int)) = true := by simp; omega
    have HLN : Hid (aM s.data.toList = none) := hid (eG HC.out HKD.out (by have := HMM.out.2.2; simp [jE]; omega))
    go_upto_region 10 with fail
    go_wp2_with (refine wpList_store_row rfl 65 (.tmp 2) (.tmp 53) rfl rfl w.heap.size rfl _ rfl 65 _ H4.out.2.1 (by kernel_rfl) rfl (by simp [Value.oneCell']) ?_)
    exact bodyPost_ret (v := .tuple #[.agg #[.int .i64 0, .int .u64 0, .int .u64 0, .int .u64 0, .int .u64 0, .int .u64 0, .int .i64 0, .int .u64 0, .int .u64 0, .slice none 0 0, .slice none 0 0], .int .i64 50]) (ag rfl _ _ w.heap.size 65 _ _ _ _ rfl (setRow_heap _ _ _ _ _ _ H4.out.2.1) Tryz.underlying65 rfl (by kernel_rfl) rfl) rfl (aG HLN.out (below_setRow H4.out.2.2.2.1 _ _ nl))
   have t2 : decide ((4 : Int) < (N : Int)) = false := by simp; omega
   obtain ⟨l1, l2, l3, hlr⟩ : ∃ l1 l2 l3, lr = [l1, l2, l3] := Ea (by have := HMM.out.2.2; omega)
   have hN4 : N = 4 := by have := HMM.out.2.2; rw [hlr] at this; simpa using this
   subst hN4
   have HLR := hid hlr
   have c21 : W4.cell? ⟨gg, 1, none⟩ = some (.string ⟨l1.toArray⟩) := H4.out.2.2.1 1 l1 (by rw [hlr]; rfl)
   have z1 : (ByteArray.mk l1.toArray).size ≤ 1000000 := by have := HMM.out.1 l1 (by rw [hlr]; simp); rw [← af]; simp; omega
   have c22 : W4.cell? ⟨gg, 2, none⟩ = some (.string ⟨l2.toArray⟩) := H4.out.2.2.1 2 l2 (by rw [hlr]; rfl)
   have z2 : (ByteArray.mk l2.toArray).size ≤ 1000000 := by have := HMM.out.1 l2 (by rw [hlr]; simp); rw [← af]; simp; omega
   have c23 : W4.cell? ⟨gg, 3, none⟩ = some (.string ⟨l3.toArray⟩) := H4.out.2.2.1 3 l3 (by rw [hlr]; rfl)
   have z3 : (ByteArray.mk l3.toArray).size ≤ 1000000 := by have := HMM.out.1 l3 (by rw [hlr]; simp); rw [← af]; simp; omega
   have r1 : W4.cell? ⟨rb, 1, none⟩ = some (.int .u64 0) := by rw [cell_of_row W4 _ 1 _ _ _ H4.out.1]; rfl
   have f1 : W4.frozen? ⟨rb, 1, none⟩ = false := by rw [frozen_of_row W4 _ 1 _ _ H4.out.1]
   have r2 : W4.cell? ⟨rb, 2, none⟩ = some (.int .u64 0) := by rw [cell_of_row W4 _ 2 _ _ _ H4.out.1]; rfl
   have f2 : W4.frozen? ⟨rb, 2, none⟩ = false := by rw [frozen_of_row W4 _ 2 _ _ H4.out.1]
   clear hlr
   go_wp2_with (go_at_call 53; refine (dm _ _ (by assumption)).mono ?_; rintro e w' ⟨rfl, hw'⟩; rw [hw']; clear hw' w')
   obtain ⟨W5, hW5⟩ : ∃ W5, W5 = ((W4.setCell ⟨rb, 1, none⟩ (.int .u64 (aj l1 : Nat))).setCell ⟨rb, 2, none⟩ (.int .u64 (aj l2 : Nat))) := ⟨_, rfl⟩
   have hrow5 : W5.heap[rb]? = some (.cells #[.int .i64 2, .int .u64 (aj l1 : Nat), .int .u64 (aj l2 : Nat), .int .u64 0, .int .u64 0, .int .u64 0, .int .i64 0, .int .u64 0, .int .u64 0, .slice none 0 0, .slice none 0 0] 65 (0, 0)) := by rw [hW5]; exact ae (ae H4.out.1 rfl) rfl
   have hrg5 : Rg rb W4 W5 := by rw [hW5]; exact ((Rg.refl _ _).setCell _ _).setCell _ _
   rw [← hW5]
   have H5 := hid (And.intro hrow5 hrg5)
   clear hW5 hrow5 hrg5 c0 c21 c22 c23 r1 r2 f1 f2
   refine (ky ⟨l3.toArray⟩ W5 (by have := HMM.out.1 l3 (by rw [HLR.out]; simp); rw [← af]; simp; omega)).mono ?_
   rintro e w6 ⟨rfl, hb6⟩
   have l5 : rb < W5.heap.size := (Array.getElem?_eq_some_iff.1 H5.out.1).1
   have hrow6 := (hb6.block _ l5).trans H5.out.1
   have hrg6 : Rg rb W4 w6 := H5.out.2.trans (Rg.of_below hb6)
   have r3 : w6.cell? ⟨rb, 3, none⟩ = some (.int .u64 0) := by rw [cell_of_row w6 _ 3 _ _ _ hrow6]; rfl
   have r4 : w6.cell? ⟨rb, 4, none⟩ = some (.int .u64 0) := by rw [cell_of_row w6 _ 4 _ _ _ hrow6]; rfl
   have f3 : w6.frozen? ⟨rb, 3, none⟩ = false := by rw [frozen_of_row w6 _ 3 _ _ hrow6]
   have f4 : w6.frozen? ⟨rb, 4, none⟩ = false := by rw [frozen_of_row w6 _ 4 _ _ hrow6]
   have c0 : w6.cell? ⟨rb, 0, none⟩ = some (.int .i64 2) := by rw [cell_of_row w6 _ 0 _ _ _ hrow6]; rfl
   have HR6 := hid (And.intro hrow6 hrg6)
   clear hb6 hrow6 hrg6
   go_upto_region 33 with fail
   obtain ⟨W6, hW6⟩ : ∃ W6, W6 = ((w6.setCell ⟨rb, 3, none⟩ (.int .u64 ((bV l3).1 : Nat))).setCell ⟨rb, 4, none⟩ (.int .u64 ((bV l3).2 : Nat))) := ⟨_, rfl⟩
   have hrow6 : W6.heap[rb]? = some (.cells #[.int .i64 2, .int .u64 (aj l1 : Nat), .int .u64 (aj l2 : Nat), .int .u64 ((bV l3).1 : Nat), .int .u64 ((bV l3).2 : Nat), .int .u64 0, .int .i64 0, .int .u64 0, .int .u64 0, .slice none 0 0, .slice none 0 0] 65 (0, 0)) := by rw [hW6]; exact ae (ae HR6.out.1 rfl) rfl
   have hrg6 : Rg rb W4 W6 := by rw [hW6]; exact (HR6.out.2.setCell _ _).setCell _ _
   rw [← hW6]
   have hz6 : W6.heap[w.heap.size]? = some (.cells #[.int .i64 0, .int .u64 0, .int .u64 0, .int .u64 0, .int .u64 0, .int .u64 0, .int .i64 0, .int .u64 0, .int .u64 0, .slice none 0 0, .slice none 0 0] 65 (0, 0)) := (hrg6.keep _ (by omega) lwn).trans H4.out.2.1
   have hB6 : Below w.heap.size w W6 := H4.out.2.2.2.1.trans ((hrg6.below (by omega)).mono (by omega))
   have HRC : Hid (aI W6 (fun b => w.heap.size < b) true ⟨2, aj l1, aj l2, (bV l3).1, (bV l3).2, 0, .zero, []⟩ (.agg #[.int .i64 2, .int .u64 (aj l1 : Nat), .int .u64 (aj l2 : Nat), .int .u64 ((bV l3).1 : Nat), .int .u64 ((bV l3).2 : Nat), .int .u64 0, .int .i64 0, .int .u64 0, .int .u64 0, .slice none 0 0, .slice none 0 0])) := hid (dw W6 _ 2 (aj l1) (aj l2) (bV l3).1 (bV l3).2 0 (by omega) (cK _) (cK _) (kM _).1 (kM _).2 (by omega))
   have HCAND : Hid (dS s.data.toList = some ⟨2, aj l1, aj l2, (bV l3).1, (bV l3).2, 0, .zero, []⟩) := hid (EK HC.out HLR.out HKD.out)
   have hsz : (Rec.p (⟨2, aj l1, aj l2, (bV l3).1, (bV l3).2, 0, .zero, []⟩ : Rec)).size ≤ 900 := show (Ex.zero).size ≤ 900 by decide
   have hle : (Rec.es (⟨2, aj l1, aj l2, (bV l3).1, (bV l3).2, 0, .zero, []⟩ : Rec)).length ≤ 10000 := by simp
   have H6 := hid (And.intro hrow6 (And.intro hz6 hB6))
   clear hW6 hrow6 hrg6 hz6 hB6 r3 r4 f3 f4 c0
   go_wp2_with (refine wpList_load_row rfl 65 (.tmp 5) rfl rb rfl 65 _ (0, 0) _ H6.out.1 Tryz.underlying65 rfl (by kernel_rfl) ?_)
   refine (fQ _ true (⟨2, aj l1, aj l2, (bV l3).1, (bV l3).2, 0, .zero, []⟩) _ W6 hsz hle HRC.out).mono ?_
   rintro e w7 ⟨rfl, hb7⟩
   obtain ⟨TB, hTB⟩ : ∃ TB : ByteArray, TB = ⟨(Rec.text (⟨2, aj l1, aj l2, (bV l3).1, (bV l3).2, 0, .zero, []⟩)).toArray⟩ := ⟨_, rfl⟩
   have eTB : TB.toList = Rec.text (⟨2, aj l1, aj l2, (bV l3).1, (bV l3).2, 0, .zero, []⟩) := by rw [hTB, ByteArray.toList_eq]
   rw [← hTB]
   have l6 : rb < W6.heap.size := (Array.getElem?_eq_some_iff.1 H6.out.1).1
   have hrow7 := (hb7.block _ l6).trans H6.out.1
   have hz7 := (hb7.block _ (by omega)).trans H6.out.2.1
   have hB7 : Below w.heap.size w w7 := H6.out.2.2.trans (hb7.mono (by omega))
   have hrc7 := HRC.out.below hb7 nl
   have H7 := hid (And.intro hrow7 (And.intro hz7 (And.intro hB7 hrc7)))
   clear hTB hb7 hrow7 hz7 hB7 hrc7
   by_cases hq : Rec.text (⟨2, aj l1, aj l2, (bV l3).1, (bV l3).2, 0, .zero, []⟩) = s.data.toList
   ·have hne : (TB.toList == s.toList) = true := by rw [eTB, hq, ByteArray.toList_eq]; simp
    have HLN : Hid (aM s.data.toList = some (⟨2, aj l1, aj l2, (bV l3).1, (bV l3).2, 0, .zero, []⟩)) := hid (by rw [← dU, HCAND.out]; simp [hq])
    clear hq eTB
    go_wp2_with (first
     | (refine wpList_load_row rfl 65 (.tmp 5) rfl rb rfl 65 _ (0, 0) _ H7.out.1 Tryz.underlying65 rfl (by kernel_rfl) ?_)
     | (refine wpList_store_row rfl 65 (.tmp 2) (.tmp 144) rfl rfl w.heap.size rfl _ rfl 65 _ H7.out.2.1 (by kernel_rfl) rfl (by simp [Value.oneCell']) ?_))
    exact bodyPost_ret (v := .tuple #[.agg #[.int .i64 2, .int .u64 (aj l1 : Nat), .int .u64 (aj l2 : Nat), .int .u64 ((bV l3).1 : Nat), .int .u64 ((bV l3).2 : Nat), .int .u64 0, .int .i64 0, .int .u64 0, .int .u64 0, .slice none 0 0, .slice none 0 0], .int .i64 0]) (ag rfl _ _ w.heap.size 65 _ _ _ _ rfl (setRow_heap _ _ _ _ _ _ H7.out.2.1) Tryz.underlying65 rfl (by kernel_rfl) rfl) rfl (dP _ HLN.out (aI.keep H7.out.2.2.2 (fun b hb _ => setRow_other _ _ _ _ (by omega)) (fun b _ hb => by omega)) (below_setRow H7.out.2.2.1 _ _ nl))
   ·have hne : (TB.toList == s.toList) = false := by rw [eTB, ByteArray.toList_eq]; simpa using hq
    have HLN : Hid (aM s.data.toList = none) := hid (by rw [← dU, HCAND.out]; simp [hq])
    clear hq eTB
    go_upto_region 34 with fail
    go_wp2_with (refine wpList_store_row rfl 65 (.tmp 2) (.tmp 143) rfl rfl w.heap.size rfl _ rfl 65 _ H7.out.2.1 (by kernel_rfl) rfl (by simp [Value.oneCell']) ?_)
    exact bodyPost_ret (v := .tuple #[.agg #[.int .i64 0, .int .u64 0, .int .u64 0, .int .u64 0, .int .u64 0, .int .u64 0, .int .i64 0, .int .u64 0, .int .u64 0, .slice none 0 0, .slice none 0 0], .int .i64 50]) (ag rfl _ _ w.heap.size 65 _ _ _ _ rfl (setRow_heap _ _ _ _ _ _ H7.out.2.1) Tryz.underlying65 rfl (by kernel_rfl) rfl) rfl (aG HLN.out (below_setRow H7.out.2.2.1 _ _ nl))
theorem yQ (s : ByteArray) (w : World) (hs : s.size ≤ 800) (l0 : List UInt8) (lr : List (List UInt8)) (HC : Hid (cuts 32 s.data.toList = l0 :: lr)) (HKD : Hid (kindOf l0 = 3)) :
  Calls Tryz.prog 29 #[.string s] w (eZ (aM s.data.toList) w) := by
 have hb0 : Below w.heap.size w (w.alloc (.cells #[.int .i64 0, .int .u64 0, .int .u64 0, .int .u64 0, .int .u64 0, .int .u64 0, .int .i64 0, .int .u64 0, .int .u64 0, .slice none 0 0, .slice none 0 0] 65)) := br.alloc nl _
 have hMem := aV 32 s.data.toList
 have hLen := bJ 32 s.data.toList
 rw [HC.out] at hMem hLen
 rw [af] at hMem hLen
 have HCU := hid (dn 32 s (w.alloc (.cells #[.int .i64 0, .int .u64 0, .int .u64 0, .int .u64 0, .int .u64 0, .int .u64 0, .int .i64 0, .int .u64 0, .int .u64 0, .slice none 0 0, .slice none 0 0] 65)) (by omega))
 obtain ⟨N, hN⟩ : ∃ N, N = lr.length + 1 := ⟨_, rfl⟩
 have HMM := hid (And.intro hMem (And.intro hLen hN))
 have HB0 := hid hb0
 have hN0 : 0 < N := by omega
 have hN1 : N ≤ 1000 := by rw [List.length_cons] at hLen; omega
 clear hb0 hMem hLen hN
 go_enter Tryz.func29, Tryz.ntmps29
 go_wp2_with fail
 refine HCU.out.mono ?_
 rintro e W1 ⟨v, rfl, hown, hb1⟩
 rw [HC.out] at hown
 obtain ⟨gg, gc, rfl, hgb, hgl, hcell⟩ := dI hown (by simp)
 rw [List.length_cons, ← HMM.out.2.2]
 simp only [World.size_alloc] at hgb
 have hz1 := hb1.size
 simp only [World.size_alloc] at hz1
 obtain ⟨rb, hrb⟩ : ∃ rb, rb = W1.heap.size := ⟨_, rfl⟩
 obtain ⟨W2, hW2⟩ : ∃ W2, W2 = W1.alloc (.cells #[.int .i64 0, .int .u64 0, .int .u64 0, .int .u64 0, .int .u64 0, .int .u64 0, .int .i64 0, .int .u64 0, .int .u64 0, .slice none 0 0, .slice none 0 0] 65) := ⟨_, rfl⟩
 have hb2 : Below W1.heap.size W1 W2 := by rw [hW2]; exact br.alloc nl _
 have hr2 : W2.heap[rb]? = some (.cells #[.int .i64 0, .int .u64 0, .int .u64 0, .int .u64 0, .int .u64 0, .int .u64 0, .int .i64 0, .int .u64 0, .int .u64 0, .slice none 0 0, .slice none 0 0] 65 (0, 0)) := by rw [hW2, hrb]; exact aa _ _ _ rfl
 have hz2 : W2.heap.size = rb + 1 := by rw [hW2, hrb]; simp
 have ho2 : W2.heap[w.heap.size]? = some (.cells #[.int .i64 0, .int .u64 0, .int .u64 0, .int .u64 0, .int .u64 0, .int .u64 0, .int .i64 0, .int .u64 0, .int .u64 0, .slice none 0 0, .slice none 0 0] 65 (0, 0)) := (hb2.block _ (by omega)).trans ((hb1.block _ (by simp)).trans (aa _ _ _ rfl))
 have hl2 : ∀ (i : Nat) (x : List UInt8), (l0 :: lr)[i]? = some x → W2.cell? ⟨gg, i, none⟩ = some (.string ⟨x.toArray⟩) := fun i x hx => (hb2.cell hgl).trans (hcell i _ (by simp only [strs, List.getElem?_map, hx]; rfl))
 have hB2 : Below w.heap.size w W2 := HB0.out.trans ((hb1.mono (by simp)).trans (hb2.mono (by omega)))
 have lgr : gg < rb := by omega
 have lgn : gg ≠ rb := by omega
 have lwr : w.heap.size < rb := by omega
 have lwn : w.heap.size ≠ rb := by omega
 have lwg : w.heap.size < gg := by omega
 have H2 := hid (And.intro hr2 (And.intro ho2 (And.intro hl2 hB2)))
 have HRB := hid (And.intro hrb hW2)
 clear hown hb1 hb2 hr2 ho2 hl2 hB2 hcell hgb hz1 hgl HB0 HCU hrb hW2
 go_upto_region 3 with fail
 rw [← HRB.out.2, ← HRB.out.1]
 clear HRB
 go_wp2_with fail
 go_loopw [6] (fun i wr => ∃ j : Nat, i = .int .i64 (j : Nat) ∧ 1 ≤ j ∧ j ≤ 8 ∧ Rg rb W2 wr ∧ wr.heap[rb]? = some (.cells #[.int .i64 ((if 3 < j then 3 else 0 : Nat) : Int), .int .u64 0, .int .u64 0, .int .u64 0, .int .u64 0, .int .u64 0, .int .i64 0, .int .u64 0, .int .u64 0, .slice none 0 0, .slice none 0 0] 65 (0, 0))) (fun i _ => 8 - (intOf i).toNat)
 case atStart => exact ⟨1, rfl, by omega, by omega, Rg.refl _ _, by rw [if_neg (by omega)]; exact H2.out.1⟩
 case round =>
  obtain ⟨j, rfl, hj1, hj8, hrg, hrow⟩ := hrel
  have hzr := hrg.size
  by_cases hj : j < 8
  ·obtain ⟨WJ, hWJ⟩ : ∃ WJ : ByteArray, WJ = ⟨(ay j).toArray⟩ := ⟨_, rfl⟩
   obtain ⟨L0, hL0⟩ : ∃ L0 : ByteArray, L0 = ⟨l0.toArray⟩ := ⟨_, rfl⟩
   have HWJ : Hid (eT[j]? = some (.string WJ)) := hid (by rw [hWJ]; exact cu j hj1 (by omega))
   have cl : wr.cell? ⟨gg, 0, none⟩ = some (.string L0) := by rw [hL0]; exact hrg.cell (H2.out.2.2.1 0 l0 rfl) lgn
   have lg : gg < wr.heap.size := by omega
   have eWJ : WJ.toList = ay j := by rw [hWJ, ByteArray.toList_eq]
   have eL0 : L0.toList = l0 := by rw [hL0, ByteArray.toList_eq]
   have i1 : (j : Int) < 8 := by omega
   have i0 : (0 : Int) ≤ (j : Int) := by omega
   have i2 : (0 : Int) < (N : Int) := by omega
   have c0 : wr.cell? ⟨rb, 0, none⟩ = some (.int .i64 ((if 3 < j then 3 else 0 : Nat) : Int)) := by rw [cell_of_row wr _ 0 _ _ _ hrow]; rfl
   have f0 : wr.frozen? ⟨rb, 0, none⟩ = false := by rw [frozen_of_row wr _ 0 _ _ hrow]
   have lrb : rb < wr.heap.size := (Array.getElem?_eq_some_iff.1 hrow).1
   have HG := hid (And.intro hrg hrow)
   clear hrg hrow hWJ hL0
   by_cases hw : ay j = l0
   ·have hkj : j = 3 := ((bK hj1 (by omega) l0).2 hw).symm.trans HKD.out
    have hq : (WJ.toList == L0.toList) = true := by rw [eWJ, eL0]; simpa using hw
    clear eWJ eL0
    have HKJ := hid hkj
    clear hkj
    go_wp2_with fail
    refine av (w0 := wr) rfl [.of (aZ), .eq (.int .i64 (j : Nat)), .of (aQ WJ), .eq (.string WJ), .eq (.slice (some ⟨gg, 0, none⟩) N gc), .eq (.pointer (some ⟨gg, 0, none⟩)), .eq (.string L0), .eq (.bool true)] (by kernel_rfl) ⟨?_, ?_, ?_, ?_, ?_, ?_, ?_, ?_, ?_, ?_, trivial⟩ (fun vs => [(18, vs 0), (19, (.int .i64 (j : Nat))), (20, vs 2), (21, (.string WJ)), (22, (.slice (some ⟨gg, 0, none⟩) N gc)), (23, (.pointer (some ⟨gg, 0, none⟩))), (24, (.string L0)), (25, (.bool true))]) (fun _ => rfl) ?_
    ·exact aW
    ·refine rs fun S a wx K Q hR hK => ?_
     go_simp
     go_at_call 52
     refine (aP _).mono ?_
     rintro e w' ⟨rfl, rfl⟩
     exact hK _ _ (br.alloc nl _) ⟨_, rfl, by simp, hR.new _ nl, aa _ _ _ rfl⟩
    ·refine rs fun S a wx K Q hR hK => ?_
     have t6 : a.tmps[6]? = some (.int .i64 (j : Nat)) := hR.o 6
     go_simp
     exact hK _ _ br rfl
    ·exact aR _
    ·refine rs fun S a wx K Q hR hK => ?_
     obtain ⟨u18, t18, f18⟩ := hR.f 0
     have t19 := hR.q 1
     obtain ⟨g9, rfl, hg9, hS9, hw9⟩ := (show aZ S u18 wx from f18)
     go_simp
     exact hK _ _ br ⟨g9, j, by simp, hg9, hS9, by rw [cell_of_row wx _ _ _ _ _ hw9]; exact HWJ.out⟩
    ·refine rs fun S a wx K Q hR hK => ?_
     obtain ⟨u20, t20, f20⟩ := hR.f 2
     obtain ⟨g12, o12, rfl, _, _, y12⟩ := (show aQ WJ S u20 wx from f20)
     go_simp
     exact hK _ _ br rfl
    ·refine rs fun S a wx K Q hR hK => ?_
     have t4 : a.tmps[4]? = some (.slice (some ⟨gg, 0, none⟩) N gc) := hR.o 4
     go_simp
     exact hK _ _ br rfl
    ·refine rs fun S a wx K Q hR hK => ?_
     have t22 := hR.q 4
     go_simp
     exact hK _ _ br rfl
    ·refine rs fun S a wx K Q hR hK => ?_
     have t23 := hR.q 5
     have y0 := (hR.bel.cell lg).trans cl
     go_simp
     exact hK _ _ br rfl
    ·refine rs fun S a wx K Q hR hK => ?_
     have t21 := hR.q 3
     have t24 := hR.q 6
     go_simp
     (try go_ints)
     exact hK _ _ br rfl
    intro S1 vs w1 hD
    have hb1 := hD.bel
    have c0' := (hb1.cell lrb).trans c0
    have f0' : w1.frozen? ⟨rb, 0, none⟩ = false := by rw [frozen_of_row w1 _ 0 _ _ ((hb1.block _ lrb).trans HG.out.2)]
    have HB1 := hid hb1
    simp only [aH, List.foldl_cons, List.foldl_nil]
    clear hD cl c0 f0 hb1
    go_simp
    go_wp2_with fail
    go_roundw
    case rel =>
     refine ⟨j + 1, by go_num, by omega, by omega, (HG.out.1.trans (Rg.of_below HB1.out)).setCell _ _, ?_⟩
     rw [if_pos (by rw [HKJ.out]; omega)]
     exact ae ((HB1.out.block _ lrb).trans HG.out.2) (by rw [HKJ.out]; rfl)
    case measure => simp [intOf]; omega
   ·have hkj : 3 ≠ j := fun e => hw ((bK hj1 (by omega) l0).1 (HKD.out.trans e))
    have hq : (WJ.toList == L0.toList) = false := by rw [eWJ, eL0]; simpa using hw
    clear eWJ eL0
    go_wp2_with fail
    refine av (w0 := wr) rfl [.of (aZ), .eq (.int .i64 (j : Nat)), .of (aQ WJ), .eq (.string WJ), .eq (.slice (some ⟨gg, 0, none⟩) N gc), .eq (.pointer (some ⟨gg, 0, none⟩)), .eq (.string L0), .eq (.bool false)] (by kernel_rfl) ⟨?_, ?_, ?_, ?_, ?_, ?_, ?_, ?_, ?_, ?_, trivial⟩ (fun vs => [(18, vs 0), (19, (.int .i64 (j : Nat))), (20, vs 2), (21, (.string WJ)), (22, (.slice (some ⟨gg, 0, none⟩) N gc)), (23, (.pointer (some ⟨gg, 0, none⟩))), (24, (.string L0)), (25, (.bool false))]) (fun _ => rfl) ?_
    ·exact aW
    ·refine rs fun S a wx K Q hR hK => ?_
     go_simp
     go_at_call 52
     refine (aP _).mono ?_
     rintro e w' ⟨rfl, rfl⟩
     exact hK _ _ (br.alloc nl _) ⟨_, rfl, by simp, hR.new _ nl, aa _ _ _ rfl⟩
    ·refine rs fun S a wx K Q hR hK => ?_
     have t6 : a.tmps[6]? = some (.int .i64 (j : Nat)) := hR.o 6
     go_simp
     exact hK _ _ br rfl
    ·exact aR _
    ·refine rs fun S a wx K Q hR hK => ?_
     obtain ⟨u18, t18, f18⟩ := hR.f 0
     have t19 := hR.q 1
     obtain ⟨g9, rfl, hg9, hS9, hw9⟩ := (show aZ S u18 wx from f18)
     go_simp
     exact hK _ _ br ⟨g9, j, by simp, hg9, hS9, by rw [cell_of_row wx _ _ _ _ _ hw9]; exact HWJ.out⟩
    ·refine rs fun S a wx K Q hR hK => ?_
     obtain ⟨u20, t20, f20⟩ := hR.f 2
     obtain ⟨g12, o12, rfl, _, _, y12⟩ := (show aQ WJ S u20 wx from f20)
     go_simp
     exact hK _ _ br rfl
    ·refine rs fun S a wx K Q hR hK => ?_
     have t4 : a.tmps[4]? = some (.slice (some ⟨gg, 0, none⟩) N gc) := hR.o 4
     go_simp
     exact hK _ _ br rfl
    ·refine rs fun S a wx K Q hR hK => ?_
     have t22 := hR.q 4
     go_simp
     exact hK _ _ br rfl
    ·refine rs fun S a wx K Q hR hK => ?_
     have t23 := hR.q 5
     have y0 := (hR.bel.cell lg).trans cl
     go_simp
     exact hK _ _ br rfl
    ·refine rs fun S a wx K Q hR hK => ?_
     have t21 := hR.q 3
     have t24 := hR.q 6
     go_simp
     (try go_ints)
     exact hK _ _ br rfl
    intro S1 vs w1 hD
    have HB1 := hid hD.bel
    simp only [aH, List.foldl_cons, List.foldl_nil]
    clear hD cl
    go_simp
    go_wp2_with fail
    go_roundw
    case rel => exact ⟨j + 1, by go_num, by omega, by omega, HG.out.1.trans (Rg.of_below HB1.out), by
     have h := (HB1.out.block _ lrb).trans HG.out.2
     have e : (if 3 < j + 1 then 3 else 0 : Nat) = (if 3 < j then 3 else 0) := by split <;> split <;> omega
     rw [e]; exact h⟩
    case measure => simp [intOf]; omega
  ·have hj2 : j = 8 := by omega
   subst hj2
   rw [if_pos (by omega)] at hrow
   have c0 : wr.cell? ⟨rb, 0, none⟩ = some (.int .i64 3) := by rw [cell_of_row wr _ 0 _ _ _ hrow]; rfl
   have lrb : rb < wr.heap.size := (Array.getElem?_eq_some_iff.1 hrow).1
   have HG := hid (And.intro hrg hrow)
   clear hrg hrow
   go_upto_region 9 with fail
   obtain ⟨W4, hW4⟩ : ∃ W4, W4 = wr.alloc (.cells #[.int .i64 0, .int .i64 2, .int .i64 4, .int .i64 4, .int .i64 3, .int .i64 3, .int .i64 2, .int .i64 2] 3) := ⟨_, rfl⟩
   have hb4 : Below wr.heap.size wr W4 := by rw [hW4]; exact br.alloc nl _
   have hrg4 : Rg rb W2 W4 := HG.out.1.trans (Rg.of_below hb4)
   have hrow4 : W4.heap[rb]? = some (.cells #[.int .i64 3, .int .u64 0, .int .u64 0, .int .u64 0, .int .u64 0, .int .u64 0, .int .i64 0, .int .u64 0, .int .u64 0, .slice none 0 0, .slice none 0 0] 65 (0, 0)) := (hb4.block _ lrb).trans HG.out.2
   have hz4 : W4.heap[w.heap.size]? = some (.cells #[.int .i64 0, .int .u64 0, .int .u64 0, .int .u64 0, .int .u64 0, .int .u64 0, .int .i64 0, .int .u64 0, .int .u64 0, .slice none 0 0, .slice none 0 0] 65 (0, 0)) := (hrg4.keep _ (by omega) lwn).trans H2.out.2.1
   have hl4 : ∀ (i : Nat) (x : List UInt8), (l0 :: lr)[i]? = some x → W4.cell? ⟨gg, i, none⟩ = some (.string ⟨x.toArray⟩) := fun i x hx => hrg4.cell (H2.out.2.2.1 i x hx) lgn
   have hB4 : Below w.heap.size w W4 := H2.out.2.2.2.trans ((hrg4.below (by omega)).mono (by omega))
   have hzz4 := hrg4.size
   have l4 : rb < W4.heap.size := by omega
   have H4 := hid (And.intro hrow4 (And.intro hz4 (And.intro hl4 (And.intro hB4 hrg4))))
   rw [← hW4]
   have c0 : W4.cell? ⟨rb, 0, none⟩ = some (.int .i64 3) := by rw [cell_of_row W4 _ 0 _ _ _ hrow4]; rfl
   clear hW4 hb4 hrow4 hz4 hl4 hB4 hrg4 hzr HG
   by_cases hlt : N < 4
   ·have t1 : decide ((N : Int) < 4) = true := by simp; omega
    have HLN : Hid (aM s.data.toList = none) := hid (eG HC.out HKD.out (by have := HMM.out.2.2; simp [jE]; omega))
    go_upto_region 10 with fail
    go_wp2_with (refine wpList_store_row rfl 65 (.tmp 2) (.tmp 53) rfl rfl w.heap.size rfl _ rfl 65 _ H4.out.2.1 (by kernel_rfl) rfl (by simp [Value.oneCell']) ?_)
    exact bodyPost_ret (v := .tuple #[.agg #[.int .i64 0, .int .u64 0, .int .u64 0, .int .u64 0, .int .u64 0, .int .u64 0, .int .i64 0, .int .u64 0, .int .u64 0, .slice none 0 0, .slice none 0 0], .int .i64 50]) (ag rfl _ _ w.heap.size 65 _ _ _ _ rfl (setRow_heap _ _ _ _ _ _ H4.out.2.1) Tryz.underlying65 rfl (by kernel_rfl) rfl) rfl (aG HLN.out (below_setRow H4.out.2.2.2.1 _ _ nl))
   have t1 : decide ((N : Int) < 4) = false := by simp; omega
   by_cases hgt : 4 < N
   ·have t2 : decide ((4 : Int) < (N : Int)) = true := by simp; omega
    have HLN : Hid (aM s.data.toList = none) := hid (eG HC.out HKD.out (by have := HMM.out.2.2; simp [jE]; omega))
    go_upto_region 10 with fail
    go_wp2_with (refine wpList_store_row rfl 65 (.tmp 2) (.tmp 53) rfl rfl w.heap.size rfl _ rfl 65 _ H4.out.2.1 (by kernel_rfl) rfl (by simp [Value.oneCell']) ?_)
    exact bodyPost_ret (v := .tuple #[.agg #[.int .i64 0, .int .u64 0, .int .u64 0, .int .u64 0, .int .u64 0, .int .u64 0, .int .i64 0, .int .u64 0, .int .u64 0, .slice none 0 0, .slice none 0 0], .int .i64 50]) (ag rfl _ _ w.heap.size 65 _ _ _ _ rfl (setRow_heap _ _ _ _ _ _ H4.out.2.1) Tryz.underlying65 rfl (by kernel_rfl) rfl) rfl (aG HLN.out (below_setRow H4.out.2.2.2.1 _ _ nl))
   have t2 : decide ((4 : Int) < (N : Int)) = false := by simp; omega
   obtain ⟨l1, l2, l3, hlr⟩ : ∃ l1 l2 l3, lr = [l1, l2, l3] := Ea (by have := HMM.out.2.2; omega)
   have hN4 : N = 4 := by have := HMM.out.2.2; rw [hlr] at this; simpa using this
   subst hN4
   have HLR := hid hlr
   have c21 : W4.cell? ⟨gg, 1, none⟩ = some (.string ⟨l1.toArray⟩) := H4.out.2.2.1 1 l1 (by rw [hlr]; rfl)
   have z1 : (ByteArray.mk l1.toArray).size ≤ 1000000 := by have := HMM.out.1 l1 (by rw [hlr]; simp); rw [← af]; simp; omega
   have c22 : W4.cell? ⟨gg, 2, none⟩ = some (.string ⟨l2.toArray⟩) := H4.out.2.2.1 2 l2 (by rw [hlr]; rfl)
   have z2 : (ByteArray.mk l2.toArray).size ≤ 1000000 := by have := HMM.out.1 l2 (by rw [hlr]; simp); rw [← af]; simp; omega
   have c23 : W4.cell? ⟨gg, 3, none⟩ = some (.string ⟨l3.toArray⟩) := H4.out.2.2.1 3 l3 (by rw [hlr]; rfl)
   have z3 : (ByteArray.mk l3.toArray).size ≤ 1000000 := by have := HMM.out.1 l3 (by rw [hlr]; simp); rw [← af]; simp; omega
   have r1 : W4.cell? ⟨rb, 1, none⟩ = some (.int .u64 0) := by rw [cell_of_row W4 _ 1 _ _ _ H4.out.1]; rfl
   have f1 : W4.frozen? ⟨rb, 1, none⟩ = false := by rw [frozen_of_row W4 _ 1 _ _ H4.out.1]
   have r2 : W4.cell? ⟨rb, 2, none⟩ = some (.int .u64 0) := by rw [cell_of_row W4 _ 2 _ _ _ H4.out.1]; rfl
   have f2 : W4.frozen? ⟨rb, 2, none⟩ = false := by rw [frozen_of_row W4 _ 2 _ _ H4.out.1]
   have r5 : W4.cell? ⟨rb, 5, none⟩ = some (.int .u64 0) := by rw [cell_of_row W4 _ 5 _ _ _ H4.out.1]; rfl
   have f5 : W4.frozen? ⟨rb, 5, none⟩ = false := by rw [frozen_of_row W4 _ 5 _ _ H4.out.1]
   clear hlr
   go_upto_region 33 with (go_at_call 53; refine (dm _ _ (by assumption)).mono ?_; rintro e w' ⟨rfl, hw'⟩; rw [hw']; clear hw' w')
   obtain ⟨W6, hW6⟩ : ∃ W6, W6 = (((W4.setCell ⟨rb, 1, none⟩ (.int .u64 (aj l1 : Nat))).setCell ⟨rb, 2, none⟩ (.int .u64 (aj l2 : Nat))).setCell ⟨rb, 5, none⟩ (.int .u64 (aj l3 : Nat))) := ⟨_, rfl⟩
   have hrow6 : W6.heap[rb]? = some (.cells #[.int .i64 3, .int .u64 (aj l1 : Nat), .int .u64 (aj l2 : Nat), .int .u64 0, .int .u64 0, .int .u64 (aj l3 : Nat), .int .i64 0, .int .u64 0, .int .u64 0, .slice none 0 0, .slice none 0 0] 65 (0, 0)) := by rw [hW6]; exact ae (ae (ae (H4.out.1) rfl) rfl) rfl
   have hrg6 : Rg rb W4 W6 := by rw [hW6]; exact (((Rg.refl _ _).setCell _ _).setCell _ _).setCell _ _
   rw [← hW6]
   have hz6 : W6.heap[w.heap.size]? = some (.cells #[.int .i64 0, .int .u64 0, .int .u64 0, .int .u64 0, .int .u64 0, .int .u64 0, .int .i64 0, .int .u64 0, .int .u64 0, .slice none 0 0, .slice none 0 0] 65 (0, 0)) := (hrg6.keep _ (by omega) lwn).trans H4.out.2.1
   have hB6 : Below w.heap.size w W6 := H4.out.2.2.2.1.trans ((hrg6.below (by omega)).mono (by omega))
   have HRC : Hid (aI W6 (fun b => w.heap.size < b) true ⟨3, (aj l1), (aj l2), 0, 0, (aj l3), .zero, []⟩ (.agg #[.int .i64 3, .int .u64 (aj l1 : Nat), .int .u64 (aj l2 : Nat), .int .u64 0, .int .u64 0, .int .u64 (aj l3 : Nat), .int .i64 0, .int .u64 0, .int .u64 0, .slice none 0 0, .slice none 0 0])) := hid (dw W6 _ 3 (aj l1) (aj l2) 0 0 (aj l3) (by omega) (cK _) (cK _) (by omega) (by omega) (cK _))
   have HCAND : Hid (dS s.data.toList = some ⟨3, (aj l1), (aj l2), 0, 0, (aj l3), .zero, []⟩) := hid (EL HC.out HLR.out HKD.out)
   have hsz : (Rec.p (⟨3, (aj l1), (aj l2), 0, 0, (aj l3), .zero, []⟩ : Rec)).size ≤ 900 := show (Ex.zero).size ≤ 900 by decide
   have hle : (Rec.es (⟨3, (aj l1), (aj l2), 0, 0, (aj l3), .zero, []⟩ : Rec)).length ≤ 10000 := by simp
   have H6 := hid (And.intro hrow6 (And.intro hz6 hB6))
   clear hW6 hrow6 hrg6 hz6 hB6 c0 c21 c22 c23 r1 f1 r2 f2 r5 f5
   go_wp2_with (refine wpList_load_row rfl 65 (.tmp 5) rfl rb rfl 65 _ (0, 0) _ H6.out.1 Tryz.underlying65 rfl (by kernel_rfl) ?_)
   refine (fQ _ true (⟨3, (aj l1), (aj l2), 0, 0, (aj l3), .zero, []⟩) _ W6 hsz hle HRC.out).mono ?_
   rintro e w7 ⟨rfl, hb7⟩
   obtain ⟨TB, hTB⟩ : ∃ TB : ByteArray, TB = ⟨(Rec.text (⟨3, (aj l1), (aj l2), 0, 0, (aj l3), .zero, []⟩)).toArray⟩ := ⟨_, rfl⟩
   have eTB : TB.toList = Rec.text (⟨3, (aj l1), (aj l2), 0, 0, (aj l3), .zero, []⟩) := by rw [hTB, ByteArray.toList_eq]
   rw [← hTB]
   have l6 : rb < W6.heap.size := (Array.getElem?_eq_some_iff.1 H6.out.1).1
   have hrow7 := (hb7.block _ l6).trans H6.out.1
   have hz7 := (hb7.block _ (by omega)).trans H6.out.2.1
   have hB7 : Below w.heap.size w w7 := H6.out.2.2.trans (hb7.mono (by omega))
   have hrc7 := HRC.out.below hb7 nl
   have H7 := hid (And.intro hrow7 (And.intro hz7 (And.intro hB7 hrc7)))
   clear hTB hb7 hrow7 hz7 hB7 hrc7
   by_cases hq : Rec.text (⟨3, (aj l1), (aj l2), 0, 0, (aj l3), .zero, []⟩) = s.data.toList
   ·have hne : (TB.toList == s.toList) = true := by rw [eTB, hq, ByteArray.toList_eq]; simp
    have HLN : Hid (aM s.data.toList = some (⟨3, (aj l1), (aj l2), 0, 0, (aj l3), .zero, []⟩)) := hid (by rw [← dU, HCAND.out]; simp [hq])
    clear hq eTB
    go_wp2_with (first
     | (refine wpList_load_row rfl 65 (.tmp 5) rfl rb rfl 65 _ (0, 0) _ H7.out.1 Tryz.underlying65 rfl (by kernel_rfl) ?_)
     | (refine wpList_store_row rfl 65 (.tmp 2) (.tmp 144) rfl rfl w.heap.size rfl _ rfl 65 _ H7.out.2.1 (by kernel_rfl) rfl (by simp [Value.oneCell']) ?_))
    exact bodyPost_ret (v := .tuple #[.agg #[.int .i64 3, .int .u64 (aj l1 : Nat), .int .u64 (aj l2 : Nat), .int .u64 0, .int .u64 0, .int .u64 (aj l3 : Nat), .int .i64 0, .int .u64 0, .int .u64 0, .slice none 0 0, .slice none 0 0], .int .i64 0]) (ag rfl _ _ w.heap.size 65 _ _ _ _ rfl (setRow_heap _ _ _ _ _ _ H7.out.2.1) Tryz.underlying65 rfl (by kernel_rfl) rfl) rfl (dP _ HLN.out (aI.keep H7.out.2.2.2 (fun b hb _ => setRow_other _ _ _ _ (by omega)) (fun b _ hb => by omega)) (below_setRow H7.out.2.2.1 _ _ nl))
   ·have hne : (TB.toList == s.toList) = false := by rw [eTB, ByteArray.toList_eq]; simpa using hq
    have HLN : Hid (aM s.data.toList = none) := hid (by rw [← dU, HCAND.out]; simp [hq])
    clear hq eTB
    go_upto_region 34 with fail
    go_wp2_with (refine wpList_store_row rfl 65 (.tmp 2) (.tmp 143) rfl rfl w.heap.size rfl _ rfl 65 _ H7.out.2.1 (by kernel_rfl) rfl (by simp [Value.oneCell']) ?_)
    exact bodyPost_ret (v := .tuple #[.agg #[.int .i64 0, .int .u64 0, .int .u64 0, .int .u64 0, .int .u64 0, .int .u64 0, .int .i64 0, .int .u64 0, .int .u64 0, .slice none 0 0, .slice none 0 0], .int .i64 50]) (ag rfl _ _ w.heap.size 65 _ _ _ _ rfl (setRow_heap _ _ _ _ _ _ H7.out.2.1) Tryz.underlying65 rfl (by kernel_rfl) rfl) rfl (aG HLN.out (below_setRow H7.out.2.2.1 _ _ nl))
theorem yR (s : ByteArray) (w : World) (hs : s.size ≤ 800) (l0 : List UInt8) (lr : List (List UInt8)) (HC : Hid (cuts 32 s.data.toList = l0 :: lr)) (HKD : Hid (kindOf l0 = 4)) :
  Calls Tryz.prog 29 #[.string s] w (eZ (aM s.data.toList) w) := by
 have hb0 : Below w.heap.size w (w.alloc (.cells #[.int .i64 0, .int .u64 0, .int .u64 0, .int .u64 0, .int .u64 0, .int .u64 0, .int .i64 0, .int .u64 0, .int .u64 0, .slice none 0 0, .slice none 0 0] 65)) := br.alloc nl _
 have hMem := aV 32 s.data.toList
 have hLen := bJ 32 s.data.toList
 rw [HC.out] at hMem hLen
 rw [af] at hMem hLen
 have HCU := hid (dn 32 s (w.alloc (.cells #[.int .i64 0, .int .u64 0, .int .u64 0, .int .u64 0, .int .u64 0, .int .u64 0, .int .i64 0, .int .u64 0, .int .u64 0, .slice none 0 0, .slice none 0 0] 65)) (by omega))
 obtain ⟨N, hN⟩ : ∃ N, N = lr.length + 1 := ⟨_, rfl⟩
 have HMM := hid (And.intro hMem (And.intro hLen hN))
 have HB0 := hid hb0
 have hN0 : 0 < N := by omega
 have hN1 : N ≤ 1000 := by rw [List.length_cons] at hLen; omega
 clear hb0 hMem hLen hN
 go_enter Tryz.func29, Tryz.ntmps29
 go_wp2_with fail
 refine HCU.out.mono ?_
 rintro e W1 ⟨v, rfl, hown, hb1⟩
 rw [HC.out] at hown
 obtain ⟨gg, gc, rfl, hgb, hgl, hcell⟩ := dI hown (by simp)
 rw [List.length_cons, ← HMM.out.2.2]
 simp only [World.size_alloc] at hgb
 have hz1 := hb1.size
 simp only [World.size_alloc] at hz1
 obtain ⟨rb, hrb⟩ : ∃ rb, rb = W1.heap.size := ⟨_, rfl⟩
 obtain ⟨W2, hW2⟩ : ∃ W2, W2 = W1.alloc (.cells #[.int .i64 0, .int .u64 0, .int .u64 0, .int .u64 0, .int .u64 0, .int .u64 0, .int .i64 0, .int .u64 0, .int .u64 0, .slice none 0 0, .slice none 0 0] 65) := ⟨_, rfl⟩
 have hb2 : Below W1.heap.size W1 W2 := by rw [hW2]; exact br.alloc nl _
 have hr2 : W2.heap[rb]? = some (.cells #[.int .i64 0, .int .u64 0, .int .u64 0, .int .u64 0, .int .u64 0, .int .u64 0, .int .i64 0, .int .u64 0, .int .u64 0, .slice none 0 0, .slice none 0 0] 65 (0, 0)) := by rw [hW2, hrb]; exact aa _ _ _ rfl
 have hz2 : W2.heap.size = rb + 1 := by rw [hW2, hrb]; simp
 have ho2 : W2.heap[w.heap.size]? = some (.cells #[.int .i64 0, .int .u64 0, .int .u64 0, .int .u64 0, .int .u64 0, .int .u64 0, .int .i64 0, .int .u64 0, .int .u64 0, .slice none 0 0, .slice none 0 0] 65 (0, 0)) := (hb2.block _ (by omega)).trans ((hb1.block _ (by simp)).trans (aa _ _ _ rfl))
 have hl2 : ∀ (i : Nat) (x : List UInt8), (l0 :: lr)[i]? = some x → W2.cell? ⟨gg, i, none⟩ = some (.string ⟨x.toArray⟩) := fun i x hx => (hb2.cell hgl).trans (hcell i _ (by simp only [strs, List.getElem?_map, hx]; rfl))
 have hB2 : Below w.heap.size w W2 := HB0.out.trans ((hb1.mono (by simp)).trans (hb2.mono (by omega)))
 have lgr : gg < rb := by omega
 have lgn : gg ≠ rb := by omega
 have lwr : w.heap.size < rb := by omega
 have lwn : w.heap.size ≠ rb := by omega
 have lwg : w.heap.size < gg := by omega
 have H2 := hid (And.intro hr2 (And.intro ho2 (And.intro hl2 hB2)))
 have HRB := hid (And.intro hrb hW2)
 clear hown hb1 hb2 hr2 ho2 hl2 hB2 hcell hgb hz1 hgl HB0 HCU hrb hW2
 go_upto_region 3 with fail
 rw [← HRB.out.2, ← HRB.out.1]
 clear HRB
 go_wp2_with fail
 go_loopw [6] (fun i wr => ∃ j : Nat, i = .int .i64 (j : Nat) ∧ 1 ≤ j ∧ j ≤ 8 ∧ Rg rb W2 wr ∧ wr.heap[rb]? = some (.cells #[.int .i64 ((if 4 < j then 4 else 0 : Nat) : Int), .int .u64 0, .int .u64 0, .int .u64 0, .int .u64 0, .int .u64 0, .int .i64 0, .int .u64 0, .int .u64 0, .slice none 0 0, .slice none 0 0] 65 (0, 0))) (fun i _ => 8 - (intOf i).toNat)
 case atStart => exact ⟨1, rfl, by omega, by omega, Rg.refl _ _, by rw [if_neg (by omega)]; exact H2.out.1⟩
 case round =>
  obtain ⟨j, rfl, hj1, hj8, hrg, hrow⟩ := hrel
  have hzr := hrg.size
  by_cases hj : j < 8
  ·obtain ⟨WJ, hWJ⟩ : ∃ WJ : ByteArray, WJ = ⟨(ay j).toArray⟩ := ⟨_, rfl⟩
   obtain ⟨L0, hL0⟩ : ∃ L0 : ByteArray, L0 = ⟨l0.toArray⟩ := ⟨_, rfl⟩
   have HWJ : Hid (eT[j]? = some (.string WJ)) := hid (by rw [hWJ]; exact cu j hj1 (by omega))
   have cl : wr.cell? ⟨gg, 0, none⟩ = some (.string L0) := by rw [hL0]; exact hrg.cell (H2.out.2.2.1 0 l0 rfl) lgn
   have lg : gg < wr.heap.size := by omega
   have eWJ : WJ.toList = ay j := by rw [hWJ, ByteArray.toList_eq]
   have eL0 : L0.toList = l0 := by rw [hL0, ByteArray.toList_eq]
   have i1 : (j : Int) < 8 := by omega
   have i0 : (0 : Int) ≤ (j : Int) := by omega
   have i2 : (0 : Int) < (N : Int) := by omega
   have c0 : wr.cell? ⟨rb, 0, none⟩ = some (.int .i64 ((if 4 < j then 4 else 0 : Nat) : Int)) := by rw [cell_of_row wr _ 0 _ _ _ hrow]; rfl
   have f0 : wr.frozen? ⟨rb, 0, none⟩ = false := by rw [frozen_of_row wr _ 0 _ _ hrow]
   have lrb : rb < wr.heap.size := (Array.getElem?_eq_some_iff.1 hrow).1
   have HG := hid (And.intro hrg hrow)
   clear hrg hrow hWJ hL0
   by_cases hw : ay j = l0
   ·have hkj : j = 4 := ((bK hj1 (by omega) l0).2 hw).symm.trans HKD.out
    have hq : (WJ.toList == L0.toList) = true := by rw [eWJ, eL0]; simpa using hw
    clear eWJ eL0
    have HKJ := hid hkj
    clear hkj
    go_wp2_with fail
    refine av (w0 := wr) rfl [.of (aZ), .eq (.int .i64 (j : Nat)), .of (aQ WJ), .eq (.string WJ), .eq (.slice (some ⟨gg, 0, none⟩) N gc), .eq (.pointer (some ⟨gg, 0, none⟩)), .eq (.string L0), .eq (.bool true)] (by kernel_rfl) ⟨?_, ?_, ?_, ?_, ?_, ?_, ?_, ?_, ?_, ?_, trivial⟩ (fun vs => [(18, vs 0), (19, (.int .i64 (j : Nat))), (20, vs 2), (21, (.string WJ)), (22, (.slice (some ⟨gg, 0, none⟩) N gc)), (23, (.pointer (some ⟨gg, 0, none⟩))), (24, (.string L0)), (25, (.bool true))]) (fun _ => rfl) ?_
    ·exact aW
    ·refine rs fun S a wx K Q hR hK => ?_
     go_simp
     go_at_call 52
     refine (aP _).mono ?_
     rintro e w' ⟨rfl, rfl⟩
     exact hK _ _ (br.alloc nl _) ⟨_, rfl, by simp, hR.new _ nl, aa _ _ _ rfl⟩
    ·refine rs fun S a wx K Q hR hK => ?_
     have t6 : a.tmps[6]? = some (.int .i64 (j : Nat)) := hR.o 6
     go_simp
     exact hK _ _ br rfl
    ·exact aR _
    ·refine rs fun S a wx K Q hR hK => ?_
     obtain ⟨u18, t18, f18⟩ := hR.f 0
     have t19 := hR.q 1
     obtain ⟨g9, rfl, hg9, hS9, hw9⟩ := (show aZ S u18 wx from f18)
     go_simp
     exact hK _ _ br ⟨g9, j, by simp, hg9, hS9, by rw [cell_of_row wx _ _ _ _ _ hw9]; exact HWJ.out⟩
    ·refine rs fun S a wx K Q hR hK => ?_
     obtain ⟨u20, t20, f20⟩ := hR.f 2
     obtain ⟨g12, o12, rfl, _, _, y12⟩ := (show aQ WJ S u20 wx from f20)
     go_simp
     exact hK _ _ br rfl
    ·refine rs fun S a wx K Q hR hK => ?_
     have t4 : a.tmps[4]? = some (.slice (some ⟨gg, 0, none⟩) N gc) := hR.o 4
     go_simp
     exact hK _ _ br rfl
    ·refine rs fun S a wx K Q hR hK => ?_
     have t22 := hR.q 4
     go_simp
     exact hK _ _ br rfl
    ·refine rs fun S a wx K Q hR hK => ?_
     have t23 := hR.q 5
     have y0 := (hR.bel.cell lg).trans cl
     go_simp
     exact hK _ _ br rfl
    ·refine rs fun S a wx K Q hR hK => ?_
     have t21 := hR.q 3
     have t24 := hR.q 6
     go_simp
     (try go_ints)
     exact hK _ _ br rfl
    intro S1 vs w1 hD
    have hb1 := hD.bel
    have c0' := (hb1.cell lrb).trans c0
    have f0' : w1.frozen? ⟨rb, 0, none⟩ = false := by rw [frozen_of_row w1 _ 0 _ _ ((hb1.block _ lrb).trans HG.out.2)]
    have HB1 := hid hb1
    simp only [aH, List.foldl_cons, List.foldl_nil]
    clear hD cl c0 f0 hb1
    go_simp
    go_wp2_with fail
    go_roundw
    case rel =>
     refine ⟨j + 1, by go_num, by omega, by omega, (HG.out.1.trans (Rg.of_below HB1.out)).setCell _ _, ?_⟩
     rw [if_pos (by rw [HKJ.out]; omega)]
     exact ae ((HB1.out.block _ lrb).trans HG.out.2) (by rw [HKJ.out]; rfl)
    case measure => simp [intOf]; omega
   ·have hkj : 4 ≠ j := fun e => hw ((bK hj1 (by omega) l0).1 (HKD.out.trans e))
    have hq : (WJ.toList == L0.toList) = false := by rw [eWJ, eL0]; simpa using hw
    clear eWJ eL0
    go_wp2_with fail
    refine av (w0 := wr) rfl [.of (aZ), .eq (.int .i64 (j : Nat)), .of (aQ WJ), .eq (.string WJ), .eq (.slice (some ⟨gg, 0, none⟩) N gc), .eq (.pointer (some ⟨gg, 0, none⟩)), .eq (.string L0), .eq (.bool false)] (by kernel_rfl) ⟨?_, ?_, ?_, ?_, ?_, ?_, ?_, ?_, ?_, ?_, trivial⟩ (fun vs => [(18, vs 0), (19, (.int .i64 (j : Nat))), (20, vs 2), (21, (.string WJ)), (22, (.slice (some ⟨gg, 0, none⟩) N gc)), (23, (.pointer (some ⟨gg, 0, none⟩))), (24, (.string L0)), (25, (.bool false))]) (fun _ => rfl) ?_
    ·exact aW
    ·refine rs fun S a wx K Q hR hK => ?_
     go_simp
     go_at_call 52
     refine (aP _).mono ?_
     rintro e w' ⟨rfl, rfl⟩
     exact hK _ _ (br.alloc nl _) ⟨_, rfl, by simp, hR.new _ nl, aa _ _ _ rfl⟩
    ·refine rs fun S a wx K Q hR hK => ?_
     have t6 : a.tmps[6]? = some (.int .i64 (j : Nat)) := hR.o 6
     go_simp
     exact hK _ _ br rfl
    ·exact aR _
    ·refine rs fun S a wx K Q hR hK => ?_
     obtain ⟨u18, t18, f18⟩ := hR.f 0
     have t19 := hR.q 1
     obtain ⟨g9, rfl, hg9, hS9, hw9⟩ := (show aZ S u18 wx from f18)
     go_simp
     exact hK _ _ br ⟨g9, j, by simp, hg9, hS9, by rw [cell_of_row wx _ _ _ _ _ hw9]; exact HWJ.out⟩
    ·refine rs fun S a wx K Q hR hK => ?_
     obtain ⟨u20, t20, f20⟩ := hR.f 2
     obtain ⟨g12, o12, rfl, _, _, y12⟩ := (show aQ WJ S u20 wx from f20)
     go_simp
     exact hK _ _ br rfl
    ·refine rs fun S a wx K Q hR hK => ?_
     have t4 : a.tmps[4]? = some (.slice (some ⟨gg, 0, none⟩) N gc) := hR.o 4
     go_simp
     exact hK _ _ br rfl
    ·refine rs fun S a wx K Q hR hK => ?_
     have t22 := hR.q 4
     go_simp
     exact hK _ _ br rfl
    ·refine rs fun S a wx K Q hR hK => ?_
     have t23 := hR.q 5
     have y0 := (hR.bel.cell lg).trans cl
     go_simp
     exact hK _ _ br rfl
    ·refine rs fun S a wx K Q hR hK => ?_
     have t21 := hR.q 3
     have t24 := hR.q 6
     go_simp
     (try go_ints)
     exact hK _ _ br rfl
    intro S1 vs w1 hD
    have HB1 := hid hD.bel
    simp only [aH, List.foldl_cons, List.foldl_nil]
    clear hD cl
    go_simp
    go_wp2_with fail
    go_roundw
    case rel => exact ⟨j + 1, by go_num, by omega, by omega, HG.out.1.trans (Rg.of_below HB1.out), by
     have h := (HB1.out.block _ lrb).trans HG.out.2
     have e : (if 4 < j + 1 then 4 else 0 : Nat) = (if 4 < j then 4 else 0) := by split <;> split <;> omega
     rw [e]; exact h⟩
    case measure => simp [intOf]; omega
  ·have hj2 : j = 8 := by omega
   subst hj2
   rw [if_pos (by omega)] at hrow
   have c0 : wr.cell? ⟨rb, 0, none⟩ = some (.int .i64 4) := by rw [cell_of_row wr _ 0 _ _ _ hrow]; rfl
   have lrb : rb < wr.heap.size := (Array.getElem?_eq_some_iff.1 hrow).1
   have HG := hid (And.intro hrg hrow)
   clear hrg hrow
   go_upto_region 9 with fail
   obtain ⟨W4, hW4⟩ : ∃ W4, W4 = wr.alloc (.cells #[.int .i64 0, .int .i64 2, .int .i64 4, .int .i64 4, .int .i64 3, .int .i64 3, .int .i64 2, .int .i64 2] 3) := ⟨_, rfl⟩
   have hb4 : Below wr.heap.size wr W4 := by rw [hW4]; exact br.alloc nl _
   have hrg4 : Rg rb W2 W4 := HG.out.1.trans (Rg.of_below hb4)
   have hrow4 : W4.heap[rb]? = some (.cells #[.int .i64 4, .int .u64 0, .int .u64 0, .int .u64 0, .int .u64 0, .int .u64 0, .int .i64 0, .int .u64 0, .int .u64 0, .slice none 0 0, .slice none 0 0] 65 (0, 0)) := (hb4.block _ lrb).trans HG.out.2
   have hz4 : W4.heap[w.heap.size]? = some (.cells #[.int .i64 0, .int .u64 0, .int .u64 0, .int .u64 0, .int .u64 0, .int .u64 0, .int .i64 0, .int .u64 0, .int .u64 0, .slice none 0 0, .slice none 0 0] 65 (0, 0)) := (hrg4.keep _ (by omega) lwn).trans H2.out.2.1
   have hl4 : ∀ (i : Nat) (x : List UInt8), (l0 :: lr)[i]? = some x → W4.cell? ⟨gg, i, none⟩ = some (.string ⟨x.toArray⟩) := fun i x hx => hrg4.cell (H2.out.2.2.1 i x hx) lgn
   have hB4 : Below w.heap.size w W4 := H2.out.2.2.2.trans ((hrg4.below (by omega)).mono (by omega))
   have hzz4 := hrg4.size
   have l4 : rb < W4.heap.size := by omega
   have H4 := hid (And.intro hrow4 (And.intro hz4 (And.intro hl4 (And.intro hB4 hrg4))))
   rw [← hW4]
   have c0 : W4.cell? ⟨rb, 0, none⟩ = some (.int .i64 4) := by rw [cell_of_row W4 _ 0 _ _ _ hrow4]; rfl
   clear hW4 hb4 hrow4 hz4 hl4 hB4 hrg4 hzr HG
   by_cases hlt : N < 3
   ·have t1 : decide ((N : Int) < 3) = true := by simp; omega
    have HLN : Hid (aM s.data.toList = none) := hid (eG HC.out HKD.out (by have := HMM.out.2.2; simp [jE]; omega))
    go_upto_region 10 with fail
    go_wp2_with (refine wpList_store_row rfl 65 (.tmp 2) (.tmp 53) rfl rfl w.heap.size rfl _ rfl 65 _ H4.out.2.1 (by kernel_rfl) rfl (by simp [Value.oneCell']) ?_)
    exact bodyPost_ret (v := .tuple #[.agg #[.int .i64 0, .int .u64 0, .int .u64 0, .int .u64 0, .int .u64 0, .int .u64 0, .int .i64 0, .int .u64 0, .int .u64 0, .slice none 0 0, .slice none 0 0], .int .i64 50]) (ag rfl _ _ w.heap.size 65 _ _ _ _ rfl (setRow_heap _ _ _ _ _ _ H4.out.2.1) Tryz.underlying65 rfl (by kernel_rfl) rfl) rfl (aG HLN.out (below_setRow H4.out.2.2.2.1 _ _ nl))
   have t1 : decide ((N : Int) < 3) = false := by simp; omega
   by_cases hgt : 3 < N
   ·have t2 : decide ((3 : Int) < (N : Int)) = true := by simp; omega
    have HLN : Hid (aM s.data.toList = none) := hid (eG HC.out HKD.out (by have := HMM.out.2.2; simp [jE]; omega))
    go_upto_region 10 with fail
    go_wp2_with (refine wpList_store_row rfl 65 (.tmp 2) (.tmp 53) rfl rfl w.heap.size rfl _ rfl 65 _ H4.out.2.1 (by kernel_rfl) rfl (by simp [Value.oneCell']) ?_)
    exact bodyPost_ret (v := .tuple #[.agg #[.int .i64 0, .int .u64 0, .int .u64 0, .int .u64 0, .int .u64 0, .int .u64 0, .int .i64 0, .int .u64 0, .int .u64 0, .slice none 0 0, .slice none 0 0], .int .i64 50]) (ag rfl _ _ w.heap.size 65 _ _ _ _ rfl (setRow_heap _ _ _ _ _ _ H4.out.2.1) Tryz.underlying65 rfl (by kernel_rfl) rfl) rfl (aG HLN.out (below_setRow H4.out.2.2.2.1 _ _ nl))
   have t2 : decide ((3 : Int) < (N : Int)) = false := by simp; omega
   obtain ⟨l1, l2, hlr⟩ : ∃ l1 l2, lr = [l1, l2] := Fh (by have := HMM.out.2.2; omega)
   have hN4 : N = 3 := by have := HMM.out.2.2; rw [hlr] at this; simpa using this
   subst hN4
   have HLR := hid hlr
   have c21 : W4.cell? ⟨gg, 1, none⟩ = some (.string ⟨l1.toArray⟩) := H4.out.2.2.1 1 l1 (by rw [hlr]; rfl)
   have z1 : (ByteArray.mk l1.toArray).size ≤ 1000000 := by have := HMM.out.1 l1 (by rw [hlr]; simp); rw [← af]; simp; omega
   have c22 : W4.cell? ⟨gg, 2, none⟩ = some (.string ⟨l2.toArray⟩) := H4.out.2.2.1 2 l2 (by rw [hlr]; rfl)
   have z2 : (ByteArray.mk l2.toArray).size ≤ 1000000 := by have := HMM.out.1 l2 (by rw [hlr]; simp); rw [← af]; simp; omega
   have r1 : W4.cell? ⟨rb, 1, none⟩ = some (.int .u64 0) := by rw [cell_of_row W4 _ 1 _ _ _ H4.out.1]; rfl
   have f1 : W4.frozen? ⟨rb, 1, none⟩ = false := by rw [frozen_of_row W4 _ 1 _ _ H4.out.1]
   have r2 : W4.cell? ⟨rb, 2, none⟩ = some (.int .u64 0) := by rw [cell_of_row W4 _ 2 _ _ _ H4.out.1]; rfl
   have f2 : W4.frozen? ⟨rb, 2, none⟩ = false := by rw [frozen_of_row W4 _ 2 _ _ H4.out.1]
   clear hlr
   go_upto_region 33 with (go_at_call 53; refine (dm _ _ (by assumption)).mono ?_; rintro e w' ⟨rfl, hw'⟩; rw [hw']; clear hw' w')
   obtain ⟨W6, hW6⟩ : ∃ W6, W6 = ((W4.setCell ⟨rb, 1, none⟩ (.int .u64 (aj l1 : Nat))).setCell ⟨rb, 2, none⟩ (.int .u64 (aj l2 : Nat))) := ⟨_, rfl⟩
   have hrow6 : W6.heap[rb]? = some (.cells #[.int .i64 4, .int .u64 (aj l1 : Nat), .int .u64 (aj l2 : Nat), .int .u64 0, .int .u64 0, .int .u64 0, .int .i64 0, .int .u64 0, .int .u64 0, .slice none 0 0, .slice none 0 0] 65 (0, 0)) := by rw [hW6]; exact ae (ae (H4.out.1) rfl) rfl
   have hrg6 : Rg rb W4 W6 := by rw [hW6]; exact ((Rg.refl _ _).setCell _ _).setCell _ _
   rw [← hW6]
   have hz6 : W6.heap[w.heap.size]? = some (.cells #[.int .i64 0, .int .u64 0, .int .u64 0, .int .u64 0, .int .u64 0, .int .u64 0, .int .i64 0, .int .u64 0, .int .u64 0, .slice none 0 0, .slice none 0 0] 65 (0, 0)) := (hrg6.keep _ (by omega) lwn).trans H4.out.2.1
   have hB6 : Below w.heap.size w W6 := H4.out.2.2.2.1.trans ((hrg6.below (by omega)).mono (by omega))
   have HRC : Hid (aI W6 (fun b => w.heap.size < b) true ⟨4, (aj l1), (aj l2), 0, 0, 0, .zero, []⟩ (.agg #[.int .i64 4, .int .u64 (aj l1 : Nat), .int .u64 (aj l2 : Nat), .int .u64 0, .int .u64 0, .int .u64 0, .int .i64 0, .int .u64 0, .int .u64 0, .slice none 0 0, .slice none 0 0])) := hid (dw W6 _ 4 (aj l1) (aj l2) 0 0 0 (by omega) (cK _) (cK _) (by omega) (by omega) (by omega))
   have HCAND : Hid (dS s.data.toList = some ⟨4, (aj l1), (aj l2), 0, 0, 0, .zero, []⟩) := hid (EM HC.out HLR.out HKD.out)
   have hsz : (Rec.p (⟨4, (aj l1), (aj l2), 0, 0, 0, .zero, []⟩ : Rec)).size ≤ 900 := show (Ex.zero).size ≤ 900 by decide
   have hle : (Rec.es (⟨4, (aj l1), (aj l2), 0, 0, 0, .zero, []⟩ : Rec)).length ≤ 10000 := by simp
   have H6 := hid (And.intro hrow6 (And.intro hz6 hB6))
   clear hW6 hrow6 hrg6 hz6 hB6 c0 c21 c22 r1 f1 r2 f2
   go_wp2_with (refine wpList_load_row rfl 65 (.tmp 5) rfl rb rfl 65 _ (0, 0) _ H6.out.1 Tryz.underlying65 rfl (by kernel_rfl) ?_)
   refine (fQ _ true (⟨4, (aj l1), (aj l2), 0, 0, 0, .zero, []⟩) _ W6 hsz hle HRC.out).mono ?_
   rintro e w7 ⟨rfl, hb7⟩
   obtain ⟨TB, hTB⟩ : ∃ TB : ByteArray, TB = ⟨(Rec.text (⟨4, (aj l1), (aj l2), 0, 0, 0, .zero, []⟩)).toArray⟩ := ⟨_, rfl⟩
   have eTB : TB.toList = Rec.text (⟨4, (aj l1), (aj l2), 0, 0, 0, .zero, []⟩) := by rw [hTB, ByteArray.toList_eq]
   rw [← hTB]
   have l6 : rb < W6.heap.size := (Array.getElem?_eq_some_iff.1 H6.out.1).1
   have hrow7 := (hb7.block _ l6).trans H6.out.1
   have hz7 := (hb7.block _ (by omega)).trans H6.out.2.1
   have hB7 : Below w.heap.size w w7 := H6.out.2.2.trans (hb7.mono (by omega))
   have hrc7 := HRC.out.below hb7 nl
   have H7 := hid (And.intro hrow7 (And.intro hz7 (And.intro hB7 hrc7)))
   clear hTB hb7 hrow7 hz7 hB7 hrc7
   by_cases hq : Rec.text (⟨4, (aj l1), (aj l2), 0, 0, 0, .zero, []⟩) = s.data.toList
   ·have hne : (TB.toList == s.toList) = true := by rw [eTB, hq, ByteArray.toList_eq]; simp
    have HLN : Hid (aM s.data.toList = some (⟨4, (aj l1), (aj l2), 0, 0, 0, .zero, []⟩)) := hid (by rw [← dU, HCAND.out]; simp [hq])
    clear hq eTB
    go_wp2_with (first
     | (refine wpList_load_row rfl 65 (.tmp 5) rfl rb rfl 65 _ (0, 0) _ H7.out.1 Tryz.underlying65 rfl (by kernel_rfl) ?_)
     | (refine wpList_store_row rfl 65 (.tmp 2) (.tmp 144) rfl rfl w.heap.size rfl _ rfl 65 _ H7.out.2.1 (by kernel_rfl) rfl (by simp [Value.oneCell']) ?_))
    exact bodyPost_ret (v := .tuple #[.agg #[.int .i64 4, .int .u64 (aj l1 : Nat), .int .u64 (aj l2 : Nat), .int .u64 0, .int .u64 0, .int .u64 0, .int .i64 0, .int .u64 0, .int .u64 0, .slice none 0 0, .slice none 0 0], .int .i64 0]) (ag rfl _ _ w.heap.size 65 _ _ _ _ rfl (setRow_heap _ _ _ _ _ _ H7.out.2.1) Tryz.underlying65 rfl (by kernel_rfl) rfl) rfl (dP _ HLN.out (aI.keep H7.out.2.2.2 (fun b hb _ => setRow_other _ _ _ _ (by omega)) (fun b _ hb => by omega)) (below_setRow H7.out.2.2.1 _ _ nl))
   ·have hne : (TB.toList == s.toList) = false := by rw [eTB, ByteArray.toList_eq]; simpa using hq
    have HLN : Hid (aM s.data.toList = none) := hid (by rw [← dU, HCAND.out]; simp [hq])
    clear hq eTB
    go_upto_region 34 with fail
    go_wp2_with (refine wpList_store_row rfl 65 (.tmp 2) (.tmp 143) rfl rfl w.heap.size rfl _ rfl 65 _ H7.out.2.1 (by kernel_rfl) rfl (by simp [Value.oneCell']) ?_)
    exact bodyPost_ret (v := .tuple #[.agg #[.int .i64 0, .int .u64 0, .int .u64 0, .int .u64 0, .int .u64 0, .int .u64 0, .int .i64 0, .int .u64 0, .int .u64 0, .slice none 0 0, .slice none 0 0], .int .i64 50]) (ag rfl _ _ w.heap.size 65 _ _ _ _ rfl (setRow_heap _ _ _ _ _ _ H7.out.2.1) Tryz.underlying65 rfl (by kernel_rfl) rfl) rfl (aG HLN.out (below_setRow H7.out.2.2.1 _ _ nl))
end Go.Proofs.YtlpgokcapdjgjaaGreatDoor
