/- Walks. -/
import Derived.Test.YtagnalfkmdjajaaGreatDoorY31
import Derived.Test.YtagnalfkmdjajaaGreatDoorYD10
import Derived.ChangeAlike
set_option maxHeartbeats 20000000
set_option maxRecDepth 100000
namespace Go.Proofs.YtagnalfkmdjajaaGreatDoor
open Go.RowKit Go
set_option linter.unusedVariables false
set_option linter.unusedSimpArgs false
section
variable {s x r : List UInt8} {b : Bool} (e : Lib.cut s [32] = (x, r, b))
include e
theorem vL (h1 : dm x = 1) (h2 : b = true) : candP s = ⟨1, (cuts 32 r).map aF, 0, 0, []⟩ := by unfold candP; rw [e]; simp only [h1, h2, and_self, if_true]
theorem xR (h1 : dm x = 4) (h2 : b = true) : candP s = ⟨4, [], 0, 0, (Lib.split r dQ).map edGet⟩ := by
 unfold candP; rw [e]; simp only [h1, h2, and_true]; rw [if_neg (by decide), if_pos (by decide)]
theorem nV {c d : List UInt8} (h1 : ¬ (dm x = 1 ∧ b = true)) (h2 : ¬ (dm x = 4 ∧ b = true)) (h3 : cuts 32 r = [c, d]) : candP s = ⟨dm x, [], aF c, aF d, []⟩ := by
 unfold candP; rw [e]; simp only [h3]; rw [if_neg h1, if_neg h2]
theorem rZ (h1 : ¬ (dm x = 1 ∧ b = true)) (h2 : ¬ (dm x = 4 ∧ b = true)) (h3 : (cuts 32 r).length ≠ 2) : candP s = ⟨dm x, [], 0, 0, []⟩ := by
 unfold candP; rw [e]; simp only; rw [if_neg h1, if_neg h2]
 match cuts 32 r, h3 with
 | [], _ => rfl
 | [_], _ => rfl
 | [_, _], h => exact absurd rfl h
 | _ :: _ :: _ :: _, _ => rfl
end
theorem zL (w : World) : Calls Tryz.prog 32 #[] w fun e w' => e = .returned (.agg #[.string ⟨#[]⟩, .string ⟨(ah 1).toArray⟩, .string ⟨(ah 2).toArray⟩, .string ⟨(ah 3).toArray⟩, .string ⟨(ah 4).toArray⟩]) ∧ Below w.heap.size w w' := uu w
theorem ni (s : ByteArray) (hs : s.size ≤ 9500) (w : World) (hL : Lq w.heap.size w) :
  Calls Tryz.prog 11 #[.string s] w (fQ w (crtRead s.data.toList)) := by
 obtain ⟨i0, hi0, hz0, hz1, hz2⟩ := info_parts qH
 have g0 := heap_alloc_new w (.cells #[.int .i64 0, .slice none 0 0, .int .i64 0, .int .i64 0, .slice none 0 0] 25)
 have hb0 : Below w.heap.size w (w.alloc (.cells #[.int .i64 0, .slice none 0 0, .int .i64 0, .int .i64 0, .slice none 0 0] 25)) := br.alloc nl _
 have hs0 : (w.alloc (.cells #[.int .i64 0, .slice none 0 0, .int .i64 0, .int .i64 0, .slice none 0 0] 25)).heap.size = w.heap.size + 1 := World.size_alloc _ _
 have HCU := hid (Aa 32 s (w.alloc (.cells #[.int .i64 0, .slice none 0 0, .int .i64 0, .int .i64 0, .slice none 0 0] 25)) (by omega) ((hL.below hb0).mono (by omega)))
 obtain ⟨x, r, mo, hcut⟩ : ∃ x r b, Lib.cut s.data.toList [32] = (x, r, b) := ⟨_, _, _, rfl⟩
 have hcl := CX s.data.toList [32]
 rw [hcut, ay] at hcl
 simp only at hcl
 rw [hcut] at HCU
 obtain ⟨XS, hXS⟩ : ∃ XS : ByteArray, XS = ⟨x.toArray⟩ := ⟨_, rfl⟩
 obtain ⟨RS, hRS⟩ : ∃ RS : ByteArray, RS = ⟨r.toArray⟩ := ⟨_, rfl⟩
 have hXd : XS.data.toList = x := by rw [hXS]
 have hRd : RS.data.toList = r := by rw [hRS]
 have hRz : RS.size ≤ 9500 := by rw [← ay, hRd]; omega
 simp only at HCU
 rw [← hXS, ← hRS] at HCU
 have HX0 := hid (And.intro hcut (And.intro hXd hRd))
 have H0 := hid (And.intro hb0 (And.intro hs0 (And.intro g0 hL)))
 clear hb0 hL hcut hcl hXS hRS hXd hRd hs0 g0
 go_enter Tryz.func11, Tryz.ntmps11
 go_wp2_with fail
 refine HCU.out.mono ?_
 rintro e w1 ⟨rfl, hb1⟩
 have H1 : Hid (Below w.heap.size w w1 ∧ w.heap.size + 1 ≤ w1.heap.size ∧ w1.heap[w.heap.size]? = some (.cells #[.int .i64 0, .slice none 0 0, .int .i64 0, .int .i64 0, .slice none 0 0] 25 (0, 0)) ∧ Lq w.heap.size w1) := hid (by
  obtain ⟨hb0, hs0, g0, hL⟩ := H0.out
  have := hb1.size
  exact ⟨hb0.trans (hb1.mono (by omega)), by omega, (hb1.block _ (by omega)).trans g0, (hL.below hb0).below (hb1.mono (by omega))⟩)
 clear hb1 H0 HCU
 have HSP := hid (tT 32 RS w1 (by omega) (H1.out.2.2.2.mono (by have := H1.out.2.1; omega)))
 rw [HX0.out.2.2] at HSP
 obtain ⟨l, hl⟩ : ∃ l, l = cuts 32 r := ⟨_, rfl⟩
 rw [← hl] at HSP
 have HLL := hid hl
 have hln : l.length ≤ 9501 := by have := iI 32 r; rw [hl]; rw [← HX0.out.2.2, ay] at this; rw [HX0.out.2.2] at this; omega
 have HLE : Hid (∀ y ∈ l, y.length ≤ 9500) := hid (fun y hy => by have := bJ 32 r y (by rw [← hl]; exact hy); rw [← HX0.out.2.2, ay] at this; omega)
 clear hl
 go_wp2_with fail
 refine HSP.out.mono ?_
 rintro e w2 ⟨rfl, rfl⟩
 have H2 : Hid (Below w.heap.size w (w1.alloc (.cells (strs l).toArray 9)) ∧ w1.heap.size + 1 ≤ (w1.alloc (.cells (strs l).toArray 9)).heap.size ∧ (w1.alloc (.cells (strs l).toArray 9)).heap[w.heap.size]? = some (.cells #[.int .i64 0, .slice none 0 0, .int .i64 0, .int .i64 0, .slice none 0 0] 25 (0, 0)) ∧ Lq w.heap.size (w1.alloc (.cells (strs l).toArray 9)) ∧ (w1.alloc (.cells (strs l).toArray 9)).heap[w1.heap.size]? = some (.cells (strs l).toArray 9 (0, 0)) ∧ w.heap.size < w1.heap.size) := hid (by
  obtain ⟨q1, q2, q3, q4⟩ := H1.out
  have hb : Below w1.heap.size w1 (w1.alloc (.cells (strs l).toArray 9)) := br.alloc nl _
  exact ⟨q1.trans (hb.mono (by omega)), by rw [World.size_alloc]; omega, (hb.block _ (by omega)).trans q3, q4.below (hb.mono (by omega)), heap_alloc_new _ _, by omega⟩)
 generalize (w1.alloc (.cells (strs l).toArray 9)) = w2 at H2 ⊢
 clear HSP H1
 go_wp2_with fail
 refine (zL w2).mono ?_
 rintro e w3 ⟨rfl, hb3⟩
 have H3 : Hid (Below w.heap.size w w3 ∧ w1.heap.size + 1 ≤ w3.heap.size ∧ w3.heap[w.heap.size]? = some (.cells #[.int .i64 0, .slice none 0 0, .int .i64 0, .int .i64 0, .slice none 0 0] 25 (0, 0)) ∧ Lq w.heap.size w3 ∧ w3.heap[w1.heap.size]? = some (.cells (strs l).toArray 9 (0, 0)) ∧ w.heap.size < w1.heap.size) := hid (by
  obtain ⟨q1, q2, q3, q4, q5, q6⟩ := H2.out
  have := hb3.size
  exact ⟨q1.trans (hb3.mono (by omega)), by omega, (hb3.block _ (by omega)).trans q3, q4.below (hb3.mono (by omega)), (hb3.block _ (by omega)).trans q5, q6⟩)
 clear hb3 H2
 go_upto_region 4 with fail
 have H4 : Hid (Below w.heap.size w (w3.alloc (.cells #[.string ⟨#[]⟩, .string ⟨(ah 1).toArray⟩, .string ⟨(ah 2).toArray⟩, .string ⟨(ah 3).toArray⟩, .string ⟨(ah 4).toArray⟩] 73)) ∧ (w3.alloc (.cells #[.string ⟨#[]⟩, .string ⟨(ah 1).toArray⟩, .string ⟨(ah 2).toArray⟩, .string ⟨(ah 3).toArray⟩, .string ⟨(ah 4).toArray⟩] 73)).heap.size = w3.heap.size + 1 ∧ (w3.alloc (.cells #[.string ⟨#[]⟩, .string ⟨(ah 1).toArray⟩, .string ⟨(ah 2).toArray⟩, .string ⟨(ah 3).toArray⟩, .string ⟨(ah 4).toArray⟩] 73)).heap[w.heap.size]? = some (.cells #[.int .i64 0, .slice none 0 0, .int .i64 0, .int .i64 0, .slice none 0 0] 25 (0, 0)) ∧ Lq w.heap.size (w3.alloc (.cells #[.string ⟨#[]⟩, .string ⟨(ah 1).toArray⟩, .string ⟨(ah 2).toArray⟩, .string ⟨(ah 3).toArray⟩, .string ⟨(ah 4).toArray⟩] 73)) ∧ (w3.alloc (.cells #[.string ⟨#[]⟩, .string ⟨(ah 1).toArray⟩, .string ⟨(ah 2).toArray⟩, .string ⟨(ah 3).toArray⟩, .string ⟨(ah 4).toArray⟩] 73)).heap[w1.heap.size]? = some (.cells (strs l).toArray 9 (0, 0)) ∧ w.heap.size < w1.heap.size ∧ w1.heap.size < w3.heap.size ∧ (w3.alloc (.cells #[.string ⟨#[]⟩, .string ⟨(ah 1).toArray⟩, .string ⟨(ah 2).toArray⟩, .string ⟨(ah 3).toArray⟩, .string ⟨(ah 4).toArray⟩] 73)).heap[w3.heap.size]? = some (.cells (strs kD).toArray 73 (0, 0))) := hid (by
  obtain ⟨q1, q2, q3, q4, q5, q6⟩ := H3.out
  have hb : Below w3.heap.size w3 (w3.alloc (.cells #[.string ⟨#[]⟩, .string ⟨(ah 1).toArray⟩, .string ⟨(ah 2).toArray⟩, .string ⟨(ah 3).toArray⟩, .string ⟨(ah 4).toArray⟩] 73)) := br.alloc nl _
  exact ⟨q1.trans (hb.mono (by omega)), World.size_alloc _ _, (hb.block _ (by omega)).trans q3, q4.below (hb.mono (by omega)), (hb.block _ (by omega)).trans q5, q6, by omega, heap_alloc_new _ _⟩)
 generalize (w3.alloc (.cells #[.string ⟨#[]⟩, .string ⟨(ah 1).toArray⟩, .string ⟨(ah 2).toArray⟩, .string ⟨(ah 3).toArray⟩, .string ⟨(ah 4).toArray⟩] 73)) = w4 at H4 ⊢
 have hsz4 := H4.out.2.1
 clear H3
 go_wp2_with fail
 refine (oL _ kD _ XS w4 (gV.of_row H4.out.2.2.2.2.2.2.2 (by decide)) (by decide)).mono ?_
 rintro e w5 ⟨ki, rfl, hki, rfl⟩
 have hkm := Dc hki
 rw [HX0.out.2.1] at hkm
 have hkb : -1 ≤ ki ∧ ki ≤ 4 := by
  rcases hki with ⟨rfl, _⟩ | ⟨j, rfl, hj, _⟩
  ·omega
  ·have := (List.getElem?_eq_some_iff.1 hj).1
   simp [kD] at this; omega
 obtain ⟨kk, hkk⟩ : ∃ kk, kk = dm x := ⟨_, rfl⟩
 have hkl := xI x
 rw [← hkk] at hkm hkl
 have HKK := hid hkk
 clear hki hkk
 go_upto_region 5 with fail
 have HW : Hid (CB 25 (w3.heap.size + 1) ((w3.heap.size + 1) + 1) #[.int .i64 kk, .slice none 0 0, .int .i64 0, .int .i64 0, .slice none 0 0] 3 1 (.slice none 0 0) 0 ([]) (w5.alloc (.cells #[.int .i64 kk, .slice none 0 0, .int .i64 0, .int .i64 0, .slice none 0 0] 25)) (w5.alloc (.cells #[.int .i64 kk, .slice none 0 0, .int .i64 0, .int .i64 0, .slice none 0 0] 25)) ∧ Below w.heap.size w (w5.alloc (.cells #[.int .i64 kk, .slice none 0 0, .int .i64 0, .int .i64 0, .slice none 0 0] 25)) ∧ (w5.alloc (.cells #[.int .i64 kk, .slice none 0 0, .int .i64 0, .int .i64 0, .slice none 0 0] 25)).heap[w.heap.size]? = some (.cells #[.int .i64 0, .slice none 0 0, .int .i64 0, .int .i64 0, .slice none 0 0] 25 (0, 0)) ∧ Lq w.heap.size (w5.alloc (.cells #[.int .i64 kk, .slice none 0 0, .int .i64 0, .int .i64 0, .slice none 0 0] 25)) ∧ (w5.alloc (.cells #[.int .i64 kk, .slice none 0 0, .int .i64 0, .int .i64 0, .slice none 0 0] 25)).heap[w1.heap.size]? = some (.cells (strs l).toArray 9 (0, 0)) ∧ w.heap.size < w3.heap.size + 1 ∧ w1.heap.size < w3.heap.size + 1) := hid (by
  obtain ⟨q1, q2, q3, q4, q5, q6, q7, q8⟩ := H4.out
  have hb : Below w5.heap.size w5 (w5.alloc (.cells #[.int .i64 kk, .slice none 0 0, .int .i64 0, .int .i64 0, .slice none 0 0] 25)) := br.alloc nl _
  have hz : (w5.alloc (.cells #[.int .i64 kk, .slice none 0 0, .int .i64 0, .int .i64 0, .slice none 0 0] 25)).heap.size = w5.heap.size + 1 := World.size_alloc _ _
  exact ⟨⟨br, by omega, by omega, by rw [← q2]; exact heap_alloc_new _ _, World.ownsRow_nil _ _ _ _⟩, q1.trans (hb.mono (by omega)), (hb.block _ (by omega)).trans q3, q4.below (hb.mono (by omega)), (hb.block _ (by omega)).trans q5, by omega, by omega⟩)
 generalize (w5.alloc (.cells #[.int .i64 kk, .slice none 0 0, .int .i64 0, .int .i64 0, .slice none 0 0] 25)) = W at HW ⊢
 obtain ⟨cb, hcb⟩ : ∃ cb, cb = w3.heap.size + 1 := ⟨_, rfl⟩
 rw [← hcb] at HW ⊢
 obtain ⟨lb, hlb⟩ : ∃ lb, lb = w1.heap.size := ⟨_, rfl⟩
 rw [← hlb] at HW ⊢
 have hlc : w.heap.size < cb := HW.out.2.2.2.2.2.1
 have hbl : lb < cb := HW.out.2.2.2.2.2.2
 have HCB := hid HW.out.1
 have HRS := hid (gV.of_row HW.out.2.2.2.2.1 (by omega))
 clear H4 hkm hkb hsz4 hcb hlb
 obtain ⟨k0, k1, k2, k3, k4, kf⟩ := HCB.out.cells
 have f1 := kf 1
 have f2 := kf 2
 have f3 := kf 3
 have f4 := kf 4
 clear kf k4
 by_cases h1 : kk = 1
 ·subst h1
  have e1 : dm x = 1 := HKK.out.symm
  cases mo with
  | true =>
   have HC : Hid (candP s.data.toList = ⟨1, l.map aF, 0, 0, []⟩) := hid (by rw [vL HX0.out.1 e1 rfl, HLL.out])
   clear e1
   have HNE : Hid (s.data.toList ≠ []) := hid (fun e => by have h1 := HX0.out.1; rw [e] at h1; exact absurd h1 (by show ¬ (([] : List UInt8), ([] : List UInt8), false) = _; simp))
   have t0 : s.toList.isEmpty = false := by
    rw [ByteArray.toList_eq]
    cases e : s.data.toList with
    | nil => exact absurd e HNE.out
    | cons _ _ => rfl
   have HWH := hid (jG _ l _ W HRS.out (by omega) (fun y hy => by have := HLE.out y hy; omega) (HW.out.2.2.2.1.mono (by have := HCB.out.size; omega)))
   clear k2 k3 f2 f3 f4
   go_wp2_with fail
   refine HWH.out.mono ?_
   rintro e w6 ⟨u, rfl, hown6, hb6⟩
   obtain ⟨ua, uc, rfl⟩ := ag hown6
   have H6 := hid ((HCB.out.below hb6).row' (bH hown6 HCB.out.size))
   obtain ⟨_, c1, _, _, _, cf⟩ := H6.out.cells
   have cf1 := cf 1
   clear hown6 hb6 HWH k0 k1 f1 cf
   go_upto_region 17 with fail
   have H7 := hid (H6.out.store 1 (.slice ua l.length uc))
   generalize w6.setCell ⟨cb, 1, none⟩ (.slice ua l.length uc) = w7 at H7 ⊢
   clear c1 cf1
   have H7' : Hid (CB 25 cb (cb + 1) #[.int .i64 1, .slice ua l.length uc, .int .i64 0, .int .i64 0, .slice none 0 0] 3 1 (.slice ua l.length uc) l.length (ints (l.map aF)) W w7) := H7
   have HCR := hid (bV HNE.out)
   have hcd : candP s.data.toList = ⟨1, l.map aF, 0, 0, []⟩ := HC.out
   have hnm := dL s.data.toList
   have HF : Hid (aL w7 (fun b => cb + 1 ≤ b) true (candP s.data.toList) (.agg #[.int .i64 1, .slice ua l.length uc, .int .i64 0, .int .i64 0, .slice none 0 0])) := hid (by rw [hcd]; exact ⟨_, _, rfl, bn.of_owns (T := 3) (by rw [List.length_map]; exact H7'.out.own), aX.nil _ _ _⟩)
   obtain ⟨cd, hcdd⟩ : ∃ cd, cd = candP s.data.toList := ⟨_, rfl⟩
   rw [← hcdd] at hcd hnm HF HCR
   have ho9 : cd.o.length ≤ 10000 := by rw [hcd]; simp; omega
   have hw9 : cd.w.length ≤ 10000 := by rw [hcd]; simp
   have hsz9 := H7'.out.size
   have HTX := hid (aT _ _ cd _ w7 HF.out hnm (.inl ho9) hw9 ((HW.out.2.2.2.1.below (H7'.out.old.mono (by omega))).mono (by omega)))
   obtain ⟨CT, hCT⟩ : ∃ CT : ByteArray, CT = ⟨cd.text.toArray⟩ := ⟨_, rfl⟩
   rw [← hCT] at HTX
   have hCd : (CT.toList == s.toList) = decide (cd.text = s.data.toList) := by rw [hCT, ByteArray.toList_eq, ByteArray.toList_eq, Bool.eq_iff_iff]; simp
   obtain ⟨d0, d1, d2, d3, d4, _⟩ := H7'.out.cells
   clear hCT hcd hnm hcdd ho9 hw9
   go_wp2_with fail
   refine HTX.out.mono ?_
   rintro e w9 ⟨rfl, hb9⟩
   have H9 := hid (H7'.out.below hb9)
   have HF9 := hid (HF.out.below hb9 nl)
   have g9 := (H9.out.old.block w.heap.size hlc).trans HW.out.2.2.1
   clear hb9 d0 d1 d2 d3 d4
   by_cases hq : cd.text = s.data.toList
   ·have t9 : (CT.toList == s.toList) = true := by rw [hCd]; simpa using hq
    have HE : Hid (crtRead s.data.toList = some cd) := hid (by rw [HCR.out, if_pos hq])
    obtain ⟨d0, d1, d2, d3, d4, _⟩ := H9.out.cells
    clear hq hCd
    go_wp2_with (refine wpList_store_row rfl 25 (.tmp 2) (.tmp 88) rfl rfl w.heap.size rfl _ rfl 25 _ g9 (by kernel_rfl) rfl (by simp [Value.oneCell']) ?_)
    refine bodyPost_ret (v := .tuple #[.agg #[.int .i64 1, .slice ua l.length uc, .int .i64 0, .int .i64 0, .slice none 0 0], .int .i64 0]) (aa rfl _ _ w.heap.size 25 _ _ _ _ rfl (setRow_heap _ _ _ _ _ _ g9) Tryz.underlying25 rfl (by kernel_rfl) rfl) rfl ?_
    rw [HE.out]
    exact ⟨_, rfl, (HF9.out.keep (aC (g := w.heap.size) (fun h => by have h : _ ≤ w.heap.size := h; omega)) (fun b _ hb => by have hb : _ ≤ b := hb; show _ ≤ b; omega)), below_setRow (HW.out.2.1.trans (H9.out.old.mono (by omega))) _ _ nl⟩
   ·have t9 : (CT.toList == s.toList) = false := by rw [hCd]; simpa using hq
    have HE : Hid (crtRead s.data.toList = none) := hid (by rw [HCR.out, if_neg hq])
    clear hq hCd
    go_wp2_with (refine wpList_store_row rfl 25 (.tmp 2) (.tmp 87) rfl rfl w.heap.size rfl _ rfl 25 _ g9 (by kernel_rfl) rfl (by simp [Value.oneCell']) ?_)
    exact bodyPost_ret (v := .tuple #[.agg #[.int .i64 0, .slice none 0 0, .int .i64 0, .int .i64 0, .slice none 0 0], .int .i64 280]) (aa rfl _ _ w.heap.size 25 _ _ _ _ rfl (setRow_heap _ _ _ _ _ _ g9) Tryz.underlying25 rfl (by kernel_rfl) rfl) rfl (aA HE.out (below_setRow (HW.out.2.1.trans (H9.out.old.mono (by omega))) _ _ nl))
  | false =>
   have n1 : ¬ (dm x = 1 ∧ false = true) := fun h => by cases h.2
   have n4 : ¬ (dm x = 4 ∧ false = true) := fun h => by cases h.2
   by_cases h2 : l.length = 2
   ·obtain ⟨A, B, hAB⟩ : ∃ A B, l = [A, B] := by
     match l, h2 with
     | [A, B], _ => exact ⟨A, B, rfl⟩
    subst hAB
    have HC : Hid (candP s.data.toList = ⟨1, [], aF A, aF B, []⟩) := hid (by rw [nV HX0.out.1 n1 n4 HLL.out.symm, ← HKK.out])
    have HNE : Hid (s.data.toList ≠ []) := hid (fun e => by have h1 := HX0.out.1; rw [e] at h1; have h5 : (([] : List UInt8), ([] : List UInt8), false) = (x, r, _) := h1; simp only [Prod.mk.injEq] at h5; have h6 := HLL.out; rw [← h5.2.1] at h6; have h7 := congrArg List.length h6; simp [Go.Proofs.YtagnalfkmdjajaaGreatDoor.cuts] at h7)
    have t0 : s.toList.isEmpty = false := by
     rw [ByteArray.toList_eq]
     cases e : s.data.toList with
     | nil => exact absurd e HNE.out
     | cons _ _ => rfl
    have hsz5 := HCB.out.size
    have HWH := hid (jG _ [A, B] _ W HRS.out (by simp) (fun y hy => by have := HLE.out y hy; omega) (HW.out.2.2.2.1.mono (by omega)))
    clear k2 k3 f1 f2 f3 f4 h2
    go_wp2_with fail
    refine HWH.out.mono ?_
    rintro e w6 ⟨u, rfl, hown6, hb6⟩
    obtain ⟨ua, uc, rfl⟩ := ag hown6
    obtain ⟨g, rfl⟩ : ∃ g, ua = some ⟨g, 0, none⟩ := by
     rcases hown6.2 with ⟨e, _⟩ | ⟨g, _, _, e, _⟩
     ·injection e with _ e; cases e
     ·injection e with e; exact ⟨g, e⟩
    have H6 := hid (HCB.out.below hb6)
    obtain ⟨gg0, _, hgl, hge⟩ := fG hown6 0 (by simp)
    obtain ⟨gg1, _, _, _⟩ := fG hown6 1 (by simp)
    have g0 : w6.cell? ⟨g, 0, none⟩ = some (.int .i64 (aF A)) := gg0
    have g1 : w6.cell? ⟨g, 1, none⟩ = some (.int .i64 (aF B)) := gg1
    obtain ⟨_, _, c2, c3, _, cf⟩ := H6.out.cells
    have cf2 := cf 2
    have cf3 := cf 3
    have hgc : g < w6.heap.size := hgl
    have hcc := H6.out.lt
    have hgb : W.heap.size ≤ g := hge
    have hcW := HCB.out.lt
    clear hown6 hb6 HWH k0 k1 cf gg0 gg1
    go_upto_region 16 with fail
    have HS7 := hid (((H6.out.store 2 (.int .i64 (aF A))).store 3 (.int .i64 (aF B))).below br.drew)
    have hgn : ¬ g = cb := by omega
    have hgn' : ¬ cb = g := by omega
    go_region
    generalize ((w6.setCell ⟨cb, 2, none⟩ (.int .i64 (aF A))).setCell ⟨cb, 3, none⟩ (.int .i64 (aF B))).drew = w7 at HS7 ⊢
    have H7' : Hid (CB 25 cb (cb + 1) #[.int .i64 1, .slice none 0 0, .int .i64 (aF A), .int .i64 (aF B), .slice none 0 0] 3 1 (.slice none 0 0) 0 ([]) W w7) := HS7
    clear g0 g1 c2 c3 cf2 cf3 HS7
    have HCR := hid (bV HNE.out)
    have hcd : candP s.data.toList = ⟨1, [], aF A, aF B, []⟩ := HC.out
    have hnm := dL s.data.toList
    have HF : Hid (aL w7 (fun b => cb + 1 ≤ b) true (candP s.data.toList) (.agg #[.int .i64 1, .slice none 0 0, .int .i64 (aF A), .int .i64 (aF B), .slice none 0 0])) := hid (by rw [hcd]; exact ⟨_, _, rfl, bn.nil _ _ _, aX.nil _ _ _⟩)
    obtain ⟨cd, hcdd⟩ : ∃ cd, cd = candP s.data.toList := ⟨_, rfl⟩
    rw [← hcdd] at hcd hnm HF HCR
    have ho9 : cd.o.length ≤ 10000 := by rw [hcd]; simp
    have hw9 : cd.w.length ≤ 10000 := by rw [hcd]; simp
    have hsz9 := H7'.out.size
    have HTX := hid (aT _ _ cd _ w7 HF.out hnm (.inl ho9) hw9 ((HW.out.2.2.2.1.below (H7'.out.old.mono (by omega))).mono (by omega)))
    obtain ⟨CT, hCT⟩ : ∃ CT : ByteArray, CT = ⟨cd.text.toArray⟩ := ⟨_, rfl⟩
    rw [← hCT] at HTX
    have hCd : (CT.toList == s.toList) = decide (cd.text = s.data.toList) := by rw [hCT, ByteArray.toList_eq, ByteArray.toList_eq, Bool.eq_iff_iff]; simp
    obtain ⟨d0, d1, d2, d3, d4, _⟩ := H7'.out.cells
    clear hCT hcd hnm hcdd ho9 hw9
    go_wp2_with fail
    refine HTX.out.mono ?_
    rintro e w9 ⟨rfl, hb9⟩
    have H9 := hid (H7'.out.below hb9)
    have HF9 := hid (HF.out.below hb9 nl)
    have g9 := (H9.out.old.block w.heap.size hlc).trans HW.out.2.2.1
    clear hb9 d0 d1 d2 d3 d4
    by_cases hq : cd.text = s.data.toList
    ·have t9 : (CT.toList == s.toList) = true := by rw [hCd]; simpa using hq
     have HE : Hid (crtRead s.data.toList = some cd) := hid (by rw [HCR.out, if_pos hq])
     obtain ⟨d0, d1, d2, d3, d4, _⟩ := H9.out.cells
     clear hq hCd
     go_wp2_with (refine wpList_store_row rfl 25 (.tmp 2) (.tmp 88) rfl rfl w.heap.size rfl _ rfl 25 _ g9 (by kernel_rfl) rfl (by simp [Value.oneCell']) ?_)
     refine bodyPost_ret (v := .tuple #[.agg #[.int .i64 1, .slice none 0 0, .int .i64 (aF A), .int .i64 (aF B), .slice none 0 0], .int .i64 0]) (aa rfl _ _ w.heap.size 25 _ _ _ _ rfl (setRow_heap _ _ _ _ _ _ g9) Tryz.underlying25 rfl (by kernel_rfl) rfl) rfl ?_
     rw [HE.out]
     exact ⟨_, rfl, (HF9.out.keep (aC (g := w.heap.size) (fun h => by have h : _ ≤ w.heap.size := h; omega)) (fun b _ hb => by have hb : _ ≤ b := hb; show _ ≤ b; omega)), below_setRow (HW.out.2.1.trans (H9.out.old.mono (by omega))) _ _ nl⟩
    ·have t9 : (CT.toList == s.toList) = false := by rw [hCd]; simpa using hq
     have HE : Hid (crtRead s.data.toList = none) := hid (by rw [HCR.out, if_neg hq])
     clear hq hCd
     go_wp2_with (refine wpList_store_row rfl 25 (.tmp 2) (.tmp 87) rfl rfl w.heap.size rfl _ rfl 25 _ g9 (by kernel_rfl) rfl (by simp [Value.oneCell']) ?_)
     exact bodyPost_ret (v := .tuple #[.agg #[.int .i64 0, .slice none 0 0, .int .i64 0, .int .i64 0, .slice none 0 0], .int .i64 280]) (aa rfl _ _ w.heap.size 25 _ _ _ _ rfl (setRow_heap _ _ _ _ _ _ g9) Tryz.underlying25 rfl (by kernel_rfl) rfl) rfl (aA HE.out (below_setRow (HW.out.2.1.trans (H9.out.old.mono (by omega))) _ _ nl))
   ·have t2 : ((l.length : Int) == 2) = false := by simpa using (by omega : ¬ (l.length : Int) = 2)
    have HC : Hid (candP s.data.toList = ⟨1, [], 0, 0, []⟩) := hid (by rw [rZ HX0.out.1 n1 n4 (by rw [← HLL.out]; exact h2), ← HKK.out])
    clear h2 k2 k3 f1 f2 f3 f4
    by_cases hs0 : s.data.toList = []
    ·have t0 : s.toList.isEmpty = true := by rw [ByteArray.toList_eq, hs0]; rfl
     have HE : Hid (crtRead s.data.toList = none) := hid (by rw [hs0]; exact iW)
     have g9 := HW.out.2.2.1
     clear hs0
     go_wp2_with (refine wpList_store_row rfl 25 (.tmp 2) (.tmp 87) rfl rfl w.heap.size rfl _ rfl 25 _ g9 (by kernel_rfl) rfl (by simp [Value.oneCell']) ?_)
     exact bodyPost_ret (v := .tuple #[.agg #[.int .i64 0, .slice none 0 0, .int .i64 0, .int .i64 0, .slice none 0 0], .int .i64 280]) (aa rfl _ _ w.heap.size 25 _ _ _ _ rfl (setRow_heap _ _ _ _ _ _ g9) Tryz.underlying25 rfl (by kernel_rfl) rfl) rfl (aA HE.out (below_setRow (HW.out.2.1.trans (HCB.out.old.mono (by omega))) _ _ nl))
    ·have HNE := hid hs0
     have t0 : s.toList.isEmpty = false := by
      rw [ByteArray.toList_eq]
      cases e : s.data.toList with
      | nil => exact absurd e hs0
      | cons _ _ => rfl
     clear hs0 k0 k1
     have HCR := hid (bV HNE.out)
     have hcd : candP s.data.toList = ⟨1, [], 0, 0, []⟩ := HC.out
     have hnm := dL s.data.toList
     have HF : Hid (aL W (fun b => cb + 1 ≤ b) true (candP s.data.toList) (.agg #[.int .i64 1, .slice none 0 0, .int .i64 0, .int .i64 0, .slice none 0 0])) := hid (by rw [hcd]; exact ⟨_, _, rfl, bn.nil _ _ _, aX.nil _ _ _⟩)
     obtain ⟨cd, hcdd⟩ : ∃ cd, cd = candP s.data.toList := ⟨_, rfl⟩
     rw [← hcdd] at hcd hnm HF HCR
     have ho9 : cd.o.length ≤ 10000 := by rw [hcd]; simp
     have hw9 : cd.w.length ≤ 10000 := by rw [hcd]; simp
     have hsz9 := HCB.out.size
     have HTX := hid (aT _ _ cd _ W HF.out hnm (.inl ho9) hw9 ((HW.out.2.2.2.1.below (HCB.out.old.mono (by omega))).mono (by omega)))
     obtain ⟨CT, hCT⟩ : ∃ CT : ByteArray, CT = ⟨cd.text.toArray⟩ := ⟨_, rfl⟩
     rw [← hCT] at HTX
     have hCd : (CT.toList == s.toList) = decide (cd.text = s.data.toList) := by rw [hCT, ByteArray.toList_eq, ByteArray.toList_eq, Bool.eq_iff_iff]; simp
     obtain ⟨d0, d1, d2, d3, d4, _⟩ := HCB.out.cells
     clear hCT hcd hnm hcdd ho9 hw9
     go_wp2_with fail
     refine HTX.out.mono ?_
     rintro e w9 ⟨rfl, hb9⟩
     have H9 := hid (HCB.out.below hb9)
     have HF9 := hid (HF.out.below hb9 nl)
     have g9 := (H9.out.old.block w.heap.size hlc).trans HW.out.2.2.1
     clear hb9 d0 d1 d2 d3 d4
     by_cases hq : cd.text = s.data.toList
     ·have t9 : (CT.toList == s.toList) = true := by rw [hCd]; simpa using hq
      have HE : Hid (crtRead s.data.toList = some cd) := hid (by rw [HCR.out, if_pos hq])
      obtain ⟨d0, d1, d2, d3, d4, _⟩ := H9.out.cells
      clear hq hCd
      go_wp2_with (refine wpList_store_row rfl 25 (.tmp 2) (.tmp 88) rfl rfl w.heap.size rfl _ rfl 25 _ g9 (by kernel_rfl) rfl (by simp [Value.oneCell']) ?_)
      refine bodyPost_ret (v := .tuple #[.agg #[.int .i64 1, .slice none 0 0, .int .i64 0, .int .i64 0, .slice none 0 0], .int .i64 0]) (aa rfl _ _ w.heap.size 25 _ _ _ _ rfl (setRow_heap _ _ _ _ _ _ g9) Tryz.underlying25 rfl (by kernel_rfl) rfl) rfl ?_
      rw [HE.out]
      exact ⟨_, rfl, (HF9.out.keep (aC (g := w.heap.size) (fun h => by have h : _ ≤ w.heap.size := h; omega)) (fun b _ hb => by have hb : _ ≤ b := hb; show _ ≤ b; omega)), below_setRow (HW.out.2.1.trans (H9.out.old.mono (by omega))) _ _ nl⟩
     ·have t9 : (CT.toList == s.toList) = false := by rw [hCd]; simpa using hq
      have HE : Hid (crtRead s.data.toList = none) := hid (by rw [HCR.out, if_neg hq])
      clear hq hCd
      go_wp2_with (refine wpList_store_row rfl 25 (.tmp 2) (.tmp 87) rfl rfl w.heap.size rfl _ rfl 25 _ g9 (by kernel_rfl) rfl (by simp [Value.oneCell']) ?_)
      exact bodyPost_ret (v := .tuple #[.agg #[.int .i64 0, .slice none 0 0, .int .i64 0, .int .i64 0, .slice none 0 0], .int .i64 280]) (aa rfl _ _ w.heap.size 25 _ _ _ _ rfl (setRow_heap _ _ _ _ _ _ g9) Tryz.underlying25 rfl (by kernel_rfl) rfl) rfl (aA HE.out (below_setRow (HW.out.2.1.trans (H9.out.old.mono (by omega))) _ _ nl))
 ·have t1 : (kk == 1) = false := by simpa using h1
  have HN1 := hid h1
  clear h1
  by_cases h4 : kk = 4
  ·subst h4
   have e4 : dm x = 4 := HKK.out.symm
   cases mo with
   | true =>
    obtain ⟨ss, hss⟩ : ∃ ss, ss = Lib.split r dQ := ⟨_, rfl⟩
    have HC : Hid (candP s.data.toList = ⟨4, [], 0, 0, ss.map edGet⟩) := hid (by rw [xR HX0.out.1 e4 rfl, hss])
    have HNE : Hid (s.data.toList ≠ []) := hid (fun e => by have h1 := HX0.out.1; rw [e] at h1; exact absurd h1 (by show ¬ (([] : List UInt8), ([] : List UInt8), false) = _; simp))
    have t0 : s.toList.isEmpty = false := by
     rw [ByteArray.toList_eq]
     cases e : s.data.toList with
     | nil => exact absurd e HNE.out
     | cons _ _ => rfl
    have HSP := hid (zw RS W (by omega) (HW.out.2.2.2.1.mono (by have := HCB.out.size; omega)))
    have hsn := zx RS
    rw [HX0.out.2.2, ← hss] at HSP hsn
    have HSL : Hid (∀ y ∈ ss, y.length ≤ 9500) := hid (fun y hy => by have h1 := Bu r y (by rw [← hss]; exact hy); rw [← HX0.out.2.2, ay] at h1; omega)
    have hsm : ss.length ≤ 9501 := by omega
    clear hss e4 hsn k1 k2 k3 f1 f2 f3
    go_wp2_with fail
    refine HSP.out.mono ?_
    rintro e w6 ⟨rfl, rfl⟩
    have hbW : Below W.heap.size W (W.alloc (.cells (strs ss).toArray 9)) := br.alloc nl _
    have H6 := hid (HCB.out.below hbW)
    have HRSS := hid (gV.of_row (heap_alloc_new W (.cells (strs ss).toArray 9)) (by omega))
    have hcW := HCB.out.size
    have hz6 : (W.alloc (.cells (strs ss).toArray 9)).heap.size = W.heap.size + 1 := World.size_alloc _ _
    generalize W.alloc (.cells (strs ss).toArray 9) = w6 at H6 HRSS hz6 ⊢
    clear HSP hbW k0 f4
    go_wp2_with fail
    go_loopw [49] (fun iv wr => ∃ (j : Nat) (sa : Option Addr) (sc2 : Nat), j ≤ ss.length ∧ iv = .int .i64 j ∧ Hid (CB 25 cb (cb + 1) #[.int .i64 4, .slice none 0 0, .int .i64 0, .int .i64 0, .slice sa j sc2] 54 9 (.slice sa j sc2) j (bD ((ss.take j).map edGet)) W wr ∧ wr.heap[W.heap.size]? = w6.heap[W.heap.size]? ∧ W.heap.size < wr.heap.size ∧ sa.map (·.block) ≠ some W.heap.size)) (fun iv _ => ss.length - (intOf iv).toNat)
    case atStart => exact ⟨0, none, 0, by omega, rfl, hid ⟨H6.out.row' (World.ownsRow_nil _ _ _ _), rfl, by omega, by simp⟩⟩
    case round =>
     clear H6
     obtain ⟨j, sa, sc2, hj, rfl, HQ⟩ := hrel
     by_cases hlt2 : j < ss.length
     ·obtain ⟨_, _, e0, _, hcell⟩ := gV.at HRSS.out (by omega)
      injection e0 with e0
      injection e0 with e0 e1
      subst e0 e1
      have hc := hcell j hlt2
      rw [Nat.zero_add] at hc
      obtain ⟨YS, hYS⟩ : ∃ YS : ByteArray, YS = ⟨ss[j].toArray⟩ := ⟨_, rfl⟩
      have hYd : YS.data.toList = ss[j] := by rw [hYS]
      rw [← hYS] at hc
      have gY : wr.cell? ⟨W.heap.size, j, none⟩ = some (.string YS) := by rw [World.cell?_of_block (w := w6) (a := ⟨W.heap.size, j, none⟩) HQ.out.2.1]; exact hc
      have hYz : YS.size ≤ 9500 := by rw [← ay, hYd]; exact HSL.out _ (List.getElem_mem hlt2)
      have hszr := HQ.out.1.size
      have HRD := hid (zl YS (by omega) wr ((HW.out.2.2.2.1.below (HQ.out.1.old.mono (by omega))).mono (by omega)))
      obtain ⟨_, _, _, _, p4, pf⟩ := HQ.out.1.cells
      have pf4 := pf 4
      have hcr := HQ.out.1.lt
      have HYD := hid hYd
      have x1 : (0 : Int) ≤ (j : Int) := by omega
      have x2 : (j : Int) < (ss.length : Int) := by omega
      clear hcell hc hYS hYd pf
      go_wp2_with fail
      refine HRD.out.mono ?_
      rintro e w7 ⟨he, hb7⟩
      obtain ⟨e1, ec, he1, hee⟩ := nO YS.data.toList
      rw [he1] at he
      subst he
      have hs7 := hb7.size
      have HT : Hid (bD ((ss.take (j + 1)).map edGet) = bD ((ss.take j).map edGet) ++ [.int .i64 e1.a, .int .i64 e1.b, .int .i64 e1.k, .int .u64 (e1.x : Nat), .int .u64 (e1.sw : Nat), .int .u64 (e1.sn : Nat), .int .u64 (e1.mw : Nat), .int .u64 (e1.mn : Nat), .int .i64 e1.p]) := hid (by
       rw [List.take_succ_eq_append_getElem hlt2, List.map_append, dG]
       simp only [List.map_cons, List.map_nil]
       rw [← HYD.out, hee]; simp [bD, Ed.vals])
      have H7 := hid (And.intro (HQ.out.1.below hb7) (And.intro ((hb7.block W.heap.size HQ.out.2.2.1).trans HQ.out.2.1) (And.intro (show W.heap.size < w7.heap.size by have := HQ.out.2.2.1; omega) HQ.out.2.2.2)))
      have q4 := (hb7.cell (p := ⟨cb, 4, none⟩) hcr).trans p4
      have qf4 := (hb7.frozen (p := ⟨cb, 4, none⟩) hcr).trans pf4
      have hc7 : cb < w7.heap.size := by omega
      clear hb7 he1 hee HRD gY p4 pf4
      go_wp2_with (at_builtin; go_loud (refine af _ rfl (.tmp 59) (.tmp 61) _ rfl (cb + 1) 54 i0 _ 9 72 Tryz.underlying23 hi0 hz0 hz1 hz2 rfl (by omega) _ j (bD ((ss.take j).map edGet)) rfl ((H7.out.1.own.alloc _).alloc _) _ _ 1 [.int .i64 e1.a, .int .i64 e1.b, .int .i64 e1.k, .int .u64 (e1.x : Nat), .int .u64 (e1.sw : Nat), .int .u64 (e1.sn : Nat), .int .u64 (e1.mw : Nat), .int .u64 (e1.mn : Nat), .int .i64 e1.p] _ rfl (pO _ #[.int .i64 e1.a, .int .i64 e1.b, .int .i64 e1.k, .int .u64 (e1.x : Nat), .int .u64 (e1.sw : Nat), .int .u64 (e1.sn : Nat), .int .u64 (e1.mw : Nat), .int .u64 (e1.mn : Nat), .int .i64 e1.p] 54 9 (w7.heap.size + 1) rfl (by omega) (by simp)) (by simp [Value.oneCell']) (by unfold maxLen; omega) (by omega) (by simp; omega) ?_); intro v' w8 hown8 hgrow hat; obtain ⟨va, vc, rfl⟩ := ag hown8; have hco8 := H7.out.1.append ((br.alloc nl _).alloc (by simp) _) hgrow hown8; obtain ⟨_, _, _, _, s4, sf⟩ := hco8.cells; have sf4 := sf 4; have HM := hid (And.intro hco8 (And.intro (show World.grownBy _ w8 (Value.slice sa j sc2).ownBlock from hgrow) (show (Value.slice va (j + 1) vc).ownBlock = (Value.slice sa j sc2).ownBlock ∨ (Value.slice va (j + 1) vc).ownBlock = _ from hat))); clear hco8 hgrow hat hown8 sf)
      have HM2 : Hid (CB 25 cb (cb + 1) #[.int .i64 4, .slice none 0 0, .int .i64 0, .int .i64 0, .slice va (j + 1) vc] 54 9 (.slice va (j + 1) vc) (j + 1) (bD ((ss.take (j + 1)).map edGet)) W (w8.setCell ⟨cb, 4, none⟩ (.slice va (j + 1) vc)) ∧ (w8.setCell ⟨cb, 4, none⟩ (.slice va (j + 1) vc)).heap[W.heap.size]? = w6.heap[W.heap.size]? ∧ W.heap.size < (w8.setCell ⟨cb, 4, none⟩ (.slice va (j + 1) vc)).heap.size ∧ va.map (·.block) ≠ some W.heap.size) := hid (by
       obtain ⟨m1, m2, m3⟩ := HM.out
       obtain ⟨n1, n2, n3, n4⟩ := H7.out
       have hz7 : ∀ o1 o2, ((w7.alloc o1).alloc o2).heap.size = w7.heap.size + 2 := fun o1 o2 => by rw [World.size_alloc, World.size_alloc]
       have hms := m2.size
       rw [hz7] at hms m3
       have hlb2 := HW.out.2.2.2.2.2.1
       have hob : ∀ (a : Option Addr) (n c : Nat), (Value.slice a n c).ownBlock = a.map (·.block) := fun a n c => by cases a <;> rfl
       refine ⟨by have := m1.store 4 (.slice va (j + 1) vc); rw [HT.out]; exact this, ?_, by simp; omega, ?_⟩
       ·rw [Below.heap_setCell _ _ _ _ (by simp; omega), m2.block _ (by rw [hz7]; omega) (by rw [hob]; exact fun e => n4 e.symm), aU _ _ _ (by simp; omega), aU _ _ _ (by omega)]; exact n2
       ·rw [hob, hob] at m3
        rcases m3 with m3 | m3
        ·rw [m3]; exact n4
        ·rw [m3]; simp; omega)
      clear HM H7 s4 sf4
      go_roundw
      case rel => exact ⟨j + 1, va, vc, by omega, by go_num, HM2⟩
      case measure => simp [intOf]; omega
     ·have HJ : Hid (j = ss.length) := hid (by omega)
      have x2 : ¬ (j : Int) < (ss.length : Int) := by omega
      have HQ1 := hid HQ.out.1
      have HCR := hid (bV HNE.out)
      have hcd : candP s.data.toList = ⟨4, [], 0, 0, ss.map edGet⟩ := HC.out
      have hnm := dL s.data.toList
      have HF : Hid (aL wr (fun b => cb + 1 ≤ b) true (candP s.data.toList) (.agg #[.int .i64 4, .slice none 0 0, .int .i64 0, .int .i64 0, .slice sa j sc2])) := hid (by rw [hcd]; exact ⟨_, _, rfl, bn.nil _ _ _, aX.of_owns (T := 54) (by have h1 := HQ1.out.own; have h2 := HJ.out; rw [h2, List.take_length] at h1; rw [List.length_map, h2]; exact h1)⟩)
      obtain ⟨cd, hcdd⟩ : ∃ cd, cd = candP s.data.toList := ⟨_, rfl⟩
      rw [← hcdd] at hcd hnm HF HCR
      have ho9 : cd.o.length ≤ 10000 := by rw [hcd]; simp
      have hw9 : cd.w.length ≤ 10000 := by rw [hcd]; simp; omega
      have hsz9 := HQ1.out.size
      have HTX := hid (aT _ _ cd _ wr HF.out hnm (.inl ho9) hw9 ((HW.out.2.2.2.1.below (HQ1.out.old.mono (by omega))).mono (by omega)))
      obtain ⟨CT, hCT⟩ : ∃ CT : ByteArray, CT = ⟨cd.text.toArray⟩ := ⟨_, rfl⟩
      rw [← hCT] at HTX
      have hCd : (CT.toList == s.toList) = decide (cd.text = s.data.toList) := by rw [hCT, ByteArray.toList_eq, ByteArray.toList_eq, Bool.eq_iff_iff]; simp
      obtain ⟨d0, d1, d2, d3, d4, _⟩ := HQ1.out.cells
      clear hCT hcd hnm hcdd ho9 hw9
      go_wp2_with fail
      refine HTX.out.mono ?_
      rintro e w9 ⟨rfl, hb9⟩
      have H9 := hid (HQ1.out.below hb9)
      have HF9 := hid (HF.out.below hb9 nl)
      have g9 := (H9.out.old.block w.heap.size hlc).trans HW.out.2.2.1
      clear hb9 d0 d1 d2 d3 d4
      by_cases hq : cd.text = s.data.toList
      ·have t9 : (CT.toList == s.toList) = true := by rw [hCd]; simpa using hq
       have HE : Hid (crtRead s.data.toList = some cd) := hid (by rw [HCR.out, if_pos hq])
       obtain ⟨d0, d1, d2, d3, d4, _⟩ := H9.out.cells
       clear hq hCd
       go_wp2_with (refine wpList_store_row rfl 25 (.tmp 2) (.tmp 88) rfl rfl w.heap.size rfl _ rfl 25 _ g9 (by kernel_rfl) rfl (by simp [Value.oneCell']) ?_)
       refine bodyPost_ret (v := .tuple #[.agg #[.int .i64 4, .slice none 0 0, .int .i64 0, .int .i64 0, .slice sa j sc2], .int .i64 0]) (aa rfl _ _ w.heap.size 25 _ _ _ _ rfl (setRow_heap _ _ _ _ _ _ g9) Tryz.underlying25 rfl (by kernel_rfl) rfl) rfl ?_
       rw [HE.out]
       exact ⟨_, rfl, (HF9.out.keep (aC (g := w.heap.size) (fun h => by have h : _ ≤ w.heap.size := h; omega)) (fun b _ hb => by have hb : _ ≤ b := hb; show _ ≤ b; omega)), below_setRow (HW.out.2.1.trans (H9.out.old.mono (by omega))) _ _ nl⟩
      ·have t9 : (CT.toList == s.toList) = false := by rw [hCd]; simpa using hq
       have HE : Hid (crtRead s.data.toList = none) := hid (by rw [HCR.out, if_neg hq])
       clear hq hCd
       go_wp2_with (refine wpList_store_row rfl 25 (.tmp 2) (.tmp 87) rfl rfl w.heap.size rfl _ rfl 25 _ g9 (by kernel_rfl) rfl (by simp [Value.oneCell']) ?_)
       exact bodyPost_ret (v := .tuple #[.agg #[.int .i64 0, .slice none 0 0, .int .i64 0, .int .i64 0, .slice none 0 0], .int .i64 280]) (aa rfl _ _ w.heap.size 25 _ _ _ _ rfl (setRow_heap _ _ _ _ _ _ g9) Tryz.underlying25 rfl (by kernel_rfl) rfl) rfl (aA HE.out (below_setRow (HW.out.2.1.trans (H9.out.old.mono (by omega))) _ _ nl))
   | false =>
    have n1 : ¬ (dm x = 1 ∧ false = true) := fun h => by cases h.2
    have n4 : ¬ (dm x = 4 ∧ false = true) := fun h => by cases h.2
    by_cases h2 : l.length = 2
    ·obtain ⟨A, B, hAB⟩ : ∃ A B, l = [A, B] := by
      match l, h2 with
      | [A, B], _ => exact ⟨A, B, rfl⟩
     subst hAB
     have HC : Hid (candP s.data.toList = ⟨4, [], aF A, aF B, []⟩) := hid (by rw [nV HX0.out.1 n1 n4 HLL.out.symm, ← HKK.out])
     have HNE : Hid (s.data.toList ≠ []) := hid (fun e => by have h1 := HX0.out.1; rw [e] at h1; have h5 : (([] : List UInt8), ([] : List UInt8), false) = (x, r, _) := h1; simp only [Prod.mk.injEq] at h5; have h6 := HLL.out; rw [← h5.2.1] at h6; have h7 := congrArg List.length h6; simp [Go.Proofs.YtagnalfkmdjajaaGreatDoor.cuts] at h7)
     have t0 : s.toList.isEmpty = false := by
      rw [ByteArray.toList_eq]
      cases e : s.data.toList with
      | nil => exact absurd e HNE.out
      | cons _ _ => rfl
     have hsz5 := HCB.out.size
     have HWH := hid (jG _ [A, B] _ W HRS.out (by simp) (fun y hy => by have := HLE.out y hy; omega) (HW.out.2.2.2.1.mono (by omega)))
     clear k2 k3 f1 f2 f3 f4 h2
     go_wp2_with fail
     refine HWH.out.mono ?_
     rintro e w6 ⟨u, rfl, hown6, hb6⟩
     obtain ⟨ua, uc, rfl⟩ := ag hown6
     obtain ⟨g, rfl⟩ : ∃ g, ua = some ⟨g, 0, none⟩ := by
      rcases hown6.2 with ⟨e, _⟩ | ⟨g, _, _, e, _⟩
      ·injection e with _ e; cases e
      ·injection e with e; exact ⟨g, e⟩
     have H6 := hid (HCB.out.below hb6)
     obtain ⟨gg0, _, hgl, hge⟩ := fG hown6 0 (by simp)
     obtain ⟨gg1, _, _, _⟩ := fG hown6 1 (by simp)
     have g0 : w6.cell? ⟨g, 0, none⟩ = some (.int .i64 (aF A)) := gg0
     have g1 : w6.cell? ⟨g, 1, none⟩ = some (.int .i64 (aF B)) := gg1
     obtain ⟨_, _, c2, c3, _, cf⟩ := H6.out.cells
     have cf2 := cf 2
     have cf3 := cf 3
     have hgc : g < w6.heap.size := hgl
     have hcc := H6.out.lt
     have hgb : W.heap.size ≤ g := hge
     have hcW := HCB.out.lt
     clear hown6 hb6 HWH k0 k1 cf gg0 gg1
     go_upto_region 16 with fail
     have HS7 := hid (((H6.out.store 2 (.int .i64 (aF A))).store 3 (.int .i64 (aF B))).below br.drew)
     have hgn : ¬ g = cb := by omega
     have hgn' : ¬ cb = g := by omega
     go_region
     generalize ((w6.setCell ⟨cb, 2, none⟩ (.int .i64 (aF A))).setCell ⟨cb, 3, none⟩ (.int .i64 (aF B))).drew = w7 at HS7 ⊢
     have H7' : Hid (CB 25 cb (cb + 1) #[.int .i64 4, .slice none 0 0, .int .i64 (aF A), .int .i64 (aF B), .slice none 0 0] 3 1 (.slice none 0 0) 0 ([]) W w7) := HS7
     clear g0 g1 c2 c3 cf2 cf3 HS7
     have HCR := hid (bV HNE.out)
     have hcd : candP s.data.toList = ⟨4, [], aF A, aF B, []⟩ := HC.out
     have hnm := dL s.data.toList
     have HF : Hid (aL w7 (fun b => cb + 1 ≤ b) true (candP s.data.toList) (.agg #[.int .i64 4, .slice none 0 0, .int .i64 (aF A), .int .i64 (aF B), .slice none 0 0])) := hid (by rw [hcd]; exact ⟨_, _, rfl, bn.nil _ _ _, aX.nil _ _ _⟩)
     obtain ⟨cd, hcdd⟩ : ∃ cd, cd = candP s.data.toList := ⟨_, rfl⟩
     rw [← hcdd] at hcd hnm HF HCR
     have ho9 : cd.o.length ≤ 10000 := by rw [hcd]; simp
     have hw9 : cd.w.length ≤ 10000 := by rw [hcd]; simp
     have hsz9 := H7'.out.size
     have HTX := hid (aT _ _ cd _ w7 HF.out hnm (.inl ho9) hw9 ((HW.out.2.2.2.1.below (H7'.out.old.mono (by omega))).mono (by omega)))
     obtain ⟨CT, hCT⟩ : ∃ CT : ByteArray, CT = ⟨cd.text.toArray⟩ := ⟨_, rfl⟩
     rw [← hCT] at HTX
     have hCd : (CT.toList == s.toList) = decide (cd.text = s.data.toList) := by rw [hCT, ByteArray.toList_eq, ByteArray.toList_eq, Bool.eq_iff_iff]; simp
     obtain ⟨d0, d1, d2, d3, d4, _⟩ := H7'.out.cells
     clear hCT hcd hnm hcdd ho9 hw9
     go_wp2_with fail
     refine HTX.out.mono ?_
     rintro e w9 ⟨rfl, hb9⟩
     have H9 := hid (H7'.out.below hb9)
     have HF9 := hid (HF.out.below hb9 nl)
     have g9 := (H9.out.old.block w.heap.size hlc).trans HW.out.2.2.1
     clear hb9 d0 d1 d2 d3 d4
     by_cases hq : cd.text = s.data.toList
     ·have t9 : (CT.toList == s.toList) = true := by rw [hCd]; simpa using hq
      have HE : Hid (crtRead s.data.toList = some cd) := hid (by rw [HCR.out, if_pos hq])
      obtain ⟨d0, d1, d2, d3, d4, _⟩ := H9.out.cells
      clear hq hCd
      go_wp2_with (refine wpList_store_row rfl 25 (.tmp 2) (.tmp 88) rfl rfl w.heap.size rfl _ rfl 25 _ g9 (by kernel_rfl) rfl (by simp [Value.oneCell']) ?_)
      refine bodyPost_ret (v := .tuple #[.agg #[.int .i64 4, .slice none 0 0, .int .i64 (aF A), .int .i64 (aF B), .slice none 0 0], .int .i64 0]) (aa rfl _ _ w.heap.size 25 _ _ _ _ rfl (setRow_heap _ _ _ _ _ _ g9) Tryz.underlying25 rfl (by kernel_rfl) rfl) rfl ?_
      rw [HE.out]
      exact ⟨_, rfl, (HF9.out.keep (aC (g := w.heap.size) (fun h => by have h : _ ≤ w.heap.size := h; omega)) (fun b _ hb => by have hb : _ ≤ b := hb; show _ ≤ b; omega)), below_setRow (HW.out.2.1.trans (H9.out.old.mono (by omega))) _ _ nl⟩
     ·have t9 : (CT.toList == s.toList) = false := by rw [hCd]; simpa using hq
      have HE : Hid (crtRead s.data.toList = none) := hid (by rw [HCR.out, if_neg hq])
      clear hq hCd
      go_wp2_with (refine wpList_store_row rfl 25 (.tmp 2) (.tmp 87) rfl rfl w.heap.size rfl _ rfl 25 _ g9 (by kernel_rfl) rfl (by simp [Value.oneCell']) ?_)
      exact bodyPost_ret (v := .tuple #[.agg #[.int .i64 0, .slice none 0 0, .int .i64 0, .int .i64 0, .slice none 0 0], .int .i64 280]) (aa rfl _ _ w.heap.size 25 _ _ _ _ rfl (setRow_heap _ _ _ _ _ _ g9) Tryz.underlying25 rfl (by kernel_rfl) rfl) rfl (aA HE.out (below_setRow (HW.out.2.1.trans (H9.out.old.mono (by omega))) _ _ nl))
    ·have t2 : ((l.length : Int) == 2) = false := by simpa using (by omega : ¬ (l.length : Int) = 2)
     have HC : Hid (candP s.data.toList = ⟨4, [], 0, 0, []⟩) := hid (by rw [rZ HX0.out.1 n1 n4 (by rw [← HLL.out]; exact h2), ← HKK.out])
     clear h2 k2 k3 f1 f2 f3 f4
     by_cases hs0 : s.data.toList = []
     ·have t0 : s.toList.isEmpty = true := by rw [ByteArray.toList_eq, hs0]; rfl
      have HE : Hid (crtRead s.data.toList = none) := hid (by rw [hs0]; exact iW)
      have g9 := HW.out.2.2.1
      clear hs0
      go_wp2_with (refine wpList_store_row rfl 25 (.tmp 2) (.tmp 87) rfl rfl w.heap.size rfl _ rfl 25 _ g9 (by kernel_rfl) rfl (by simp [Value.oneCell']) ?_)
      exact bodyPost_ret (v := .tuple #[.agg #[.int .i64 0, .slice none 0 0, .int .i64 0, .int .i64 0, .slice none 0 0], .int .i64 280]) (aa rfl _ _ w.heap.size 25 _ _ _ _ rfl (setRow_heap _ _ _ _ _ _ g9) Tryz.underlying25 rfl (by kernel_rfl) rfl) rfl (aA HE.out (below_setRow (HW.out.2.1.trans (HCB.out.old.mono (by omega))) _ _ nl))
     ·have HNE := hid hs0
      have t0 : s.toList.isEmpty = false := by
       rw [ByteArray.toList_eq]
       cases e : s.data.toList with
       | nil => exact absurd e hs0
       | cons _ _ => rfl
      clear hs0 k0 k1
      have HCR := hid (bV HNE.out)
      have hcd : candP s.data.toList = ⟨4, [], 0, 0, []⟩ := HC.out
      have hnm := dL s.data.toList
      have HF : Hid (aL W (fun b => cb + 1 ≤ b) true (candP s.data.toList) (.agg #[.int .i64 4, .slice none 0 0, .int .i64 0, .int .i64 0, .slice none 0 0])) := hid (by rw [hcd]; exact ⟨_, _, rfl, bn.nil _ _ _, aX.nil _ _ _⟩)
      obtain ⟨cd, hcdd⟩ : ∃ cd, cd = candP s.data.toList := ⟨_, rfl⟩
      rw [← hcdd] at hcd hnm HF HCR
      have ho9 : cd.o.length ≤ 10000 := by rw [hcd]; simp
      have hw9 : cd.w.length ≤ 10000 := by rw [hcd]; simp
      have hsz9 := HCB.out.size
      have HTX := hid (aT _ _ cd _ W HF.out hnm (.inl ho9) hw9 ((HW.out.2.2.2.1.below (HCB.out.old.mono (by omega))).mono (by omega)))
      obtain ⟨CT, hCT⟩ : ∃ CT : ByteArray, CT = ⟨cd.text.toArray⟩ := ⟨_, rfl⟩
      rw [← hCT] at HTX
      have hCd : (CT.toList == s.toList) = decide (cd.text = s.data.toList) := by rw [hCT, ByteArray.toList_eq, ByteArray.toList_eq, Bool.eq_iff_iff]; simp
      obtain ⟨d0, d1, d2, d3, d4, _⟩ := HCB.out.cells
      clear hCT hcd hnm hcdd ho9 hw9
      go_wp2_with fail
      refine HTX.out.mono ?_
      rintro e w9 ⟨rfl, hb9⟩
      have H9 := hid (HCB.out.below hb9)
      have HF9 := hid (HF.out.below hb9 nl)
      have g9 := (H9.out.old.block w.heap.size hlc).trans HW.out.2.2.1
      clear hb9 d0 d1 d2 d3 d4
      by_cases hq : cd.text = s.data.toList
      ·have t9 : (CT.toList == s.toList) = true := by rw [hCd]; simpa using hq
       have HE : Hid (crtRead s.data.toList = some cd) := hid (by rw [HCR.out, if_pos hq])
       obtain ⟨d0, d1, d2, d3, d4, _⟩ := H9.out.cells
       clear hq hCd
       go_wp2_with (refine wpList_store_row rfl 25 (.tmp 2) (.tmp 88) rfl rfl w.heap.size rfl _ rfl 25 _ g9 (by kernel_rfl) rfl (by simp [Value.oneCell']) ?_)
       refine bodyPost_ret (v := .tuple #[.agg #[.int .i64 4, .slice none 0 0, .int .i64 0, .int .i64 0, .slice none 0 0], .int .i64 0]) (aa rfl _ _ w.heap.size 25 _ _ _ _ rfl (setRow_heap _ _ _ _ _ _ g9) Tryz.underlying25 rfl (by kernel_rfl) rfl) rfl ?_
       rw [HE.out]
       exact ⟨_, rfl, (HF9.out.keep (aC (g := w.heap.size) (fun h => by have h : _ ≤ w.heap.size := h; omega)) (fun b _ hb => by have hb : _ ≤ b := hb; show _ ≤ b; omega)), below_setRow (HW.out.2.1.trans (H9.out.old.mono (by omega))) _ _ nl⟩
      ·have t9 : (CT.toList == s.toList) = false := by rw [hCd]; simpa using hq
       have HE : Hid (crtRead s.data.toList = none) := hid (by rw [HCR.out, if_neg hq])
       clear hq hCd
       go_wp2_with (refine wpList_store_row rfl 25 (.tmp 2) (.tmp 87) rfl rfl w.heap.size rfl _ rfl 25 _ g9 (by kernel_rfl) rfl (by simp [Value.oneCell']) ?_)
       exact bodyPost_ret (v := .tuple #[.agg #[.int .i64 0, .slice none 0 0, .int .i64 0, .int .i64 0, .slice none 0 0], .int .i64 280]) (aa rfl _ _ w.heap.size 25 _ _ _ _ rfl (setRow_heap _ _ _ _ _ _ g9) Tryz.underlying25 rfl (by kernel_rfl) rfl) rfl (aA HE.out (below_setRow (HW.out.2.1.trans (H9.out.old.mono (by omega))) _ _ nl))
  ·have t4 : (kk == 4) = false := by simpa using h4
   have n1 : ¬ (dm x = 1 ∧ mo = true) := fun h => HN1.out (HKK.out.trans h.1)
   have n4 : ¬ (dm x = 4 ∧ mo = true) := fun h => h4 (HKK.out.trans h.1)
   clear h4
   by_cases h2 : l.length = 2
   ·obtain ⟨A, B, hAB⟩ : ∃ A B, l = [A, B] := by
     match l, h2 with
     | [A, B], _ => exact ⟨A, B, rfl⟩
    subst hAB
    have HC : Hid (candP s.data.toList = ⟨kk, [], aF A, aF B, []⟩) := hid (by rw [nV HX0.out.1 n1 n4 HLL.out.symm, ← HKK.out])
    have HNE : Hid (s.data.toList ≠ []) := hid (fun e => by have h1 := HX0.out.1; rw [e] at h1; have h5 : (([] : List UInt8), ([] : List UInt8), false) = (x, r, _) := h1; simp only [Prod.mk.injEq] at h5; have h6 := HLL.out; rw [← h5.2.1] at h6; have h7 := congrArg List.length h6; simp [Go.Proofs.YtagnalfkmdjajaaGreatDoor.cuts] at h7)
    have t0 : s.toList.isEmpty = false := by
     rw [ByteArray.toList_eq]
     cases e : s.data.toList with
     | nil => exact absurd e HNE.out
     | cons _ _ => rfl
    have hsz5 := HCB.out.size
    have HWH := hid (jG _ [A, B] _ W HRS.out (by simp) (fun y hy => by have := HLE.out y hy; omega) (HW.out.2.2.2.1.mono (by omega)))
    clear k2 k3 f1 f2 f3 f4 h2
    go_wp2_with fail
    refine HWH.out.mono ?_
    rintro e w6 ⟨u, rfl, hown6, hb6⟩
    obtain ⟨ua, uc, rfl⟩ := ag hown6
    obtain ⟨g, rfl⟩ : ∃ g, ua = some ⟨g, 0, none⟩ := by
     rcases hown6.2 with ⟨e, _⟩ | ⟨g, _, _, e, _⟩
     ·injection e with _ e; cases e
     ·injection e with e; exact ⟨g, e⟩
    have H6 := hid (HCB.out.below hb6)
    obtain ⟨gg0, _, hgl, hge⟩ := fG hown6 0 (by simp)
    obtain ⟨gg1, _, _, _⟩ := fG hown6 1 (by simp)
    have g0 : w6.cell? ⟨g, 0, none⟩ = some (.int .i64 (aF A)) := gg0
    have g1 : w6.cell? ⟨g, 1, none⟩ = some (.int .i64 (aF B)) := gg1
    obtain ⟨_, _, c2, c3, _, cf⟩ := H6.out.cells
    have cf2 := cf 2
    have cf3 := cf 3
    have hgc : g < w6.heap.size := hgl
    have hcc := H6.out.lt
    have hgb : W.heap.size ≤ g := hge
    have hcW := HCB.out.lt
    clear hown6 hb6 HWH k0 k1 cf gg0 gg1
    go_upto_region 16 with fail
    have HS7 := hid (((H6.out.store 2 (.int .i64 (aF A))).store 3 (.int .i64 (aF B))).below br.drew)
    have hgn : ¬ g = cb := by omega
    have hgn' : ¬ cb = g := by omega
    go_region
    generalize ((w6.setCell ⟨cb, 2, none⟩ (.int .i64 (aF A))).setCell ⟨cb, 3, none⟩ (.int .i64 (aF B))).drew = w7 at HS7 ⊢
    have H7' : Hid (CB 25 cb (cb + 1) #[.int .i64 kk, .slice none 0 0, .int .i64 (aF A), .int .i64 (aF B), .slice none 0 0] 3 1 (.slice none 0 0) 0 ([]) W w7) := HS7
    clear g0 g1 c2 c3 cf2 cf3 HS7
    have HCR := hid (bV HNE.out)
    have hcd : candP s.data.toList = ⟨kk, [], aF A, aF B, []⟩ := HC.out
    have hnm := dL s.data.toList
    have HF : Hid (aL w7 (fun b => cb + 1 ≤ b) true (candP s.data.toList) (.agg #[.int .i64 kk, .slice none 0 0, .int .i64 (aF A), .int .i64 (aF B), .slice none 0 0])) := hid (by rw [hcd]; exact ⟨_, _, rfl, bn.nil _ _ _, aX.nil _ _ _⟩)
    obtain ⟨cd, hcdd⟩ : ∃ cd, cd = candP s.data.toList := ⟨_, rfl⟩
    rw [← hcdd] at hcd hnm HF HCR
    have ho9 : cd.o.length ≤ 10000 := by rw [hcd]; simp
    have hw9 : cd.w.length ≤ 10000 := by rw [hcd]; simp
    have hsz9 := H7'.out.size
    have HTX := hid (aT _ _ cd _ w7 HF.out hnm (.inl ho9) hw9 ((HW.out.2.2.2.1.below (H7'.out.old.mono (by omega))).mono (by omega)))
    obtain ⟨CT, hCT⟩ : ∃ CT : ByteArray, CT = ⟨cd.text.toArray⟩ := ⟨_, rfl⟩
    rw [← hCT] at HTX
    have hCd : (CT.toList == s.toList) = decide (cd.text = s.data.toList) := by rw [hCT, ByteArray.toList_eq, ByteArray.toList_eq, Bool.eq_iff_iff]; simp
    obtain ⟨d0, d1, d2, d3, d4, _⟩ := H7'.out.cells
    clear hCT hcd hnm hcdd ho9 hw9
    go_wp2_with fail
    refine HTX.out.mono ?_
    rintro e w9 ⟨rfl, hb9⟩
    have H9 := hid (H7'.out.below hb9)
    have HF9 := hid (HF.out.below hb9 nl)
    have g9 := (H9.out.old.block w.heap.size hlc).trans HW.out.2.2.1
    clear hb9 d0 d1 d2 d3 d4
    by_cases hq : cd.text = s.data.toList
    ·have t9 : (CT.toList == s.toList) = true := by rw [hCd]; simpa using hq
     have HE : Hid (crtRead s.data.toList = some cd) := hid (by rw [HCR.out, if_pos hq])
     obtain ⟨d0, d1, d2, d3, d4, _⟩ := H9.out.cells
     clear hq hCd
     go_wp2_with (refine wpList_store_row rfl 25 (.tmp 2) (.tmp 88) rfl rfl w.heap.size rfl _ rfl 25 _ g9 (by kernel_rfl) rfl (by simp [Value.oneCell']) ?_)
     refine bodyPost_ret (v := .tuple #[.agg #[.int .i64 kk, .slice none 0 0, .int .i64 (aF A), .int .i64 (aF B), .slice none 0 0], .int .i64 0]) (aa rfl _ _ w.heap.size 25 _ _ _ _ rfl (setRow_heap _ _ _ _ _ _ g9) Tryz.underlying25 rfl (by kernel_rfl) rfl) rfl ?_
     rw [HE.out]
     exact ⟨_, rfl, (HF9.out.keep (aC (g := w.heap.size) (fun h => by have h : _ ≤ w.heap.size := h; omega)) (fun b _ hb => by have hb : _ ≤ b := hb; show _ ≤ b; omega)), below_setRow (HW.out.2.1.trans (H9.out.old.mono (by omega))) _ _ nl⟩
    ·have t9 : (CT.toList == s.toList) = false := by rw [hCd]; simpa using hq
     have HE : Hid (crtRead s.data.toList = none) := hid (by rw [HCR.out, if_neg hq])
     clear hq hCd
     go_wp2_with (refine wpList_store_row rfl 25 (.tmp 2) (.tmp 87) rfl rfl w.heap.size rfl _ rfl 25 _ g9 (by kernel_rfl) rfl (by simp [Value.oneCell']) ?_)
     exact bodyPost_ret (v := .tuple #[.agg #[.int .i64 0, .slice none 0 0, .int .i64 0, .int .i64 0, .slice none 0 0], .int .i64 280]) (aa rfl _ _ w.heap.size 25 _ _ _ _ rfl (setRow_heap _ _ _ _ _ _ g9) Tryz.underlying25 rfl (by kernel_rfl) rfl) rfl (aA HE.out (below_setRow (HW.out.2.1.trans (H9.out.old.mono (by omega))) _ _ nl))
   ·have t2 : ((l.length : Int) == 2) = false := by simpa using (by omega : ¬ (l.length : Int) = 2)
    have HC : Hid (candP s.data.toList = ⟨kk, [], 0, 0, []⟩) := hid (by rw [rZ HX0.out.1 n1 n4 (by rw [← HLL.out]; exact h2), ← HKK.out])
    clear h2 k2 k3 f1 f2 f3 f4
    by_cases hs0 : s.data.toList = []
    ·have t0 : s.toList.isEmpty = true := by rw [ByteArray.toList_eq, hs0]; rfl
     have HE : Hid (crtRead s.data.toList = none) := hid (by rw [hs0]; exact iW)
     have g9 := HW.out.2.2.1
     clear hs0
     go_wp2_with (refine wpList_store_row rfl 25 (.tmp 2) (.tmp 87) rfl rfl w.heap.size rfl _ rfl 25 _ g9 (by kernel_rfl) rfl (by simp [Value.oneCell']) ?_)
     exact bodyPost_ret (v := .tuple #[.agg #[.int .i64 0, .slice none 0 0, .int .i64 0, .int .i64 0, .slice none 0 0], .int .i64 280]) (aa rfl _ _ w.heap.size 25 _ _ _ _ rfl (setRow_heap _ _ _ _ _ _ g9) Tryz.underlying25 rfl (by kernel_rfl) rfl) rfl (aA HE.out (below_setRow (HW.out.2.1.trans (HCB.out.old.mono (by omega))) _ _ nl))
    ·have HNE := hid hs0
     have t0 : s.toList.isEmpty = false := by
      rw [ByteArray.toList_eq]
      cases e : s.data.toList with
      | nil => exact absurd e hs0
      | cons _ _ => rfl
     clear hs0 k0 k1
     have HCR := hid (bV HNE.out)
     have hcd : candP s.data.toList = ⟨kk, [], 0, 0, []⟩ := HC.out
     have hnm := dL s.data.toList
     have HF : Hid (aL W (fun b => cb + 1 ≤ b) true (candP s.data.toList) (.agg #[.int .i64 kk, .slice none 0 0, .int .i64 0, .int .i64 0, .slice none 0 0])) := hid (by rw [hcd]; exact ⟨_, _, rfl, bn.nil _ _ _, aX.nil _ _ _⟩)
     obtain ⟨cd, hcdd⟩ : ∃ cd, cd = candP s.data.toList := ⟨_, rfl⟩
     rw [← hcdd] at hcd hnm HF HCR
     have ho9 : cd.o.length ≤ 10000 := by rw [hcd]; simp
     have hw9 : cd.w.length ≤ 10000 := by rw [hcd]; simp
     have hsz9 := HCB.out.size
     have HTX := hid (aT _ _ cd _ W HF.out hnm (.inl ho9) hw9 ((HW.out.2.2.2.1.below (HCB.out.old.mono (by omega))).mono (by omega)))
     obtain ⟨CT, hCT⟩ : ∃ CT : ByteArray, CT = ⟨cd.text.toArray⟩ := ⟨_, rfl⟩
     rw [← hCT] at HTX
     have hCd : (CT.toList == s.toList) = decide (cd.text = s.data.toList) := by rw [hCT, ByteArray.toList_eq, ByteArray.toList_eq, Bool.eq_iff_iff]; simp
     obtain ⟨d0, d1, d2, d3, d4, _⟩ := HCB.out.cells
     clear hCT hcd hnm hcdd ho9 hw9
     go_wp2_with fail
     refine HTX.out.mono ?_
     rintro e w9 ⟨rfl, hb9⟩
     have H9 := hid (HCB.out.below hb9)
     have HF9 := hid (HF.out.below hb9 nl)
     have g9 := (H9.out.old.block w.heap.size hlc).trans HW.out.2.2.1
     clear hb9 d0 d1 d2 d3 d4
     by_cases hq : cd.text = s.data.toList
     ·have t9 : (CT.toList == s.toList) = true := by rw [hCd]; simpa using hq
      have HE : Hid (crtRead s.data.toList = some cd) := hid (by rw [HCR.out, if_pos hq])
      obtain ⟨d0, d1, d2, d3, d4, _⟩ := H9.out.cells
      clear hq hCd
      go_wp2_with (refine wpList_store_row rfl 25 (.tmp 2) (.tmp 88) rfl rfl w.heap.size rfl _ rfl 25 _ g9 (by kernel_rfl) rfl (by simp [Value.oneCell']) ?_)
      refine bodyPost_ret (v := .tuple #[.agg #[.int .i64 kk, .slice none 0 0, .int .i64 0, .int .i64 0, .slice none 0 0], .int .i64 0]) (aa rfl _ _ w.heap.size 25 _ _ _ _ rfl (setRow_heap _ _ _ _ _ _ g9) Tryz.underlying25 rfl (by kernel_rfl) rfl) rfl ?_
      rw [HE.out]
      exact ⟨_, rfl, (HF9.out.keep (aC (g := w.heap.size) (fun h => by have h : _ ≤ w.heap.size := h; omega)) (fun b _ hb => by have hb : _ ≤ b := hb; show _ ≤ b; omega)), below_setRow (HW.out.2.1.trans (H9.out.old.mono (by omega))) _ _ nl⟩
     ·have t9 : (CT.toList == s.toList) = false := by rw [hCd]; simpa using hq
      have HE : Hid (crtRead s.data.toList = none) := hid (by rw [HCR.out, if_neg hq])
      clear hq hCd
      go_wp2_with (refine wpList_store_row rfl 25 (.tmp 2) (.tmp 87) rfl rfl w.heap.size rfl _ rfl 25 _ g9 (by kernel_rfl) rfl (by simp [Value.oneCell']) ?_)
      exact bodyPost_ret (v := .tuple #[.agg #[.int .i64 0, .slice none 0 0, .int .i64 0, .int .i64 0, .slice none 0 0], .int .i64 280]) (aa rfl _ _ w.heap.size 25 _ _ _ _ rfl (setRow_heap _ _ _ _ _ _ g9) Tryz.underlying25 rfl (by kernel_rfl) rfl) rfl (aA HE.out (below_setRow (HW.out.2.1.trans (H9.out.old.mono (by omega))) _ _ nl))
end Go.Proofs.YtagnalfkmdjajaaGreatDoor
