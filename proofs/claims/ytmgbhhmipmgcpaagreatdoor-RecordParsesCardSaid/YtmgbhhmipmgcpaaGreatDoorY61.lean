/- Walks. -/
import Derived.Test.YtmgbhhmipmgcpaaGreatDoorYV45
import Derived.Test.YtmgbhhmipmgcpaaGreatDoorYW46
import Derived.Laws.IdiomStrings
set_option maxHeartbeats 8000000
set_option maxRecDepth 100000
namespace Go.Proofs.YtmgbhhmipmgcpaaGreatDoor
open Go.RowKit Go
set_option linter.unusedVariables false
set_option linter.unusedSimpArgs false
def Kp (n : Nat) (w w' : World) : Prop := ∀ b, n ≤ b → w'.heap[b]? = w.heap[b]?
theorem Kp.refl (n : Nat) (w : World) : Kp n w w := fun _ _ => rfl
theorem Kp.set {n g o : Nat} {w w' : World} (h : Kp n w w') (hg : g < n) (v : Value) : Kp n w (w'.setCell ⟨g, o, none⟩ v) := fun b hb => (Below.heap_setCell _ _ _ _ (by show b ≠ g; omega)).trans (h b hb)
theorem Kp.drew {n : Nat} {w w' : World} (h : Kp n w w') : Kp n w w'.drew := h
theorem wL {b q : List UInt8} {t : Nat} (h : nsO 1 b = some ([t], q)) : bA 5 b = (aZ (bR (some q)).1).bind fun p => (iX (bR (some q)).2).bind fun es => if es.2 = [] then some ⟨5, t, 0, 0, 0, 0, p, es.1⟩ else none := by
 have hn : ∀ l : List UInt8, ((aZ l).bind fun p => (iX none).bind fun es => if es.2 = [] then some (⟨5, t, 0, 0, 0, 0, p, es.1⟩ : Rec) else none) = none := by
  intro l
  cases aZ l <;> rfl
 unfold bA
 rw [show kE 5 = 1 from rfl, h]
 simp only [Option.bind_some]
 rw [if_neg (by omega), if_neg (by omega), if_neg (by omega), if_pos trivial]
 cases hg : aK q with
 | none =>
  have : bR (some q) = ([], none) := by simp [bR, aW, hg, bX]
  rw [this]
  exact (hn _).symm
 | some x =>
  obtain ⟨m, r⟩ := x
  simp only [Option.bind_some]
  by_cases hm : m ≤ r.length
  ·have : bR (some q) = (r.take m, some (r.drop m)) := by simp [bR, aW, hg, bX, hm]
   rw [this, if_pos hm]
   cases aZ (r.take m) with
   | none => rfl
   | some p =>
    simp only [Option.bind_some]
    cases hg2 : aK (r.drop m) with
    | none => simp [iX, aW, hg2]
    | some c => simp [iX, aW, hg2]
  ·have : bR (some q) = ([], none) := by simp [bR, aW, hg, bX, hm]
   rw [this, if_neg hm]
   exact (hn _).symm
theorem Cm {n g : Nat} {w Y : World} (v0 v1 v2 v3 v4 v5 v6 v7 v8 v9 v10 : Value) (hk : Kp n w Y) (hg : g < n) : Kp n w (((((((((((Y.setCell ⟨g, 0, none⟩ (v0)).setCell ⟨g, 1, none⟩ (v1)).setCell ⟨g, 2, none⟩ (v2)).setCell ⟨g, 3, none⟩ (v3)).setCell ⟨g, 4, none⟩ (v4)).setCell ⟨g, 5, none⟩ (v5)).setCell ⟨g, 6, none⟩ (v6)).setCell ⟨g, 7, none⟩ (v7)).setCell ⟨g, 8, none⟩ (v8)).setCell ⟨g, 9, none⟩ (v9)).setCell ⟨g, 10, none⟩ (v10)) := ((((((((((hk.set hg _).set hg _).set hg _).set hg _).set hg _).set hg _).set hg _).set hg _).set hg _).set hg _).set hg _
theorem kp3 {n g : Nat} {w Y : World} (v0 v1 v2 : Value) (hk : Kp n w Y) (hg : g < n) : Kp n w (((Y.setCell ⟨g, 0, none⟩ (v0)).setCell ⟨g, 1, none⟩ (v1)).setCell ⟨g, 2, none⟩ (v2)) := ((hk.set hg _).set hg _).set hg _
theorem zM (B : ByteArray) (w : World) (hB : B.size ≤ 700) : Calls Tryz.prog 35 #[.int .i64 5, .string B] w (uS 5 B.data.toList w) := by
 have HX : Hid (Pr5 B w #[.int .i64 5, .int .u64 0, .int .u64 0, .int .u64 0, .int .u64 0, .int .u64 0, .int .i64 0, .int .u64 0, .int .u64 0, .slice none 0 0, .slice none 0 0] 0 0 ((((w.alloc (.cells #[.int .i64 0, .int .u64 0, .int .u64 0, .int .u64 0, .int .u64 0, .int .u64 0, .int .i64 0, .int .u64 0, .int .u64 0, .slice none 0 0, .slice none 0 0] 37)).alloc (.cells #[.string B, .int .i64 0, .int .i64 0] 135)).alloc (.cells #[.int .i64 5, .int .u64 0, .int .u64 0, .int .u64 0, .int .u64 0, .int .u64 0, .int .i64 0, .int .u64 0, .int .u64 0, .slice none 0 0, .slice none 0 0] 37)).alloc (.cells #[.int .i64 0, .int .i64 1, .int .i64 4, .int .i64 3, .int .i64 2, .int .i64 1, .int .i64 1, .int .i64 1] 3))) := hid (by
  refine ⟨(((br.alloc nl _).alloc (by simp) _).alloc (by simp; omega) _).alloc (by simp; omega) _, ?_, ?_, ?_⟩
  ·exact (ae _ _ _ (by simp; omega)).trans ((ae _ _ _ (by simp; omega)).trans ((ae _ _ _ (by simp)).trans (aa _ _ _ rfl)))
  ·exact (ae _ _ _ (by simp)).trans ((ae _ _ _ (by simp)).trans (aa _ _ _ (by simp)))
  ·exact (ae _ _ _ (by simp)).trans (aa _ _ _ (by simp)))
 go_enter Tryz.func35, Tryz.ntmps35
 go_upto_region 4 with fail
 generalize ((((w.alloc (.cells #[.int .i64 0, .int .u64 0, .int .u64 0, .int .u64 0, .int .u64 0, .int .u64 0, .int .i64 0, .int .u64 0, .int .u64 0, .slice none 0 0, .slice none 0 0] 37)).alloc (.cells #[.string B, .int .i64 0, .int .i64 0] 135)).alloc (.cells #[.int .i64 5, .int .u64 0, .int .u64 0, .int .u64 0, .int .u64 0, .int .u64 0, .int .i64 0, .int .u64 0, .int .u64 0, .slice none 0 0, .slice none 0 0] 37)).alloc (.cells #[.int .i64 0, .int .i64 1, .int .i64 4, .int .i64 3, .int .i64 2, .int .i64 1, .int .i64 1, .int .i64 1] 3)) = X at HX ⊢
 obtain ⟨c0, c1, c2⟩ := dW HX.out.r6
 go_wp2_with fail
 refine (bL B (some B.data.toList) 0 0 1 X (by omega) (by omega) (fK B)).mono ?_
 rintro ex w1 ⟨a1, e1, sv, rfl, h1, hsl, hb1⟩
 have H1 := hid (HX.out.below hb1)
 have HSL := hid hsl
 have lX : w.heap.size + 2 < X.heap.size := (Array.getElem?_eq_some_iff.1 HX.out.r7).1
 have HLX := hid lX
 clear hb1 c0 c1 c2 HX hsl lX
 obtain ⟨d0, d1, d2⟩ := dW H1.out.r6
 have zz := dw H1.out.r6
 have z0 := zz 0
 have z1 := zz 1
 have z2 := zz 2
 clear zz
 go_upto_region 5 with fail
 have H2 := hid (H1.out.set6 a1 e1)
 have HSL2 : Hid (Sl (((w1.setCell ⟨w.heap.size + 1, 0, none⟩ (.string B)).setCell ⟨w.heap.size + 1, 1, none⟩ (.int .i64 a1)).setCell ⟨w.heap.size + 1, 2, none⟩ (.int .i64 e1)) (fun b => X.heap.size ≤ b) true 1 (nsS 1 (some B.data.toList)).1.length (aX (nsS 1 (some B.data.toList)).1) sv) := hid (Sl.keep HSL.out (by omega) (fun b hb hl => (eH (.string B) (.int .i64 a1) (.int .i64 e1) H1.out.r6).2 b (by have hb : X.heap.size ≤ b := hb; have := HLX.out; show b ≠ _; omega) hl) (fun _ _ h => h))
 generalize (((w1.setCell ⟨w.heap.size + 1, 0, none⟩ (.string B)).setCell ⟨w.heap.size + 1, 1, none⟩ (.int .i64 a1)).setCell ⟨w.heap.size + 1, 2, none⟩ (.int .i64 e1)) = w2 at H2 HSL2 ⊢
 clear d0 d1 d2 z0 z1 z2 H1 HSL
 have s2 : w2.cell? ⟨w.heap.size + 1, 2, none⟩ = some (.int .i64 e1) := by rw [cell_of_row w2 _ 2 _ _ _ H2.out.r6]; rfl
 cases hns : nsO 1 B.data.toList with
 | none =>
  have he : (e1 == 0) = false := by have := h1; rw [dH.1 hns] at this; exact this
  have he2 : (e1 != 0) = true := by simp [bne, he]
  have HN : Hid (bA 5 B.data.toList = none) := hid (fM hns)
  have g4 := H2.out.r4
  have r7 := H2.out.r7
  obtain ⟨x0, x1, x2, x3, x4, x5, x6, x7, x8, x9, x10⟩ := bG (g := w.heap.size + 2) r7
  clear r7 hns h1
  go_wp2_with (refine wpList_store_row rfl 37 (.tmp 4) (.tmp 34) rfl rfl w.heap.size rfl _ rfl 37 _ g4 (by kernel_rfl) rfl (by simp [Value.oneCell']) ?_)
  refine bodyPost_ret (v := .tuple #[.agg #[.int .i64 5, .int .u64 0, .int .u64 0, .int .u64 0, .int .u64 0, .int .u64 0, .int .i64 0, .int .u64 0, .int .u64 0, .slice none 0 0, .slice none 0 0], .bool false]) (ah rfl _ _ w.heap.size 37 _ _ _ _ rfl (setRow_heap _ _ _ _ _ _ g4) Tryz.underlying37 rfl (by kernel_rfl) rfl) rfl ?_
  exact ⟨_, false, rfl, rfl, by simp [Value.oneCell'], below_setRow H2.out.bel _ _ nl, by rw [HN.out]; rfl, fun r h => by rw [HN.out] at h; cases h⟩
 | some p =>
  obtain ⟨xs, q⟩ := p
  have hn2 := dV.1 hns
  have hxl : xs.length = 1 := by have := gN 1 _ q (by rw [hn2]); rw [hn2] at this; exact this
  have hsl2 := HSL2.out
  rw [hn2] at h1 hsl2
  obtain ⟨he0, m, hm, hm2, hq⟩ := h1
  subst he0 hm
  have hlts : ∀ x ∈ xs, x < 18446744073709551616 := jR hns
  have HQ := hid (And.intro hm2 hq)
  have HNS := hid hns
  clear hn2 hm2 hq hns HSL2
  obtain ⟨t, rfl⟩ : ∃ t : Nat, xs = [t] := by
   match xs, hxl with
   | [t], _ => exact ⟨t, rfl⟩
  obtain ⟨_, _, la, lc, rfl, _⟩ := Sl.shape hsl2
  obtain ⟨lb, lo, rfl, hlb, hlc⟩ := Sl.cells hsl2 (by simp)
  have l0 : w2.cell? ⟨lb, lo, none⟩ = some (.int .u64 (t : Nat)) := by have := (hlc 0 (by simp [aX])).1; simpa [aX] using this
  have hlb2 : X.heap.size ≤ lb := hlb
  have lX := HLX.out
  have n1 : ¬ lb = w.heap.size + 2 := by omega
  have n2 : ¬ w.heap.size + 2 = lb := by omega
  rw [show [t].length = 1 from rfl]
  have r7 := H2.out.r7
  have x1 : w2.cell? ⟨w.heap.size + 2, 1, none⟩ = _ := cell_of_row w2 _ 1 _ _ _ r7
  have xf1 : w2.frozen? ⟨w.heap.size + 2, 1, none⟩ = false := by rw [frozen_of_row w2 _ 1 _ _ r7]
  have lw2 : w.heap.size + 2 < w2.heap.size := (Array.getElem?_eq_some_iff.1 r7).1
  have HLW2 := hid lw2
  clear hsl2 hlc hlb r7 hlb2 lX hxl lw2
  go_upto_region 18 with fail
  have H3 : Hid (Pr5 B w #[.int .i64 5, .int .u64 (t : Nat), .int .u64 0, .int .u64 0, .int .u64 0, .int .u64 0, .int .i64 0, .int .u64 0, .int .u64 0, .slice none 0 0, .slice none 0 0] (m : Int) 0 (w2.setCell ⟨w.heap.size + 1 + 1, 1, none⟩ (.int .u64 (t : Nat)))) := hid (H2.out.set7 1 (.int .u64 (t : Nat)))
  generalize (w2.setCell ⟨w.heap.size + 1 + 1, 1, none⟩ (.int .u64 (t : Nat))) = w3 at H3 ⊢
  clear H2 x1 xf1 s2 l0 n1 n2 HLW2
  have lw3 : w.heap.size + 2 < w3.heap.size := (Array.getElem?_eq_some_iff.1 H3.out.r7).1
  have r6 := H3.out.r6
  have y0 : w3.cell? ⟨w.heap.size + 1, 0, none⟩ = some (.string B) := by rw [cell_of_row w3 _ 0 _ _ _ r6]; rfl
  have y1 : w3.cell? ⟨w.heap.size + 1, 1, none⟩ = some (.int .i64 (m : Int)) := by rw [cell_of_row w3 _ 1 _ _ _ r6]; rfl
  have y2 : w3.cell? ⟨w.heap.size + 1, 2, none⟩ = some (.int .i64 0) := by rw [cell_of_row w3 _ 2 _ _ _ r6]; rfl
  clear r6
  have HLW3 := hid lw3
  clear lw3
  go_wp2_with fail
  refine (sW B (some q) (m : Int) 0 w3 (by omega) ⟨rfl, m, rfl, HQ.out.1, HQ.out.2⟩).mono ?_
  rintro ex w4 ⟨a4, e4, bv, rfl, h4, hbv, hb4⟩
  have hz4 := hb4.size
  have H4 := hid (H3.out.below hb4)
  obtain ⟨txt, htxt⟩ : ∃ x, x = (bR (some q)).1 := ⟨_, rfl⟩
  obtain ⟨st4, hst4⟩ : ∃ x, x = (bR (some q)).2 := ⟨_, rfl⟩
  rw [← htxt] at hbv
  rw [← hst4] at h4
  have htl : txt.length ≤ 700 := by rw [htxt]; exact qZ (n := 700) (fun r hr => by cases hr; rw [HQ.out.2, List.length_drop, ai]; omega)
  have HTX := hid (And.intro htxt.symm hst4.symm)
  have HR4 := hid h4
  obtain ⟨_, ba4, bc4, rfl, _⟩ := hbv.shape
  clear y0 y1 y2 hb4 H3 htxt hst4 h4
  go_upto_region 19 with fail
  have hb45 : Below w4.heap.size w4 (w4.alloc (.cells #[.string B, .int .i64 a4, .int .i64 e4] 135)) := br.alloc nl _
  have H5 : Hid (Pr5 B w #[.int .i64 5, .int .u64 (t : Nat), .int .u64 0, .int .u64 0, .int .u64 0, .int .u64 0, .int .i64 0, .int .u64 0, .int .u64 0, .slice none 0 0, .slice none 0 0] (m : Int) 0 (w4.alloc (.cells #[.string B, .int .i64 a4, .int .i64 e4] 135)) ∧ (w4.alloc (.cells #[.string B, .int .i64 a4, .int .i64 e4] 135)).heap[w4.heap.size]? = some (.cells #[.string B, .int .i64 a4, .int .i64 e4] 135 (0, 0)) ∧ ay (w4.alloc (.cells #[.string B, .int .i64 a4, .int .i64 e4] 135)) (fun b => w3.heap.size ≤ b) false txt (.slice ba4 txt.length bc4) ∧ (w4.alloc (.cells #[.string B, .int .i64 a4, .int .i64 e4] 135)).heap.size = w4.heap.size + 1) := hid ⟨H4.out.below hb45, aa _ _ _ rfl, hbv.below hb45 nl, World.size_alloc _ _⟩
  generalize (w4.alloc (.cells #[.string B, .int .i64 a4, .int .i64 e4] 135)) = w5 at H5 ⊢
  have hz5 := H5.out.2.2.2
  clear hb45 hbv H4
  go_wp2_with fail
  refine (sD _ _ txt _ w5 H5.out.2.2.1 (by omega)).mono ?_
  rintro ex w6 ⟨pv, rfl, hp, hb6⟩
  obtain ⟨c0, c1, c2, c3, c4, c5, rfl⟩ := hp.conc
  have hz6 := hb6.size
  go_upto_region 20 with fail
  have hb67 : Below w6.heap.size w6 (w6.alloc (.cells #[.int .i64 c0, .int .u64 (c1 : Nat), .int .u64 (c2 : Nat), .slice c3 c4 c5] 34)) := br.alloc nl _
  have H7 : Hid (Pr5 B w #[.int .i64 5, .int .u64 (t : Nat), .int .u64 0, .int .u64 0, .int .u64 0, .int .u64 0, .int .i64 0, .int .u64 0, .int .u64 0, .slice none 0 0, .slice none 0 0] (m : Int) 0 (w6.alloc (.cells #[.int .i64 c0, .int .u64 (c1 : Nat), .int .u64 (c2 : Nat), .slice c3 c4 c5] 34)) ∧ (w6.alloc (.cells #[.int .i64 c0, .int .u64 (c1 : Nat), .int .u64 (c2 : Nat), .slice c3 c4 c5] 34)).heap[w4.heap.size]? = some (.cells #[.string B, .int .i64 a4, .int .i64 e4] 135 (0, 0)) ∧ (w6.alloc (.cells #[.int .i64 c0, .int .u64 (c1 : Nat), .int .u64 (c2 : Nat), .slice c3 c4 c5] 34)).heap[w6.heap.size]? = some (.cells #[.int .i64 c0, .int .u64 (c1 : Nat), .int .u64 (c2 : Nat), .slice c3 c4 c5] 34 (0, 0)) ∧ ak (w6.alloc (.cells #[.int .i64 c0, .int .u64 (c1 : Nat), .int .u64 (c2 : Nat), .slice c3 c4 c5] 34)) (fun b => w5.heap.size ≤ b) true ((aZ txt).getD .zero) (.agg #[.int .i64 c0, .int .u64 (c1 : Nat), .int .u64 (c2 : Nat), .slice c3 c4 c5]) ∧ (w6.alloc (.cells #[.int .i64 c0, .int .u64 (c1 : Nat), .int .u64 (c2 : Nat), .slice c3 c4 c5] 34)).heap.size = w6.heap.size + 1) := hid ⟨(H5.out.1.below hb6).below (hb67.mono nl), (hb67.block _ (by omega)).trans ((hb6.block _ (by omega)).trans H5.out.2.1), aa _ _ _ rfl, ak.below hp hb67 nl, World.size_alloc _ _⟩
  generalize (w6.alloc (.cells #[.int .i64 c0, .int .u64 (c1 : Nat), .int .u64 (c2 : Nat), .slice c3 c4 c5] 34)) = w7 at H7 ⊢
  have hz7 := H7.out.2.2.2.2
  have r4 := H7.out.2.1
  have y0 : w7.cell? ⟨w4.heap.size, 0, none⟩ = some (.string B) := by rw [cell_of_row w7 _ 0 _ _ _ r4]; rfl
  have y1 : w7.cell? ⟨w4.heap.size, 1, none⟩ = some (.int .i64 a4) := by rw [cell_of_row w7 _ 1 _ _ _ r4]; rfl
  have y2 : w7.cell? ⟨w4.heap.size, 2, none⟩ = some (.int .i64 e4) := by rw [cell_of_row w7 _ 2 _ _ _ r4]; rfl
  clear hb67 hp hb6 H5 r4
  go_wp2_with fail
  refine (pJ B st4 a4 e4 w7 (by omega) HR4.out).mono ?_
  rintro ex w8 ⟨a8, e8, sv, ok, rfl, hb8, hno, hyes⟩
  have hz8 := hb8.size
  clear y0 y1 y2
  go_upto_region 21 with fail
  have hb89 : Below w8.heap.size w8 (w8.alloc (.cells #[.string B, .int .i64 a8, .int .i64 e8] 135)) := br.alloc nl _
  have H9 : Hid (Pr5 B w #[.int .i64 5, .int .u64 (t : Nat), .int .u64 0, .int .u64 0, .int .u64 0, .int .u64 0, .int .i64 0, .int .u64 0, .int .u64 0, .slice none 0 0, .slice none 0 0] (m : Int) 0 (w8.alloc (.cells #[.string B, .int .i64 a8, .int .i64 e8] 135)) ∧ (w8.alloc (.cells #[.string B, .int .i64 a8, .int .i64 e8] 135)).heap[w8.heap.size]? = some (.cells #[.string B, .int .i64 a8, .int .i64 e8] 135 (0, 0)) ∧ (w8.alloc (.cells #[.string B, .int .i64 a8, .int .i64 e8] 135)).heap[w6.heap.size]? = some (.cells #[.int .i64 c0, .int .u64 (c1 : Nat), .int .u64 (c2 : Nat), .slice c3 c4 c5] 34 (0, 0)) ∧ ak (w8.alloc (.cells #[.string B, .int .i64 a8, .int .i64 e8] 135)) (fun b => w5.heap.size ≤ b) true ((aZ txt).getD .zero) (.agg #[.int .i64 c0, .int .u64 (c1 : Nat), .int .u64 (c2 : Nat), .slice c3 c4 c5]) ∧ ∀ x, iX st4 = some x → ok = true ∧ RdA B (some x.2) a8 e8 ∧ ed (w8.alloc (.cells #[.string B, .int .i64 a8, .int .i64 e8] 135)) (fun b => w7.heap.size ≤ b) true x.1 sv) := hid ⟨(H7.out.1.below hb8).below hb89, aa _ _ _ rfl, (hb89.block _ (by omega)).trans ((hb8.block _ (by omega)).trans H7.out.2.2.1), ak.below (ak.below H7.out.2.2.2.1 hb8 nl) hb89 nl, fun x hx => ⟨(hyes x hx).1, (hyes x hx).2.1, (hyes x hx).2.2.below hb89 nl⟩⟩
  have hz9 : (w8.alloc (.cells #[.string B, .int .i64 a8, .int .i64 e8] 135)).heap.size = w8.heap.size + 1 := World.size_alloc _ _
  generalize (w8.alloc (.cells #[.string B, .int .i64 a8, .int .i64 e8] 135)) = w9 at H9 hz9 ⊢
  have HNO := hid hno
  clear hb89 hyes hb8 H7 hno
  cases hT : aZ txt with
  | none =>
   rw [show code none = 40 from rfl]
   have HN : Hid (bA 5 B.data.toList = none) := hid (by rw [wL HNS.out, HTX.out.1, HTX.out.2, hT]; rfl)
   have r4 := H9.out.1.r4
   have r7 := H9.out.1.r7
   obtain ⟨x0, x1, x2, x3, x4, x5, x6, x7, x8, x9, x10⟩ := bG (g := w.heap.size + 1 + 1) r7
   clear r7
   go_wp2_with (refine wpList_store_row rfl 37 (.tmp 4) (.tmp 94) rfl rfl w.heap.size rfl _ rfl 37 _ r4 (by kernel_rfl) rfl (by simp [Value.oneCell']) ?_)
   refine bodyPost_ret (v := .tuple #[.agg #[.int .i64 5, .int .u64 (t : Nat), .int .u64 0, .int .u64 0, .int .u64 0, .int .u64 0, .int .i64 0, .int .u64 0, .int .u64 0, .slice none 0 0, .slice none 0 0], .bool false]) (ah rfl _ _ w.heap.size 37 _ _ _ _ rfl (setRow_heap _ _ _ _ _ _ r4) Tryz.underlying37 rfl (by kernel_rfl) rfl) rfl ?_
   exact ⟨_, false, rfl, rfl, by simp [Value.oneCell'], below_setRow H9.out.1.bel _ _ nl, by rw [HN.out]; rfl, fun r h => by rw [HN.out] at h; cases h⟩
  | some p =>
   rw [show code (some p) = 0 from rfl]
   cases hE : iX st4 with
   | none =>
    obtain rfl := HNO.out hE
    have HN : Hid (bA 5 B.data.toList = none) := hid (by rw [wL HNS.out, HTX.out.1, HTX.out.2, hT, hE]; rfl)
    have r4 := H9.out.1.r4
    have r7 := H9.out.1.r7
    obtain ⟨x0, x1, x2, x3, x4, x5, x6, x7, x8, x9, x10⟩ := bG (g := w.heap.size + 1 + 1) r7
    clear r7
    go_wp2_with (refine wpList_store_row rfl 37 (.tmp 4) (.tmp 94) rfl rfl w.heap.size rfl _ rfl 37 _ r4 (by kernel_rfl) rfl (by simp [Value.oneCell']) ?_)
    refine bodyPost_ret (v := .tuple #[.agg #[.int .i64 5, .int .u64 (t : Nat), .int .u64 0, .int .u64 0, .int .u64 0, .int .u64 0, .int .i64 0, .int .u64 0, .int .u64 0, .slice none 0 0, .slice none 0 0], .bool false]) (ah rfl _ _ w.heap.size 37 _ _ _ _ rfl (setRow_heap _ _ _ _ _ _ r4) Tryz.underlying37 rfl (by kernel_rfl) rfl) rfl ?_
    exact ⟨_, false, rfl, rfl, by simp [Value.oneCell'], below_setRow H9.out.1.bel _ _ nl, by rw [HN.out]; rfl, fun r h => by rw [HN.out] at h; cases h⟩
   | some es =>
    obtain ⟨hok, hrd, hsv⟩ := H9.out.2.2.2.2 es hE
    subst hok
    obtain ⟨he8, n8, ha8, hn8, hq8⟩ := hrd
    subst he8 ha8
    obtain ⟨_, sa, sc, rfl, _⟩ := hsv.shape
    have hfr : bA 5 B.data.toList = if es.2 = [] then some ⟨5, t, 0, 0, 0, 0, p, es.1⟩ else none := by rw [wL HNS.out, HTX.out.1, HTX.out.2, hT, hE]; rfl
    have hpe := H9.out.2.2.2.1
    rw [hT, Option.getD_some] at hpe
    have HFR := hid (And.intro hfr (And.intro hn8 (And.intro hq8 (And.intro hpe hsv))))
    have r9 := H9.out.2.1
    have y0 : w9.cell? ⟨w8.heap.size, 0, none⟩ = some (.string B) := by rw [cell_of_row w9 _ 0 _ _ _ r9]; rfl
    have y1 : w9.cell? ⟨w8.heap.size, 1, none⟩ = some (.int .i64 (n8 : Int)) := by rw [cell_of_row w9 _ 1 _ _ _ r9]; rfl
    have y2 : w9.cell? ⟨w8.heap.size, 2, none⟩ = some (.int .i64 0) := by rw [cell_of_row w9 _ 2 _ _ _ r9]; rfl
    have r6 := H9.out.1.r6
    have yc0 : w9.cell? ⟨w.heap.size + 1, 0, none⟩ = some (.string B) := by rw [cell_of_row w9 _ 0 _ _ _ r6]; rfl
    have yc1 : w9.cell? ⟨w.heap.size + 1, 1, none⟩ = some (.int .i64 (m : Int)) := by rw [cell_of_row w9 _ 1 _ _ _ r6]; rfl
    have yc2 : w9.cell? ⟨w.heap.size + 1, 2, none⟩ = some (.int .i64 0) := by rw [cell_of_row w9 _ 2 _ _ _ r6]; rfl
    have yf0 : w9.frozen? ⟨w.heap.size + 1, 0, none⟩ = false := by rw [frozen_of_row w9 _ 0 _ _ r6]
    have yf1 : w9.frozen? ⟨w.heap.size + 1, 1, none⟩ = false := by rw [frozen_of_row w9 _ 1 _ _ r6]
    have yf2 : w9.frozen? ⟨w.heap.size + 1, 2, none⟩ = false := by rw [frozen_of_row w9 _ 2 _ _ r6]
    have nn1 : ¬ w8.heap.size = w.heap.size + 1 := by have := HLW3.out; omega
    have nn2 : ¬ w.heap.size + 1 = w8.heap.size := by omega
    clear r9 r6 hT hE hfr hn8 hq8 hpe hsv HNO HNS
    go_upto_region 24 with fail
    have hl9 : w.heap.size + 2 < w9.heap.size := (Array.getElem?_eq_some_iff.1 H9.out.1.r7).1
    have hk10 : Kp (w.heap.size + 3) w9 (((w9.setCell ⟨w.heap.size + 1, 0, none⟩ (.string B)).setCell ⟨w.heap.size + 1, 1, none⟩ (.int .i64 (n8 : Int))).setCell ⟨w.heap.size + 1, 2, none⟩ (.int .i64 0)) := kp3 (.string B) (.int .i64 (n8 : Int)) (.int .i64 0) (Kp.refl _ _) (by omega)
    have H10 : Hid (Pr5 B w #[.int .i64 5, .int .u64 (t : Nat), .int .u64 0, .int .u64 0, .int .u64 0, .int .u64 0, .int .i64 0, .int .u64 0, .int .u64 0, .slice none 0 0, .slice none 0 0] (n8 : Int) 0 (((w9.setCell ⟨w.heap.size + 1, 0, none⟩ (.string B)).setCell ⟨w.heap.size + 1, 1, none⟩ (.int .i64 (n8 : Int))).setCell ⟨w.heap.size + 1, 2, none⟩ (.int .i64 0)) ∧ Kp (w.heap.size + 3) w9 (((w9.setCell ⟨w.heap.size + 1, 0, none⟩ (.string B)).setCell ⟨w.heap.size + 1, 1, none⟩ (.int .i64 (n8 : Int))).setCell ⟨w.heap.size + 1, 2, none⟩ (.int .i64 0))) := hid ⟨H9.out.1.set6 (n8 : Int) 0, hk10⟩
    have hp10 : (((w9.setCell ⟨w.heap.size + 1, 0, none⟩ (.string B)).setCell ⟨w.heap.size + 1, 1, none⟩ (.int .i64 (n8 : Int))).setCell ⟨w.heap.size + 1, 2, none⟩ (.int .i64 0)).heap[w6.heap.size]? = some (.cells #[.int .i64 c0, .int .u64 (c1 : Nat), .int .u64 (c2 : Nat), .slice c3 c4 c5] 34 (0, 0)) := (hk10 _ (by have := HLW3.out; omega)).trans H9.out.2.2.1
    clear hk10
    generalize (((w9.setCell ⟨w.heap.size + 1, 0, none⟩ (.string B)).setCell ⟨w.heap.size + 1, 1, none⟩ (.int .i64 (n8 : Int))).setCell ⟨w.heap.size + 1, 2, none⟩ (.int .i64 0)) = w10 at H10 hp10 ⊢
    clear y0 y1 y2 yc0 yc1 yc2 yf0 yf1 yf2 nn1 nn2
    have r7 := H10.out.1.r7
    have y0 : w10.cell? ⟨w6.heap.size, 0, none⟩ = some (.int .i64 c0) := by rw [cell_of_row w10 _ 0 _ _ _ hp10]; rfl
    have y1 : w10.cell? ⟨w6.heap.size, 1, none⟩ = some (.int .u64 (c1 : Nat)) := by rw [cell_of_row w10 _ 1 _ _ _ hp10]; rfl
    have y2 : w10.cell? ⟨w6.heap.size, 2, none⟩ = some (.int .u64 (c2 : Nat)) := by rw [cell_of_row w10 _ 2 _ _ _ hp10]; rfl
    have y3 : w10.cell? ⟨w6.heap.size, 3, none⟩ = some (.slice c3 c4 c5) := by rw [cell_of_row w10 _ 3 _ _ _ hp10]; rfl
    have yc6 : w10.cell? ⟨w.heap.size + 1 + 1, 6, none⟩ = some (.int .i64 0) := by rw [cell_of_row w10 _ 6 _ _ _ r7]; rfl
    have yc7 : w10.cell? ⟨w.heap.size + 1 + 1, 7, none⟩ = some (.int .u64 0) := by rw [cell_of_row w10 _ 7 _ _ _ r7]; rfl
    have yc8 : w10.cell? ⟨w.heap.size + 1 + 1, 8, none⟩ = some (.int .u64 0) := by rw [cell_of_row w10 _ 8 _ _ _ r7]; rfl
    have yc9 : w10.cell? ⟨w.heap.size + 1 + 1, 9, none⟩ = some (.slice none 0 0) := by rw [cell_of_row w10 _ 9 _ _ _ r7]; rfl
    have yf6 : w10.frozen? ⟨w.heap.size + 1 + 1, 6, none⟩ = false := by rw [frozen_of_row w10 _ 6 _ _ r7]
    have yf7 : w10.frozen? ⟨w.heap.size + 1 + 1, 7, none⟩ = false := by rw [frozen_of_row w10 _ 7 _ _ r7]
    have yf8 : w10.frozen? ⟨w.heap.size + 1 + 1, 8, none⟩ = false := by rw [frozen_of_row w10 _ 8 _ _ r7]
    have yf9 : w10.frozen? ⟨w.heap.size + 1 + 1, 9, none⟩ = false := by rw [frozen_of_row w10 _ 9 _ _ r7]
    have nn1 : ¬ w6.heap.size = w.heap.size + 1 + 1 := by have := HLW3.out; omega
    have nn2 : ¬ w.heap.size + 1 + 1 = w6.heap.size := by omega
    clear hp10 r7
    go_upto_region 25 with fail
    have H11 : Hid (Pr5 B w #[.int .i64 5, .int .u64 (t : Nat), .int .u64 0, .int .u64 0, .int .u64 0, .int .u64 0, .int .i64 c0, .int .u64 (c1 : Nat), .int .u64 (c2 : Nat), .slice c3 c4 c5, .slice none 0 0] (n8 : Int) 0 ((((w10.setCell ⟨w.heap.size + 1 + 1, 6, none⟩ (.int .i64 c0)).setCell ⟨w.heap.size + 1 + 1, 7, none⟩ (.int .u64 (c1 : Nat))).setCell ⟨w.heap.size + 1 + 1, 8, none⟩ (.int .u64 (c2 : Nat))).setCell ⟨w.heap.size + 1 + 1, 9, none⟩ (.slice c3 c4 c5)) ∧ Kp (w.heap.size + 3) w9 ((((w10.setCell ⟨w.heap.size + 1 + 1, 6, none⟩ (.int .i64 c0)).setCell ⟨w.heap.size + 1 + 1, 7, none⟩ (.int .u64 (c1 : Nat))).setCell ⟨w.heap.size + 1 + 1, 8, none⟩ (.int .u64 (c2 : Nat))).setCell ⟨w.heap.size + 1 + 1, 9, none⟩ (.slice c3 c4 c5))) := hid ⟨((((H10.out.1.set7 6 (.int .i64 c0)).set7 7 (.int .u64 (c1 : Nat))).set7 8 (.int .u64 (c2 : Nat))).set7 9 (.slice c3 c4 c5)), ((((H10.out.2.set (by omega) _).set (by omega) _).set (by omega) _).set (by omega) _)⟩
    generalize ((((w10.setCell ⟨w.heap.size + 1 + 1, 6, none⟩ (.int .i64 c0)).setCell ⟨w.heap.size + 1 + 1, 7, none⟩ (.int .u64 (c1 : Nat))).setCell ⟨w.heap.size + 1 + 1, 8, none⟩ (.int .u64 (c2 : Nat))).setCell ⟨w.heap.size + 1 + 1, 9, none⟩ (.slice c3 c4 c5)) = w11 at H11 ⊢
    clear H10 y0 y1 y2 y3 yc6 yc7 yc8 yc9 yf6 yf7 yf8 yf9 nn1 nn2
    have r7 := H11.out.1.r7
    have yc10 : w11.cell? ⟨w.heap.size + 1 + 1, 10, none⟩ = some (.slice none 0 0) := by rw [cell_of_row w11 _ 10 _ _ _ r7]; rfl
    have yf10 : w11.frozen? ⟨w.heap.size + 1 + 1, 10, none⟩ = false := by rw [frozen_of_row w11 _ 10 _ _ r7]
    clear r7
    go_upto_region 26 with fail
    have H12 : Hid (Pr5 B w #[.int .i64 5, .int .u64 (t : Nat), .int .u64 0, .int .u64 0, .int .u64 0, .int .u64 0, .int .i64 c0, .int .u64 (c1 : Nat), .int .u64 (c2 : Nat), .slice c3 c4 c5, .slice sa es.1.length sc] (n8 : Int) 0 (w11.setCell ⟨w.heap.size + 1 + 1, 10, none⟩ (.slice sa es.1.length sc)) ∧ Kp (w.heap.size + 3) w9 (w11.setCell ⟨w.heap.size + 1 + 1, 10, none⟩ (.slice sa es.1.length sc))) := hid ⟨H11.out.1.set7 10 (.slice sa es.1.length sc), H11.out.2.set (by omega) _⟩
    generalize (w11.setCell ⟨w.heap.size + 1 + 1, 10, none⟩ (.slice sa es.1.length sc)) = w12 at H12 ⊢
    clear H11 yc10 yf10
    have r4 := H12.out.1.r4
    have r6 := H12.out.1.r6
    have r7 := H12.out.1.r7
    obtain ⟨x0, x1, x2, x3, x4, x5, x6, x7, x8, x9, x10⟩ := bG (g := w.heap.size + 1 + 1) r7
    obtain ⟨y0, y1, y2⟩ := dW r6
    obtain ⟨p0, p1, p2, p3, p4, p5, p6, p7, p8, p9, p10⟩ := bG r4
    have pfz := dw (g := w.heap.size) r4
    have pf0 := pfz 0
    have pf1 := pfz 1
    have pf2 := pfz 2
    have pf3 := pfz 3
    have pf4 := pfz 4
    have pf5 := pfz 5
    have pf6 := pfz 6
    have pf7 := pfz 7
    have pf8 := pfz 8
    have pf9 := pfz 9
    have pf10 := pfz 10
    clear pfz
    have hS := pK (w := w) (.int .i64 5) (.int .u64 (t : Nat)) (.int .u64 0) (.int .u64 0) (.int .u64 0) (.int .u64 0) (.int .i64 c0) (.int .u64 (c1 : Nat)) (.int .u64 (c2 : Nat)) (.slice c3 c4 c5) (.slice sa es.1.length sc) H12.out.1.bel nl r4
    have hK := Cm (.int .i64 5) (.int .u64 (t : Nat)) (.int .u64 0) (.int .u64 0) (.int .u64 0) (.int .u64 0) (.int .i64 c0) (.int .u64 (c1 : Nat)) (.int .u64 (c2 : Nat)) (.slice c3 c4 c5) (.slice sa es.1.length sc) H12.out.2 (show w.heap.size < w.heap.size + 3 by omega)
    have HS := hid hS
    have HKP := hid hK
    clear r4 r6 r7 hS hK
    go_region
    clear x0 p0 pf0 x1 p1 pf1 x2 p2 pf2 x3 p3 pf3 x4 p4 pf4 x5 p5 pf5 x6 p6 pf6 x7 p7 pf7 x8 p8 pf8 x9 p9 pf9 x10 p10 pf10 y0 y1 y2
    generalize hw9 : (((((((((((w12.setCell ⟨w.heap.size, 0, none⟩ (.int .i64 5)).setCell ⟨w.heap.size, 1, none⟩ (.int .u64 (t : Nat))).setCell ⟨w.heap.size, 2, none⟩ (.int .u64 0)).setCell ⟨w.heap.size, 3, none⟩ (.int .u64 0)).setCell ⟨w.heap.size, 4, none⟩ (.int .u64 0)).setCell ⟨w.heap.size, 5, none⟩ (.int .u64 0)).setCell ⟨w.heap.size, 6, none⟩ (.int .i64 c0)).setCell ⟨w.heap.size, 7, none⟩ (.int .u64 (c1 : Nat))).setCell ⟨w.heap.size, 8, none⟩ (.int .u64 (c2 : Nat))).setCell ⟨w.heap.size, 9, none⟩ (.slice c3 c4 c5)).setCell ⟨w.heap.size, 10, none⟩ (.slice sa es.1.length sc)).drew = w13
    have HF : Hid ((w13.heap[w.heap.size]? = some (.cells #[.int .i64 5, .int .u64 (t : Nat), .int .u64 0, .int .u64 0, .int .u64 0, .int .u64 0, .int .i64 c0, .int .u64 (c1 : Nat), .int .u64 (c2 : Nat), .slice c3 c4 c5, .slice sa es.1.length sc] 37 (0, 0)) ∧ Below w.heap.size w w13) ∧ Kp (w.heap.size + 3) w9 w13) := hid (by rw [← hw9]; exact ⟨iA HS.out.1 HS.out.2, Kp.drew HKP.out⟩)
    clear hw9 HS HKP H12
    go_wp2_with fail
    refine bodyPost_ret (v := .tuple #[.agg #[.int .i64 5, .int .u64 (t : Nat), .int .u64 0, .int .u64 0, .int .u64 0, .int .u64 0, .int .i64 c0, .int .u64 (c1 : Nat), .int .u64 (c2 : Nat), .slice c3 c4 c5, .slice sa es.1.length sc], .bool ((n8 : Int) == (B.size : Int))]) (ah rfl _ _ w.heap.size 37 _ _ _ _ rfl HF.out.1.1 Tryz.underlying37 rfl (by kernel_rfl) rfl) rfl ?_
    have hb : ((n8 : Int) == (B.size : Int)) = decide (es.2 = []) := by
     have := drop_nil HFR.out.2.1 HFR.out.2.2.1
     rw [Bool.eq_iff_iff]
     simp only [beq_iff_eq, decide_eq_true_eq, this]
     omega
    have hlw := HLW3.out
    refine ⟨_, _, rfl, rfl, by simp [Value.oneCell'], HF.out.1.2, ?_, fun r hr => ?_⟩
    ·rw [hb, HFR.out.1]; split <;> simp_all
    ·have hnums : r.nums := (lF ((qX 5 _ (by omega)) ▸ hr)).2.2.1
     rw [HFR.out.1] at hr
     split at hr
     ·cases hr
      exact ⟨_, _, _, _, _, rfl, by simp, by simp, hnums, ak.keep (fun b hb _ => HF.out.2 b (by have hb : w5.heap.size ≤ b := hb; omega)) (fun b _ hb => by have hb : w5.heap.size ≤ b := hb; show w.heap.size ≤ b; omega) HFR.out.2.2.2.1, ed.keep HFR.out.2.2.2.2 (fun b hb _ => HF.out.2 b (by have hb : w7.heap.size ≤ b := hb; omega)) (fun b _ hb => by have hb : w7.heap.size ≤ b := hb; show w.heap.size ≤ b; omega)⟩
     ·cases hr
theorem wM (B : ByteArray) (k : Nat) (w : World) (hB : B.size ≤ 700) (h1 : 1 ≤ k) (h7 : k ≤ 7) : Calls Tryz.prog 35 #[.int .i64 (k : Nat), .string B] w (uS k B.data.toList w) := by
 have hk : k = 1 ∨ k = 2 ∨ k = 3 ∨ k = 4 ∨ k = 5 ∨ k = 6 ∨ k = 7 := by omega
 rcases hk with rfl | rfl | rfl | rfl | rfl | rfl | rfl
 ·exact zF B w hB
 ·exact zK B w hB
 ·exact zJ B w hB
 ·exact zI B w hB
 ·exact zM B w hB
 ·exact zG B w hB
 ·exact zH B w hB
theorem nH (B : ByteArray) (k : Nat) (w : World) (hk : k < 256) (hB : B.size ≤ 700) : Calls Tryz.prog 8 #[.agg #[.int .u8 (k : Nat), .string B]] w (kg k B.data.toList w) := by
 have HP := hid (fun w => wM B k w hB)
 have hb0 : Below w.heap.size w ((w.alloc (.cells #[.int .u8 (k : Nat), .string B] 27)).alloc (.cells #[.int .i64 0, .int .u64 0, .int .u64 0, .int .u64 0, .int .u64 0, .int .u64 0, .int .i64 0, .int .u64 0, .int .u64 0, .slice none 0 0, .slice none 0 0] 37)) := (br.alloc nl _).alloc (by simp) _
 have p0 : ((w.alloc (.cells #[.int .u8 (k : Nat), .string B] 27)).alloc (.cells #[.int .i64 0, .int .u64 0, .int .u64 0, .int .u64 0, .int .u64 0, .int .u64 0, .int .i64 0, .int .u64 0, .int .u64 0, .slice none 0 0, .slice none 0 0] 37)).heap[w.heap.size]? = some (.cells #[.int .u8 (k : Nat), .string B] 27 (0, 0)) := heap_alloc2_old _ _ _
 have p1 : ((w.alloc (.cells #[.int .u8 (k : Nat), .string B] 27)).alloc (.cells #[.int .i64 0, .int .u64 0, .int .u64 0, .int .u64 0, .int .u64 0, .int .u64 0, .int .i64 0, .int .u64 0, .int .u64 0, .slice none 0 0, .slice none 0 0] 37)).heap[w.heap.size + 1]? = some (.cells #[.int .i64 0, .int .u64 0, .int .u64 0, .int .u64 0, .int .u64 0, .int .u64 0, .int .i64 0, .int .u64 0, .int .u64 0, .slice none 0 0, .slice none 0 0] 37 (0, 0)) := aa _ _ _ (by simp)
 have HX := hid (And.intro hb0 (And.intro p0 p1))
 have y1 : (0 : Int) ≤ (k : Int) := by omega
 have y2 : (k : Int) < 256 := by omega
 clear hb0 p0 p1
 go_enter Tryz.func8, Tryz.ntmps8
 go_upto_region 1 with fail
 generalize ((w.alloc (.cells #[.int .u8 (k : Nat), .string B] 27)).alloc (.cells #[.int .i64 0, .int .u64 0, .int .u64 0, .int .u64 0, .int .u64 0, .int .u64 0, .int .i64 0, .int .u64 0, .int .u64 0, .slice none 0 0, .slice none 0 0] 37)) = X at HX ⊢
 have c0 : X.cell? ⟨w.heap.size, 0, none⟩ = some (.int .u8 (k : Nat)) := by rw [cell_of_row X _ 0 _ _ _ HX.out.2.1]; rfl
 have c1 : X.cell? ⟨w.heap.size, 1, none⟩ = some (.string B) := by rw [cell_of_row X _ 1 _ _ _ HX.out.2.1]; rfl
 by_cases hK : 1 ≤ k ∧ k ≤ 7
 ·have t1 : ¬ (k : Int) < 1 := by omega
  have t2 : ¬ (7 : Int) < (k : Int) := by omega
  obtain ⟨K1, K7⟩ := hK
  have hlX : w.heap.size + 1 < X.heap.size := (Array.getElem?_eq_some_iff.1 HX.out.2.2).1
  go_wp2_with fail
  refine (HP.out X K1 K7).mono ?_
  rintro ex w1 ⟨cs, ok, rfl, hcs, hone, hb1, hok, hrep⟩
  have hz1 := hb1.size
  have hfg := qX k B.data.toList ⟨K1, K7⟩
  rw [hfg] at hok hrep
  have HR := hid (And.intro hok (And.intro hrep hb1))
  have p1 : w1.heap[w.heap.size + 1]? = some (.cells #[.int .i64 0, .int .u64 0, .int .u64 0, .int .u64 0, .int .u64 0, .int .u64 0, .int .i64 0, .int .u64 0, .int .u64 0, .slice none 0 0, .slice none 0 0] 37 (0, 0)) := (hb1.block _ hlX).trans HX.out.2.2
  have P1 := hid p1
  have HB1 := hid (HX.out.1.trans (hb1.mono HX.out.1.size))
  have hz0 := HX.out.1.size
  clear hok hrep hb1 hfg c0 c1 p1
  go_upto_region 4 with (refine wpList_store_row rfl 37 (.tmp 4) (.tmp 22) rfl rfl w1.heap.size rfl cs rfl 37 _ (aa _ _ _ rfl) (by rw [hcs]; kernel_rfl) (by rw [hcs]; rfl) hone ?_)
  have H2 : Hid ((((w1.alloc (.cells #[.int .i64 0, .int .u64 0, .int .u64 0, .int .u64 0, .int .u64 0, .int .u64 0, .int .i64 0, .int .u64 0, .int .u64 0, .slice none 0 0, .slice none 0 0] 37)).setRow w1.heap.size cs).heap[w1.heap.size]? = some (.cells cs 37 (0, 0)) ∧ ((w1.alloc (.cells #[.int .i64 0, .int .u64 0, .int .u64 0, .int .u64 0, .int .u64 0, .int .u64 0, .int .i64 0, .int .u64 0, .int .u64 0, .slice none 0 0, .slice none 0 0] 37)).setRow w1.heap.size cs).heap[w.heap.size + 1]? = some (.cells #[.int .i64 0, .int .u64 0, .int .u64 0, .int .u64 0, .int .u64 0, .int .u64 0, .int .i64 0, .int .u64 0, .int .u64 0, .slice none 0 0, .slice none 0 0] 37 (0, 0))) ∧ Below w.heap.size w ((w1.alloc (.cells #[.int .i64 0, .int .u64 0, .int .u64 0, .int .u64 0, .int .u64 0, .int .u64 0, .int .i64 0, .int .u64 0, .int .u64 0, .slice none 0 0, .slice none 0 0] 37)).setRow w1.heap.size cs) ∧ Below w1.heap.size w1 ((w1.alloc (.cells #[.int .i64 0, .int .u64 0, .int .u64 0, .int .u64 0, .int .u64 0, .int .u64 0, .int .i64 0, .int .u64 0, .int .u64 0, .slice none 0 0, .slice none 0 0] 37)).setRow w1.heap.size cs)) := hid ⟨⟨setRow_heap _ _ _ _ _ _ (aa _ _ _ rfl), (setRow_other _ _ _ _ (by omega)).trans ((ae _ _ _ (by omega)).trans P1.out)⟩, below_setRow (HB1.out.alloc (by omega) _) _ _ (by omega), below_setRow (br.alloc nl _) _ _ nl⟩
  generalize (w1.alloc (.cells #[.int .i64 0, .int .u64 0, .int .u64 0, .int .u64 0, .int .u64 0, .int .u64 0, .int .i64 0, .int .u64 0, .int .u64 0, .slice none 0 0, .slice none 0 0] 37)).setRow w1.heap.size cs = w2 at H2 ⊢
  cases hf : bP k B.data.toList with
  | none =>
   have hok : ok = false := by have := HR.out.1; rw [hf] at this; exact this
   subst hok
   have g4 := H2.out.1.2
   have hru : eB k B.data.toList = 5 := by unfold eB; rw [if_pos ⟨K1, K7⟩, hf]; rfl
   have HE := hid (fun b => dP (w := w) (w' := w2.setRow (w.heap.size + 1) #[.int .i64 0, .int .u64 0, .int .u64 0, .int .u64 0, .int .u64 0, .int .u64 0, .int .i64 0, .int .u64 0, .int .u64 0, .slice none 0 0, .slice none 0 0]) hf hru b)
   clear hf hru
   go_wp2_with (refine wpList_store_row rfl 37 (.tmp 2) (.tmp 26) rfl rfl (w.heap.size + 1) rfl _ rfl 37 _ g4 (by kernel_rfl) rfl (by simp [Value.oneCell']) ?_)
   refine bodyPost_ret (v := .tuple #[.agg #[.int .i64 0, .int .u64 0, .int .u64 0, .int .u64 0, .int .u64 0, .int .u64 0, .int .i64 0, .int .u64 0, .int .u64 0, .slice none 0 0, .slice none 0 0], .int .i64 5]) (ah rfl _ _ (w.heap.size + 1) 37 _ _ _ _ rfl (setRow_heap _ _ _ _ _ _ g4) Tryz.underlying37 rfl (by kernel_rfl) rfl) rfl ?_
   exact HE.out (below_setRow H2.out.2.1 _ _ (by omega))
  | some r =>
   have hok : ok = true := by have := HR.out.1; rw [hf] at this; exact this
   subst hok
   have hru : eB k B.data.toList = 0 := by unfold eB; rw [if_pos ⟨K1, K7⟩, hf]; rfl
   have hr := HR.out.2.1 r hf
   obtain ⟨k0, k1, k2, k3, k4, k5, k6, k7, hcs2, _⟩ := hr.conc
   obtain rfl := Value.agg.inj hcs2
   have g4 := H2.out.1.2
   have g5 := H2.out.1.1
   have HE : Hid (bZ (w2.setRow (w.heap.size + 1) #[.int .i64 r.k, .int .u64 r.t, .int .u64 r.x, .int .u64 r.w, .int .u64 r.n, .int .u64 r.v, .int .i64 k0, .int .u64 (k1 : Nat), .int .u64 (k2 : Nat), .slice k3 k4 k5, .slice k6 r.es.length k7]) (fun b => w.heap.size ≤ b) true ((bP k B.data.toList).getD .zero) (.agg #[.int .i64 r.k, .int .u64 r.t, .int .u64 r.x, .int .u64 r.w, .int .u64 r.n, .int .u64 r.v, .int .i64 k0, .int .u64 (k1 : Nat), .int .u64 (k2 : Nat), .slice k3 k4 k5, .slice k6 r.es.length k7])) := hid (by
    rw [hf, Option.getD_some]
    exact (hr.below H2.out.2.2 nl).keep (fun b hb _ => setRow_other _ _ _ _ (by have hb : X.heap.size ≤ b := hb; omega)) (fun b _ hb => by have hb : X.heap.size ≤ b := hb; show w.heap.size ≤ b; omega))
   have HRU := hid hru
   clear hf hru hr hcs2
   have x0 : w2.cell? ⟨w1.heap.size, 0, none⟩ = _ := cell_of_row w2 _ 0 _ _ _ g5
   have x1 : w2.cell? ⟨w1.heap.size, 1, none⟩ = _ := cell_of_row w2 _ 1 _ _ _ g5
   have x2 : w2.cell? ⟨w1.heap.size, 2, none⟩ = _ := cell_of_row w2 _ 2 _ _ _ g5
   have x3 : w2.cell? ⟨w1.heap.size, 3, none⟩ = _ := cell_of_row w2 _ 3 _ _ _ g5
   have x4 : w2.cell? ⟨w1.heap.size, 4, none⟩ = _ := cell_of_row w2 _ 4 _ _ _ g5
   have x5 : w2.cell? ⟨w1.heap.size, 5, none⟩ = _ := cell_of_row w2 _ 5 _ _ _ g5
   have x6 : w2.cell? ⟨w1.heap.size, 6, none⟩ = _ := cell_of_row w2 _ 6 _ _ _ g5
   have x7 : w2.cell? ⟨w1.heap.size, 7, none⟩ = _ := cell_of_row w2 _ 7 _ _ _ g5
   have x8 : w2.cell? ⟨w1.heap.size, 8, none⟩ = _ := cell_of_row w2 _ 8 _ _ _ g5
   have x9 : w2.cell? ⟨w1.heap.size, 9, none⟩ = _ := cell_of_row w2 _ 9 _ _ _ g5
   have x10 : w2.cell? ⟨w1.heap.size, 10, none⟩ = _ := cell_of_row w2 _ 10 _ _ _ g5
   clear g5
   go_wp2_with (refine wpList_store_row rfl 37 (.tmp 2) (.tmp 27) rfl rfl (w.heap.size + 1) rfl _ rfl 37 _ g4 (by kernel_rfl) rfl (by simp [Value.oneCell']) ?_)
   refine bodyPost_ret (v := .tuple #[.agg #[.int .i64 r.k, .int .u64 r.t, .int .u64 r.x, .int .u64 r.w, .int .u64 r.n, .int .u64 r.v, .int .i64 k0, .int .u64 (k1 : Nat), .int .u64 (k2 : Nat), .slice k3 k4 k5, .slice k6 r.es.length k7], .int .i64 0]) (ah rfl _ _ (w.heap.size + 1) 37 _ _ _ _ rfl (setRow_heap _ _ _ _ _ _ g4) Tryz.underlying37 rfl (by kernel_rfl) rfl) rfl ?_
   exact ⟨_, by rw [HRU.out], HE.out, below_setRow H2.out.2.1 _ _ (by omega)⟩
 ·have hf : bP k B.data.toList = none := by unfold bP; rw [if_neg hK]
  have hru : eB k B.data.toList = 4 := by unfold eB; rw [if_neg hK]
  have g4 := HX.out.2.2
  have HE := hid (fun b => dP (w := w) (w' := X.setRow (w.heap.size + 1) #[.int .i64 0, .int .u64 0, .int .u64 0, .int .u64 0, .int .u64 0, .int .u64 0, .int .i64 0, .int .u64 0, .int .u64 0, .slice none 0 0, .slice none 0 0]) hf hru b)
  clear hf hru
  by_cases h1 : k < 1
  ·have t1 : (k : Int) < 1 := by omega
   clear hK h1
   go_wp2_with (refine wpList_store_row rfl 37 (.tmp 2) (.tmp 14) rfl rfl (w.heap.size + 1) rfl _ rfl 37 _ g4 (by kernel_rfl) rfl (by simp [Value.oneCell']) ?_)
   refine bodyPost_ret (v := .tuple #[.agg #[.int .i64 0, .int .u64 0, .int .u64 0, .int .u64 0, .int .u64 0, .int .u64 0, .int .i64 0, .int .u64 0, .int .u64 0, .slice none 0 0, .slice none 0 0], .int .i64 4]) (ah rfl _ _ (w.heap.size + 1) 37 _ _ _ _ rfl (setRow_heap _ _ _ _ _ _ g4) Tryz.underlying37 rfl (by kernel_rfl) rfl) rfl ?_
   exact HE.out (below_setRow HX.out.1 _ _ (by omega))
  ·have t1 : ¬ (k : Int) < 1 := by omega
   have t2 : (7 : Int) < (k : Int) := by omega
   clear hK h1
   go_wp2_with (refine wpList_store_row rfl 37 (.tmp 2) (.tmp 14) rfl rfl (w.heap.size + 1) rfl _ rfl 37 _ g4 (by kernel_rfl) rfl (by simp [Value.oneCell']) ?_)
   refine bodyPost_ret (v := .tuple #[.agg #[.int .i64 0, .int .u64 0, .int .u64 0, .int .u64 0, .int .u64 0, .int .u64 0, .int .i64 0, .int .u64 0, .int .u64 0, .slice none 0 0, .slice none 0 0], .int .i64 4]) (ah rfl _ _ (w.heap.size + 1) 37 _ _ _ _ rfl (setRow_heap _ _ _ _ _ _ g4) Tryz.underlying37 rfl (by kernel_rfl) rfl) rfl ?_
   exact HE.out (below_setRow HX.out.1 _ _ (by omega))
def yu (v v' : Value) : Prop := Sim v v' ∨ ∃ b b', v = .bool b ∧ v' = .bool b'
structure Sp2 (W : World) (bx B : Nat) (row : Array Value) (S : Nat → Prop) (wr : World) : Prop where
 bel : Below B W wr
 keep : bB (fun b => ¬ S b) W wr
 soft : ∀ b o v, S b → W.cell? ⟨b, o, none⟩ = some v → ∃ v', wr.cell? ⟨b, o, none⟩ = some v' ∧ yu v v'
 fro : ∀ b o, S b → b < W.heap.size → wr.frozen? ⟨b, o, none⟩ = W.frozen? ⟨b, o, none⟩
 box : wr.heap[bx]? = some (.cells row 47 (0, 0))
theorem yu.int {v' : Value} {k : IntKind} {n : Int} (h : yu (.int k n) v') : ∃ n', v' = .int k n' := by
 rcases h with (h | ⟨k1, a, b, h1, rfl⟩) | ⟨a, b, h1, _⟩
 ·exact ⟨n, h⟩
 ·simp only [Value.int.injEq] at h1; obtain ⟨rfl, _⟩ := h1; exact ⟨b, rfl⟩
 ·cases h1
theorem yu.bool {v' : Value} {b : Bool} (h : yu (.bool b) v') : ∃ b', v' = .bool b' := by
 rcases h with (h | ⟨k1, a, c, h1, rfl⟩) | ⟨a, c, h1, rfl⟩
 ·exact ⟨b, h⟩
 ·cases h1
 ·exact ⟨c, rfl⟩
theorem Sp2.set {W : World} {bx B : Nat} {row : Array Value} {S : Nat → Prop} {wr : World} (h : Sp2 W bx B row S wr) {bl off : Nat} (hS : S bl) (hB : B ≤ bl) (hx : bl ≠ bx) {u v : Value} (hu : W.cell? ⟨bl, off, none⟩ = some u) (huv : yu u v) : Sp2 W bx B row S (wr.setCell ⟨bl, off, none⟩ v) := by
 refine ⟨h.bel.setCell (by simp; omega) _, h.keep.trans h.bel.size (fun b hb _ => Below.heap_setCell _ _ _ _ (fun e => hb (by rw [e]; exact hS))), fun b o x hb hx => ?_, fun b o hb hl => ?_, ?_⟩
 ·obtain ⟨y, hy, hs⟩ := h.soft b o x hb hx
  by_cases e : (⟨bl, off, none⟩ : Addr) = ⟨b, o, none⟩
  ·rw [← e] at hx hy ⊢
   rw [hu] at hx
   cases hx
   exact ⟨v, World.cell?_setCell_same _ _ _ hy, huv⟩
  ·exact ⟨y, by rw [World.cell?_setCell_other _ _ _ _ e]; exact hy, hs⟩
 ·rw [World.frozen?_setCell]; exact h.fro b o hb hl
 ·rw [Below.heap_setCell _ _ _ _ (fun e => hx e.symm)]; exact h.box
theorem Sp2.drew {W : World} {bx B : Nat} {row : Array Value} {S : Nat → Prop} {wr : World} (h : Sp2 W bx B row S wr) : Sp2 W bx B row S wr.drew :=
 ⟨h.bel.drew, h.keep, fun b o v hb hc => by simpa using h.soft b o v hb hc, fun b o hb hl => by simpa using h.fro b o hb hl, h.box⟩
theorem tu (B : Nat) (S : Nat → Prop) (hSB : ∀ b, S b → B ≤ b) (r : Rec) (v : Value) (w : World) (hBN : B ≤ w.heap.size) (hd : r.p.depth ≤ 900) (hr : bZ w S true r v) :
  Calls Tryz.prog 12 #[v] w fun e w' => e = .returned (.tuple #[]) ∧ Below B w w' ∧ bB (fun b => ¬ S b) w w' := by
 obtain ⟨c0, c1, c2, c3, s, rfl, _, _, _, hp, he⟩ := hr
 obtain ⟨_, ad, cp, rfl, _⟩ := he.shape
 obtain ⟨row, hrow⟩ : ∃ row : Array Value, row = #[.int .i64 r.k, .int .u64 r.t, .int .u64 r.x, .int .u64 r.w, .int .u64 r.n, .int .u64 r.v, c0, c1, c2, c3, .slice ad r.es.length cp] := ⟨_, rfl⟩
 rw [← hrow]
 have h0 := heap_alloc_new w (.cells row 47)
 have hb0 : Below w.heap.size w (w.alloc (.cells row 47)) := br.alloc nl _
 have hs0 : (w.alloc (.cells row 47)).heap.size = w.heap.size + 1 := World.size_alloc _ _
 have hp1 : ak (w.alloc (.cells row 47)) (fun b => S b ∧ b < w.heap.size) true r.p (.agg #[c0, c1, c2, c3]) := ak.keep (fun b _ hl => hb0.block b hl) (fun b hb h => ⟨h, hb⟩) hp
 have he1 : ed (w.alloc (.cells row 47)) (fun b => S b ∧ b < w.heap.size) true r.es (.slice ad r.es.length cp) := he.keep (fun b _ hl => hb0.block b hl) (fun b hb h => ⟨h, hb⟩)
 have HSH := hid (ak.shape hp1 900 hd)
 have HE := hid he1
 have HB := hid (And.intro hb0 hs0)
 clear hp he hp1 he1 hb0 hs0
 go_enter Tryz.func12, Tryz.ntmps12
 rw [hrow] at h0 HSH HE HB ⊢
 go_upto_region 1 with fail
 generalize w.alloc (.cells #[.int .i64 r.k, .int .u64 r.t, .int .u64 r.x, .int .u64 r.w, .int .u64 r.n, .int .u64 r.v, c0, c1, c2, c3, .slice ad r.es.length cp] 47) = W at h0 HSH HE HB ⊢
 have g6 : W.cell? ⟨w.heap.size, 6, none⟩ = some c0 := by rw [cell_of_row W _ 6 _ _ _ h0]; rfl
 have g7 : W.cell? ⟨w.heap.size, 7, none⟩ = some c1 := by rw [cell_of_row W _ 7 _ _ _ h0]; rfl
 have g8 : W.cell? ⟨w.heap.size, 8, none⟩ = some c2 := by rw [cell_of_row W _ 8 _ _ _ h0]; rfl
 have g9 : W.cell? ⟨w.heap.size, 9, none⟩ = some c3 := by rw [cell_of_row W _ 9 _ _ _ h0]; rfl
 go_wp2_with fail
 refine (qc B w.heap.size (fun b => S b ∧ b < w.heap.size) (fun b h => ⟨hSB b h.1, h.2⟩) 900 _ _ hBN (by have := HB.out.2; omega) HSH.out).mono ?_
 rintro e w1 ⟨rfl, hsp⟩
 have H1 : Hid (Sp2 W w.heap.size B row (fun b => S b ∧ b < w.heap.size) w1) := hid ⟨hsp.below, hsp.keeps, fun b o x hb hc => by obtain ⟨y, h1, h2⟩ := hsp.soft.1 b o x hb hc; exact ⟨y, h1, .inl h2⟩, hsp.soft.2, (hsp.keeps w.heap.size (fun h => by have := h.2; omega) (Array.getElem?_eq_some_iff.1 h0).1).trans (by rw [hrow]; exact h0)⟩
 clear hsp g6 g7 g8 g9 h0 HSH
 have HSB := hid hSB
 have HRW := hid hrow
 clear hSB hrow
 go_wp2_with fail
 go_loopw [2] (fun i wr => ∃ j : Nat, j ≤ r.es.length ∧ i = .int .i64 j ∧ Hid (Sp2 W w.heap.size B row (fun b => S b ∧ b < w.heap.size) wr)) (fun i _ => r.es.length - (intOf i).toNat)
 case atStart => exact ⟨0, by omega, rfl, H1⟩
 case round =>
  obtain ⟨j, hj, rfl, HQ⟩ := hrel
  have g10 : wr.cell? ⟨w.heap.size, 10, none⟩ = some (.slice ad r.es.length cp) := by rw [cell_of_row wr _ 10 _ _ _ HQ.out.box, HRW.out]; rfl
  by_cases hlt : j < r.es.length
  ·obtain ⟨bl, off, rfl, hS, x0, _, _, x3, xf⟩ := HE.out.part j hlt
   obtain ⟨v0, y0, s0⟩ := HQ.out.soft _ _ _ hS x0
   obtain ⟨v3, y3, s3⟩ := HQ.out.soft _ _ _ hS x3
   obtain ⟨n0, rfl⟩ := s0.int
   obtain ⟨b3, rfl⟩ := s3.bool
   have hbl : bl < W.heap.size := by have := HB.out.2; have := hS.2; omega
   have f0 : wr.frozen? ⟨bl, off + j * 4, none⟩ = false := by rw [HQ.out.fro _ _ hS hbl]; exact xf rfl 0 (by omega)
   have f3 : wr.frozen? ⟨bl, off + j * 4 + 3, none⟩ = false := by rw [HQ.out.fro _ _ hS hbl]; exact xf rfl 3 (by omega)
   have z1 : (0 : Int) ≤ (j : Int) := by omega
   have z2 : (j : Int) < (r.es.length : Int) := by omega
   have hS4 : Sp2 W w.heap.size B row (fun b => S b ∧ b < w.heap.size) (wr.setCell ⟨bl, off + j * 4, none⟩ (.int .u64 (IntKind.u64.wrap (n0 + 1)))) := HQ.out.set hS (HSB.out bl hS.1) (by have := hS.2; omega) x0 (.inl (.inr ⟨_, _, _, rfl, rfl⟩))
   have m3 : (wr.setCell ⟨bl, off + j * 4, none⟩ (.int .u64 (IntKind.u64.wrap (n0 + 1)))).cell? ⟨bl, off + j * 4 + 3, none⟩ = some (.bool b3) := by rw [World.cell?_setCell_other _ _ _ _ (by simp)]; exact y3
   have k3 : (wr.setCell ⟨bl, off + j * 4, none⟩ (.int .u64 (IntKind.u64.wrap (n0 + 1)))).frozen? ⟨bl, off + j * 4 + 3, none⟩ = false := by rw [World.frozen?_setCell]; exact f3
   have H4 := hid hS4
   have HX3 := hid x3
   have HSS := hid hS
   clear x0 x3 xf s0 s3 hS4 hS y3 f3
   go_upto_region 6 with fail
   generalize (wr.setCell ⟨bl, off + j * 4, none⟩ (.int .u64 (IntKind.u64.wrap (n0 + 1)))) = w4 at H4 m3 k3 ⊢
   have h10 : w4.cell? ⟨w.heap.size, 10, none⟩ = some (.slice (some ⟨bl, off, none⟩) r.es.length cp) := by rw [cell_of_row w4 _ 10 _ _ _ H4.out.box, HRW.out]; rfl
   clear g10 y0 f0
   have HN : Hid (Sp2 W w.heap.size B row (fun b => S b ∧ b < w.heap.size) (w4.drew.setCell ⟨bl, off + j * 4 + 3, none⟩ (.bool (!b3)))) := hid (H4.out.drew.set HSS.out (HSB.out bl HSS.out.1) (by have := HSS.out.2; omega) HX3.out (.inr ⟨_, _, rfl, rfl⟩))
   go_region
   go_wp2_with fail
   go_roundw
   case rel => exact ⟨j + 1, by omega, by go_num, HN⟩
   case measure => simp [intOf]; omega
  ·have z2 : ¬ (j : Int) < (r.es.length : Int) := by omega
   have HF := hid (And.intro ((HB.out.1.mono hBN).trans HQ.out.bel) (fun b (hb : ¬ S b) (hl : b < w.heap.size) => (HQ.out.keep b (fun h => hb h.1) (by have := HB.out.2; omega)).trans (HB.out.1.block b hl)))
   go_wp2_with fail
   go_end0
   exact ⟨rfl, HF.out.1, HF.out.2⟩
theorem wO (S : Nat → Prop) (own : Bool) (l : List UInt8) (v : Value) (w : World) (h : ay w S own l v) : (convert 22 9 v).run Tryz.prog w = .ok (.string ⟨l.toArray⟩) w := by
 obtain ⟨_, ad, cap, rfl, _⟩ := h.shape
 cases l with
 | nil =>
  cases ad with
  | none => rw [show ([] : List UInt8).length = 0 from rfl, run_convert_bytes_string (P := Tryz.prog) w 22 9 5 none 0 cap Tryz.underlying22 Tryz.underlying5 Tryz.underlying9]; rfl
  | some a => exact run_convert_bytes_back (P := Tryz.prog) w 22 9 5 a cap [] Tryz.underlying22 Tryz.underlying5 Tryz.underlying9 (fun j hj => by simp at hj)
 | cons c l =>
  obtain ⟨bl, off, rfl, _, hc⟩ := h.cell (by simp)
  exact run_convert_bytes_back (P := Tryz.prog) w 22 9 5 ⟨bl, off, none⟩ cap (c :: l) Tryz.underlying22 Tryz.underlying5 Tryz.underlying9 (fun j hj => by rw [Addr.add_lit]; exact (hc j hj).1)
theorem lT (S : Nat → Prop) (own : Bool) (k : Nat) (b : List UInt8) (pv : Value) (w : World) (hv : ay w S own b pv) :
  Calls Tryz.prog 7 #[.agg #[.int .u8 (k : Nat), pv]] w fun e w' => e = .returned (.agg #[.int .u8 (k : Nat), .string ⟨b.toArray⟩]) ∧ Below w.heap.size w w' := by
 have HC := hid (wO S own b pv _ (hv.below ((br.alloc nl (.cells #[.int .u8 (k : Nat), pv] 24)).alloc (by simp) (.cells #[.int .u8 0, .string ⟨#[]⟩] 27)) nl))
 go_enter Tryz.func7, Tryz.ntmps7
 go_wp2_with (first | rw [HC.out] | fail)
 refine bodyPost_ret (v := .agg #[.int .u8 (k : Nat), .string ⟨b.toArray⟩]) (results_cell_row rfl _ _ (w.heap.size + 1) 27 _ _ _ rfl (aa _ _ _ (by simp)) Tryz.underlying27 rfl (by kernel_rfl)) rfl ⟨rfl, (br.alloc nl _).alloc (by simp) _⟩
end Go.Proofs.YtmgbhhmipmgcpaaGreatDoor
