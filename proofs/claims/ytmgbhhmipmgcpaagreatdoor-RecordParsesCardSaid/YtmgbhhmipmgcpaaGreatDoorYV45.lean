/- The reference's parse of a record's payload, walked, kind by kind. -/
import Derived.Test.YtmgbhhmipmgcpaaGreatDoorY60
set_option maxHeartbeats 8000000
set_option maxRecDepth 100000
namespace Go.Proofs.YtmgbhhmipmgcpaaGreatDoor
open Go.RowKit Go
set_option linter.unusedVariables false
set_option linter.unusedSimpArgs false
def uS (k : Nat) (b : List UInt8) (w : World) (ex : Ending) (w' : World) : Prop :=
 ∃ (cs : Array Value) (ok : Bool), ex = .returned (.tuple #[.agg cs, .bool ok]) ∧ cs.size = 11 ∧ (∀ x ∈ cs.toList, x.oneCell' = true) ∧ Below w.heap.size w w' ∧ ok = (bA k b).isSome ∧ ∀ r, bA k b = some r → bZ w' (fun b => w.heap.size ≤ b) true r (.agg cs)
theorem fK (B : ByteArray) : RdA B (some B.data.toList) 0 0 := ⟨rfl, 0, rfl, Nat.zero_le _, by simp⟩
structure Pr5 (B : ByteArray) (w : World) (row : Array Value) (aj ej : Int) (wr : World) : Prop where
 bel : Below w.heap.size w wr
 r4 : wr.heap[w.heap.size]? = some (.cells #[.int .i64 0, .int .u64 0, .int .u64 0, .int .u64 0, .int .u64 0, .int .u64 0, .int .i64 0, .int .u64 0, .int .u64 0, .slice none 0 0, .slice none 0 0] 37 (0, 0))
 r6 : wr.heap[w.heap.size + 1]? = some (.cells #[.string B, .int .i64 aj, .int .i64 ej] 135 (0, 0))
 r7 : wr.heap[w.heap.size + 2]? = some (.cells row 37 (0, 0))
theorem Pr5.below {B : ByteArray} {w wr w' : World} {row : Array Value} {aj ej : Int} (h : Pr5 B w row aj ej wr) (hb : Below wr.heap.size wr w') : Pr5 B w row aj ej w' :=
 ⟨h.bel.trans (hb.mono h.bel.size), (hb.block _ (Array.getElem?_eq_some_iff.1 h.r4).1).trans h.r4, (hb.block _ (Array.getElem?_eq_some_iff.1 h.r6).1).trans h.r6, (hb.block _ (Array.getElem?_eq_some_iff.1 h.r7).1).trans h.r7⟩
theorem Pr5.set6 {B : ByteArray} {w wr : World} {row : Array Value} {aj ej : Int} (h : Pr5 B w row aj ej wr) (a e : Int) : Pr5 B w row a e (((wr.setCell ⟨w.heap.size + 1, 0, none⟩ (.string B)).setCell ⟨w.heap.size + 1, 1, none⟩ (.int .i64 a)).setCell ⟨w.heap.size + 1, 2, none⟩ (.int .i64 e)) := by
 have hs := eH (.string B) (.int .i64 a) (.int .i64 e) h.r6
 exact ⟨((h.bel.setCell (by simp) _).setCell (by simp) _).setCell (by simp) _, (hs.2 _ (by show _ ≠ _; omega) (Array.getElem?_eq_some_iff.1 h.r4).1).trans h.r4, hs.1, (hs.2 _ (by show _ ≠ _; omega) (Array.getElem?_eq_some_iff.1 h.r7).1).trans h.r7⟩
theorem Pr5.set7 {B : ByteArray} {w wr : World} {row : Array Value} {aj ej : Int} (h : Pr5 B w row aj ej wr) (o : Nat) (v : Value) : Pr5 B w (row.setIfInBounds o v) aj ej (wr.setCell ⟨w.heap.size + 2, o, none⟩ v) :=
 ⟨h.bel.setCell (by simp) _, (Below.heap_setCell _ _ _ _ (by simp)).trans h.r4, (Below.heap_setCell _ _ _ _ (by simp)).trans h.r6, af h.r7 rfl⟩
theorem iA {w Y : World} {g B : Nat} {o : Option Obj} (h : Y.heap[g]? = o) (hb : Below B w Y) : Y.drew.heap[g]? = o ∧ Below B w Y.drew := ⟨h, hb.drew⟩
theorem Pr5.drew {B : ByteArray} {w wr : World} {row : Array Value} {aj ej : Int} (h : Pr5 B w row aj ej wr) : Pr5 B w row aj ej wr.drew := ⟨h.bel.drew, h.r4, h.r6, h.r7⟩
theorem fM {k : Nat} {b : List UInt8} (h : nsO (kE k) b = none) : bA k b = none := by unfold bA; rw [h]; rfl
theorem jR : ∀ {n : Nat} {l q : List UInt8} {xs : List Nat}, nsO n l = some (xs, q) → ∀ x ∈ xs, x < 18446744073709551616
 | 0, l, q, xs, h, x, hx => by
  rw [iW] at h
  cases h
  cases hx
 | n + 1, l, q, xs, h, x, hx => by
  rw [cz] at h
  cases hg : aK l with
  | none => rw [hg] at h; cases h
  | some y =>
   rw [hg] at h
   simp only [Option.bind_some] at h
   cases h2 : nsO n y.2 with
   | none => rw [h2] at h; cases h
   | some z =>
    rw [h2] at h
    simp only [Option.map_some, Option.some.injEq, Prod.mk.injEq] at h
    obtain ⟨rfl, _⟩ := h
    rcases List.mem_cons.1 hx with rfl | hx
    ·exact ru hg
    ·exact jR h2 x hx
theorem drop_nil {B : ByteArray} {q : List UInt8} {m : Nat} (hm : m ≤ B.size) (hq : q = B.data.toList.drop m) : q = [] ↔ m = B.size := by
 rw [hq, List.drop_eq_nil_iff, ai]
 omega
theorem pK {w Y : World} {g : Nat} {T : TypeId} {p0 p1 p2 p3 p4 p5 p6 p7 p8 p9 p10 : Value} (v0 v1 v2 v3 v4 v5 v6 v7 v8 v9 v10 : Value) (hb : Below w.heap.size w Y) (hg : w.heap.size ≤ g) (h : Y.heap[g]? = some (.cells #[p0, p1, p2, p3, p4, p5, p6, p7, p8, p9, p10] T (0, 0))) :
  (((((((((((Y.setCell ⟨g, 0, none⟩ (v0)).setCell ⟨g, 1, none⟩ (v1)).setCell ⟨g, 2, none⟩ (v2)).setCell ⟨g, 3, none⟩ (v3)).setCell ⟨g, 4, none⟩ (v4)).setCell ⟨g, 5, none⟩ (v5)).setCell ⟨g, 6, none⟩ (v6)).setCell ⟨g, 7, none⟩ (v7)).setCell ⟨g, 8, none⟩ (v8)).setCell ⟨g, 9, none⟩ (v9)).setCell ⟨g, 10, none⟩ (v10)).heap[g]? = some (.cells #[v0, v1, v2, v3, v4, v5, v6, v7, v8, v9, v10] T (0, 0)) ∧ Below w.heap.size w (((((((((((Y.setCell ⟨g, 0, none⟩ (v0)).setCell ⟨g, 1, none⟩ (v1)).setCell ⟨g, 2, none⟩ (v2)).setCell ⟨g, 3, none⟩ (v3)).setCell ⟨g, 4, none⟩ (v4)).setCell ⟨g, 5, none⟩ (v5)).setCell ⟨g, 6, none⟩ (v6)).setCell ⟨g, 7, none⟩ (v7)).setCell ⟨g, 8, none⟩ (v8)).setCell ⟨g, 9, none⟩ (v9)).setCell ⟨g, 10, none⟩ (v10)) := by
 have h0 : (Y.setCell ⟨g, 0, none⟩ (v0)).heap[g]? = some (.cells #[v0, p1, p2, p3, p4, p5, p6, p7, p8, p9, p10] T (0, 0)) := af h rfl
 have h1 : ((Y.setCell ⟨g, 0, none⟩ (v0)).setCell ⟨g, 1, none⟩ (v1)).heap[g]? = some (.cells #[v0, v1, p2, p3, p4, p5, p6, p7, p8, p9, p10] T (0, 0)) := af h0 rfl
 have h2 : (((Y.setCell ⟨g, 0, none⟩ (v0)).setCell ⟨g, 1, none⟩ (v1)).setCell ⟨g, 2, none⟩ (v2)).heap[g]? = some (.cells #[v0, v1, v2, p3, p4, p5, p6, p7, p8, p9, p10] T (0, 0)) := af h1 rfl
 have h3 : ((((Y.setCell ⟨g, 0, none⟩ (v0)).setCell ⟨g, 1, none⟩ (v1)).setCell ⟨g, 2, none⟩ (v2)).setCell ⟨g, 3, none⟩ (v3)).heap[g]? = some (.cells #[v0, v1, v2, v3, p4, p5, p6, p7, p8, p9, p10] T (0, 0)) := af h2 rfl
 have h4 : (((((Y.setCell ⟨g, 0, none⟩ (v0)).setCell ⟨g, 1, none⟩ (v1)).setCell ⟨g, 2, none⟩ (v2)).setCell ⟨g, 3, none⟩ (v3)).setCell ⟨g, 4, none⟩ (v4)).heap[g]? = some (.cells #[v0, v1, v2, v3, v4, p5, p6, p7, p8, p9, p10] T (0, 0)) := af h3 rfl
 have h5 : ((((((Y.setCell ⟨g, 0, none⟩ (v0)).setCell ⟨g, 1, none⟩ (v1)).setCell ⟨g, 2, none⟩ (v2)).setCell ⟨g, 3, none⟩ (v3)).setCell ⟨g, 4, none⟩ (v4)).setCell ⟨g, 5, none⟩ (v5)).heap[g]? = some (.cells #[v0, v1, v2, v3, v4, v5, p6, p7, p8, p9, p10] T (0, 0)) := af h4 rfl
 have h6 : (((((((Y.setCell ⟨g, 0, none⟩ (v0)).setCell ⟨g, 1, none⟩ (v1)).setCell ⟨g, 2, none⟩ (v2)).setCell ⟨g, 3, none⟩ (v3)).setCell ⟨g, 4, none⟩ (v4)).setCell ⟨g, 5, none⟩ (v5)).setCell ⟨g, 6, none⟩ (v6)).heap[g]? = some (.cells #[v0, v1, v2, v3, v4, v5, v6, p7, p8, p9, p10] T (0, 0)) := af h5 rfl
 have h7 : ((((((((Y.setCell ⟨g, 0, none⟩ (v0)).setCell ⟨g, 1, none⟩ (v1)).setCell ⟨g, 2, none⟩ (v2)).setCell ⟨g, 3, none⟩ (v3)).setCell ⟨g, 4, none⟩ (v4)).setCell ⟨g, 5, none⟩ (v5)).setCell ⟨g, 6, none⟩ (v6)).setCell ⟨g, 7, none⟩ (v7)).heap[g]? = some (.cells #[v0, v1, v2, v3, v4, v5, v6, v7, p8, p9, p10] T (0, 0)) := af h6 rfl
 have h8 : (((((((((Y.setCell ⟨g, 0, none⟩ (v0)).setCell ⟨g, 1, none⟩ (v1)).setCell ⟨g, 2, none⟩ (v2)).setCell ⟨g, 3, none⟩ (v3)).setCell ⟨g, 4, none⟩ (v4)).setCell ⟨g, 5, none⟩ (v5)).setCell ⟨g, 6, none⟩ (v6)).setCell ⟨g, 7, none⟩ (v7)).setCell ⟨g, 8, none⟩ (v8)).heap[g]? = some (.cells #[v0, v1, v2, v3, v4, v5, v6, v7, v8, p9, p10] T (0, 0)) := af h7 rfl
 have h9 : ((((((((((Y.setCell ⟨g, 0, none⟩ (v0)).setCell ⟨g, 1, none⟩ (v1)).setCell ⟨g, 2, none⟩ (v2)).setCell ⟨g, 3, none⟩ (v3)).setCell ⟨g, 4, none⟩ (v4)).setCell ⟨g, 5, none⟩ (v5)).setCell ⟨g, 6, none⟩ (v6)).setCell ⟨g, 7, none⟩ (v7)).setCell ⟨g, 8, none⟩ (v8)).setCell ⟨g, 9, none⟩ (v9)).heap[g]? = some (.cells #[v0, v1, v2, v3, v4, v5, v6, v7, v8, v9, p10] T (0, 0)) := af h8 rfl
 have h10 : (((((((((((Y.setCell ⟨g, 0, none⟩ (v0)).setCell ⟨g, 1, none⟩ (v1)).setCell ⟨g, 2, none⟩ (v2)).setCell ⟨g, 3, none⟩ (v3)).setCell ⟨g, 4, none⟩ (v4)).setCell ⟨g, 5, none⟩ (v5)).setCell ⟨g, 6, none⟩ (v6)).setCell ⟨g, 7, none⟩ (v7)).setCell ⟨g, 8, none⟩ (v8)).setCell ⟨g, 9, none⟩ (v9)).setCell ⟨g, 10, none⟩ (v10)).heap[g]? = some (.cells #[v0, v1, v2, v3, v4, v5, v6, v7, v8, v9, v10] T (0, 0)) := af h9 rfl
 exact ⟨h10, (((((((((((hb.setCell (by simpa using hg) _).setCell (by simpa using hg) _).setCell (by simpa using hg) _).setCell (by simpa using hg) _).setCell (by simpa using hg) _).setCell (by simpa using hg) _).setCell (by simpa using hg) _).setCell (by simpa using hg) _).setCell (by simpa using hg) _).setCell (by simpa using hg) _).setCell (by simpa using hg) _)⟩
theorem bG {w : World} {g : Nat} {T : TypeId} {a0 a1 a2 a3 a4 a5 a6 a7 a8 a9 a10 : Value} (h : w.heap[g]? = some (.cells #[a0, a1, a2, a3, a4, a5, a6, a7, a8, a9, a10] T (0, 0))) : w.cell? ⟨g, 0, none⟩ = some a0 ∧ w.cell? ⟨g, 1, none⟩ = some a1 ∧ w.cell? ⟨g, 2, none⟩ = some a2 ∧ w.cell? ⟨g, 3, none⟩ = some a3 ∧ w.cell? ⟨g, 4, none⟩ = some a4 ∧ w.cell? ⟨g, 5, none⟩ = some a5 ∧ w.cell? ⟨g, 6, none⟩ = some a6 ∧ w.cell? ⟨g, 7, none⟩ = some a7 ∧ w.cell? ⟨g, 8, none⟩ = some a8 ∧ w.cell? ⟨g, 9, none⟩ = some a9 ∧ w.cell? ⟨g, 10, none⟩ = some a10 := by
 refine ⟨?_, ?_, ?_, ?_, ?_, ?_, ?_, ?_, ?_, ?_, ?_⟩
 all_goals (rw [cell_of_row w _ _ _ _ _ h]; rfl)
theorem dw {w : World} {g : Nat} {T : TypeId} {row : Array Value} (h : w.heap[g]? = some (.cells row T (0, 0))) : ∀ i, w.frozen? ⟨g, i, none⟩ = false := fun i => by rw [frozen_of_row w _ i _ _ h]
theorem dW {w : World} {g : Nat} {T : TypeId} {a0 a1 a2 : Value} (h : w.heap[g]? = some (.cells #[a0, a1, a2] T (0, 0))) : w.cell? ⟨g, 0, none⟩ = some a0 ∧ w.cell? ⟨g, 1, none⟩ = some a1 ∧ w.cell? ⟨g, 2, none⟩ = some a2 := by
 refine ⟨?_, ?_, ?_⟩
 all_goals (rw [cell_of_row w _ _ _ _ _ h]; rfl)
theorem zF (B : ByteArray) (w : World) (hB : B.size ≤ 700) : Calls Tryz.prog 35 #[.int .i64 1, .string B] w (uS 1 B.data.toList w) := by
 have HX : Hid (Pr5 B w #[.int .i64 1, .int .u64 0, .int .u64 0, .int .u64 0, .int .u64 0, .int .u64 0, .int .i64 0, .int .u64 0, .int .u64 0, .slice none 0 0, .slice none 0 0] 0 0 ((((w.alloc (.cells #[.int .i64 0, .int .u64 0, .int .u64 0, .int .u64 0, .int .u64 0, .int .u64 0, .int .i64 0, .int .u64 0, .int .u64 0, .slice none 0 0, .slice none 0 0] 37)).alloc (.cells #[.string B, .int .i64 0, .int .i64 0] 135)).alloc (.cells #[.int .i64 1, .int .u64 0, .int .u64 0, .int .u64 0, .int .u64 0, .int .u64 0, .int .i64 0, .int .u64 0, .int .u64 0, .slice none 0 0, .slice none 0 0] 37)).alloc (.cells #[.int .i64 0, .int .i64 1, .int .i64 4, .int .i64 3, .int .i64 2, .int .i64 1, .int .i64 1, .int .i64 1] 3))) := hid (by
  refine ⟨(((br.alloc nl _).alloc (by simp) _).alloc (by simp; omega) _).alloc (by simp; omega) _, ?_, ?_, ?_⟩
  ·exact (ae _ _ _ (by simp; omega)).trans ((ae _ _ _ (by simp; omega)).trans ((ae _ _ _ (by simp)).trans (aa _ _ _ rfl)))
  ·exact (ae _ _ _ (by simp)).trans ((ae _ _ _ (by simp)).trans (aa _ _ _ (by simp)))
  ·exact (ae _ _ _ (by simp)).trans (aa _ _ _ (by simp)))
 go_enter Tryz.func35, Tryz.ntmps35
 go_upto_region 4 with fail
 generalize ((((w.alloc (.cells #[.int .i64 0, .int .u64 0, .int .u64 0, .int .u64 0, .int .u64 0, .int .u64 0, .int .i64 0, .int .u64 0, .int .u64 0, .slice none 0 0, .slice none 0 0] 37)).alloc (.cells #[.string B, .int .i64 0, .int .i64 0] 135)).alloc (.cells #[.int .i64 1, .int .u64 0, .int .u64 0, .int .u64 0, .int .u64 0, .int .u64 0, .int .i64 0, .int .u64 0, .int .u64 0, .slice none 0 0, .slice none 0 0] 37)).alloc (.cells #[.int .i64 0, .int .i64 1, .int .i64 4, .int .i64 3, .int .i64 2, .int .i64 1, .int .i64 1, .int .i64 1] 3)) = X at HX ⊢
 obtain ⟨c0, c1, c2⟩ := dW HX.out.r6
 go_wp2_with fail
 refine (bL B (some B.data.toList) 0 0 1 X (by omega) (by omega) (fK B)).mono ?_
 rintro ex w1 ⟨a1, e1, sv, rfl, h1, hsl, hb1⟩
 have H1 := hid (HX.out.below hb1)
 have HSL := hid hsl
 have lX : w.heap.size + 2 < X.heap.size := (Array.getElem?_eq_some_iff.1 HX.out.r7).1
 have HLX := hid lX
 clear hb1 c0 c1 c2 HX hsl lX
 obtain ⟨d0, d1, d2⟩ := dW H1.out.r6
 have zz := dw H1.out.r6
 have z0 := zz 0
 have z1 := zz 1
 have z2 := zz 2
 clear zz
 go_upto_region 5 with fail
 have H2 := hid (H1.out.set6 a1 e1)
 have HSL2 : Hid (Sl (((w1.setCell ⟨w.heap.size + 1, 0, none⟩ (.string B)).setCell ⟨w.heap.size + 1, 1, none⟩ (.int .i64 a1)).setCell ⟨w.heap.size + 1, 2, none⟩ (.int .i64 e1)) (fun b => X.heap.size ≤ b) true 1 (nsS 1 (some B.data.toList)).1.length (aX (nsS 1 (some B.data.toList)).1) sv) := hid (Sl.keep HSL.out (by omega) (fun b hb hl => (eH (.string B) (.int .i64 a1) (.int .i64 e1) H1.out.r6).2 b (by have hb : X.heap.size ≤ b := hb; have := HLX.out; show b ≠ _; omega) hl) (fun _ _ h => h))
 generalize (((w1.setCell ⟨w.heap.size + 1, 0, none⟩ (.string B)).setCell ⟨w.heap.size + 1, 1, none⟩ (.int .i64 a1)).setCell ⟨w.heap.size + 1, 2, none⟩ (.int .i64 e1)) = w2 at H2 HSL2 ⊢
 clear d0 d1 d2 z0 z1 z2 H1 HSL
 have s2 : w2.cell? ⟨w.heap.size + 1, 2, none⟩ = some (.int .i64 e1) := by rw [cell_of_row w2 _ 2 _ _ _ H2.out.r6]; rfl
 cases hns : nsO 1 B.data.toList with
 | none =>
  have he : (e1 == 0) = false := by have := h1; rw [dH.1 hns] at this; exact this
  have he2 : (e1 != 0) = true := by simp [bne, he]
  have HN : Hid (bA 1 B.data.toList = none) := hid (fM hns)
  have g4 := H2.out.r4
  have r7 := H2.out.r7
  obtain ⟨x0, x1, x2, x3, x4, x5, x6, x7, x8, x9, x10⟩ := bG (g := w.heap.size + 2) r7
  clear r7 hns h1
  go_wp2_with (refine wpList_store_row rfl 37 (.tmp 4) (.tmp 34) rfl rfl w.heap.size rfl _ rfl 37 _ g4 (by kernel_rfl) rfl (by simp [Value.oneCell']) ?_)
  refine bodyPost_ret (v := .tuple #[.agg #[.int .i64 1, .int .u64 0, .int .u64 0, .int .u64 0, .int .u64 0, .int .u64 0, .int .i64 0, .int .u64 0, .int .u64 0, .slice none 0 0, .slice none 0 0], .bool false]) (ah rfl _ _ w.heap.size 37 _ _ _ _ rfl (setRow_heap _ _ _ _ _ _ g4) Tryz.underlying37 rfl (by kernel_rfl) rfl) rfl ?_
  exact ⟨_, false, rfl, rfl, by simp [Value.oneCell'], below_setRow H2.out.bel _ _ nl, by rw [HN.out]; rfl, fun r h => by rw [HN.out] at h; cases h⟩
 | some p =>
  obtain ⟨xs, q⟩ := p
  have hn2 := dV.1 hns
  have hxl : xs.length = 1 := by have := gN 1 _ q (by rw [hn2]); rw [hn2] at this; exact this
  have hsl2 := HSL2.out
  rw [hn2] at h1 hsl2
  obtain ⟨he0, m, hm, hm2, hq⟩ := h1
  subst he0 hm
  have hlts : ∀ x ∈ xs, x < 18446744073709551616 := jR hns
  have HQ := hid (And.intro hm2 hq)
  have HNS := hid hns
  clear hn2 hm2 hq hns HSL2
  obtain ⟨t, rfl⟩ : ∃ t : Nat, xs = [t] := by
   match xs, hxl with
   | [t], _ => exact ⟨t, rfl⟩
  obtain ⟨_, _, la, lc, rfl, _⟩ := Sl.shape hsl2
  obtain ⟨lb, lo, rfl, hlb, hlc⟩ := Sl.cells hsl2 (by simp)
  have l0 : w2.cell? ⟨lb, lo, none⟩ = some (.int .u64 (t : Nat)) := by have := (hlc 0 (by simp [aX])).1; simpa [aX] using this
  have H6 : Hid (t < 18446744073709551616 ∧ True) := hid ⟨hlts t (by simp), trivial⟩
  have hlb2 : X.heap.size ≤ lb := hlb
  have lX := HLX.out
  have n1 : ¬ lb = w.heap.size + 2 := by omega
  have n2 : ¬ w.heap.size + 2 = lb := by omega
  rw [show [t].length = 1 from rfl]
  have r7 := H2.out.r7
  obtain ⟨x0, x1, x2, x3, x4, x5, x6, x7, x8, x9, x10⟩ := bG (g := w.heap.size + 2) r7
  have xfz := dw (g := w.heap.size + 2) r7
  have xf0 := xfz 0
  have xf1 := xfz 1
  have xf2 := xfz 2
  have xf3 := xfz 3
  have xf4 := xfz 4
  have xf5 := xfz 5
  have xf6 := xfz 6
  have xf7 := xfz 7
  have xf8 := xfz 8
  have xf9 := xfz 9
  have xf10 := xfz 10
  clear xfz
  clear hsl2 hlc hlb r7 hlb2 lX hxl
  go_upto_region 26 with fail
  have H3 : Hid (Pr5 B w #[.int .i64 1, .int .u64 (t : Nat), .int .u64 0, .int .u64 0, .int .u64 0, .int .u64 0, .int .i64 0, .int .u64 0, .int .u64 0, .slice none 0 0, .slice none 0 0] (m : Int) 0 (w2.setCell ⟨w.heap.size + 1 + 1, 1, none⟩ (.int .u64 (t : Nat)))) := hid (H2.out.set7 1 (.int .u64 (t : Nat)))
  generalize (w2.setCell ⟨w.heap.size + 1 + 1, 1, none⟩ (.int .u64 (t : Nat))) = w3 at H3 ⊢
  clear H2 x0 xf0 x1 xf1 x2 xf2 x3 xf3 x4 xf4 x5 xf5 x6 xf6 x7 xf7 x8 xf8 x9 xf9 x10 xf10 s2 l0 n1 n2
  have r4 := H3.out.r4
  have r6 := H3.out.r6
  have r7 := H3.out.r7
  obtain ⟨x0, x1, x2, x3, x4, x5, x6, x7, x8, x9, x10⟩ := bG (g := w.heap.size + 1 + 1) r7
  obtain ⟨y0, y1, y2⟩ := dW r6
  obtain ⟨p0, p1, p2, p3, p4, p5, p6, p7, p8, p9, p10⟩ := bG r4
  have pfz := dw (g := w.heap.size) r4
  have pf0 := pfz 0
  have pf1 := pfz 1
  have pf2 := pfz 2
  have pf3 := pfz 3
  have pf4 := pfz 4
  have pf5 := pfz 5
  have pf6 := pfz 6
  have pf7 := pfz 7
  have pf8 := pfz 8
  have pf9 := pfz 9
  have pf10 := pfz 10
  clear pfz
  have hS := pK (w := w) (.int .i64 1) (.int .u64 (t : Nat)) (.int .u64 0) (.int .u64 0) (.int .u64 0) (.int .u64 0) (.int .i64 0) (.int .u64 0) (.int .u64 0) (.slice none 0 0) (.slice none 0 0) H3.out.bel nl r4
  have HS := hid hS
  clear r4 r6 r7 hS
  go_region
  clear x0 p0 pf0 x1 p1 pf1 x2 p2 pf2 x3 p3 pf3 x4 p4 pf4 x5 p5 pf5 x6 p6 pf6 x7 p7 pf7 x8 p8 pf8 x9 p9 pf9 x10 p10 pf10 y0 y1 y2
  generalize hw9 : (((((((((((w3.setCell ⟨w.heap.size, 0, none⟩ (.int .i64 1)).setCell ⟨w.heap.size, 1, none⟩ (.int .u64 (t : Nat))).setCell ⟨w.heap.size, 2, none⟩ (.int .u64 0)).setCell ⟨w.heap.size, 3, none⟩ (.int .u64 0)).setCell ⟨w.heap.size, 4, none⟩ (.int .u64 0)).setCell ⟨w.heap.size, 5, none⟩ (.int .u64 0)).setCell ⟨w.heap.size, 6, none⟩ (.int .i64 0)).setCell ⟨w.heap.size, 7, none⟩ (.int .u64 0)).setCell ⟨w.heap.size, 8, none⟩ (.int .u64 0)).setCell ⟨w.heap.size, 9, none⟩ (.slice none 0 0)).setCell ⟨w.heap.size, 10, none⟩ (.slice none 0 0)).drew = w9
  have HF : Hid (w9.heap[w.heap.size]? = some (.cells #[.int .i64 1, .int .u64 (t : Nat), .int .u64 0, .int .u64 0, .int .u64 0, .int .u64 0, .int .i64 0, .int .u64 0, .int .u64 0, .slice none 0 0, .slice none 0 0] 37 (0, 0)) ∧ Below w.heap.size w w9) := hid (by rw [← hw9]; exact iA HS.out.1 HS.out.2)
  clear hw9 HS H3
  go_wp2_with fail
  refine bodyPost_ret (v := .tuple #[.agg #[.int .i64 1, .int .u64 (t : Nat), .int .u64 0, .int .u64 0, .int .u64 0, .int .u64 0, .int .i64 0, .int .u64 0, .int .u64 0, .slice none 0 0, .slice none 0 0], .bool ((m : Int) == (B.size : Int))]) (ah rfl _ _ w.heap.size 37 _ _ _ _ rfl HF.out.1 Tryz.underlying37 rfl (by kernel_rfl) rfl) rfl ?_
  have hb : ((m : Int) == (B.size : Int)) = decide (q = []) := by
   have := drop_nil HQ.out.1 HQ.out.2
   rw [Bool.eq_iff_iff]
   simp only [beq_iff_eq, decide_eq_true_eq, this]
   omega
  have hfr : bA 1 B.data.toList = if q = [] then some ⟨1, t, 0, 0, 0, 0, .zero, []⟩ else none := by unfold bA; rw [show kE 1 = 1 from rfl, HNS.out]; simp
  refine ⟨_, _, rfl, rfl, by simp [Value.oneCell'], HF.out.2, ?_, fun r hr => ?_⟩
  ·rw [hb, hfr]; split <;> simp_all
  ·rw [hfr] at hr
   split at hr
   ·cases hr
    exact ⟨_, _, _, _, _, rfl, by simp, by simp, ⟨H6.out.1, by simp, by simp, by simp, by simp, aU, by simp⟩, aL (by omega) (by omega) (by omega) (by omega), Sl.nil _ _ _ _⟩
   ·cases hr
theorem zG (B : ByteArray) (w : World) (hB : B.size ≤ 700) : Calls Tryz.prog 35 #[.int .i64 6, .string B] w (uS 6 B.data.toList w) := by
 have HX : Hid (Pr5 B w #[.int .i64 6, .int .u64 0, .int .u64 0, .int .u64 0, .int .u64 0, .int .u64 0, .int .i64 0, .int .u64 0, .int .u64 0, .slice none 0 0, .slice none 0 0] 0 0 ((((w.alloc (.cells #[.int .i64 0, .int .u64 0, .int .u64 0, .int .u64 0, .int .u64 0, .int .u64 0, .int .i64 0, .int .u64 0, .int .u64 0, .slice none 0 0, .slice none 0 0] 37)).alloc (.cells #[.string B, .int .i64 0, .int .i64 0] 135)).alloc (.cells #[.int .i64 6, .int .u64 0, .int .u64 0, .int .u64 0, .int .u64 0, .int .u64 0, .int .i64 0, .int .u64 0, .int .u64 0, .slice none 0 0, .slice none 0 0] 37)).alloc (.cells #[.int .i64 0, .int .i64 1, .int .i64 4, .int .i64 3, .int .i64 2, .int .i64 1, .int .i64 1, .int .i64 1] 3))) := hid (by
  refine ⟨(((br.alloc nl _).alloc (by simp) _).alloc (by simp; omega) _).alloc (by simp; omega) _, ?_, ?_, ?_⟩
  ·exact (ae _ _ _ (by simp; omega)).trans ((ae _ _ _ (by simp; omega)).trans ((ae _ _ _ (by simp)).trans (aa _ _ _ rfl)))
  ·exact (ae _ _ _ (by simp)).trans ((ae _ _ _ (by simp)).trans (aa _ _ _ (by simp)))
  ·exact (ae _ _ _ (by simp)).trans (aa _ _ _ (by simp)))
 go_enter Tryz.func35, Tryz.ntmps35
 go_upto_region 4 with fail
 generalize ((((w.alloc (.cells #[.int .i64 0, .int .u64 0, .int .u64 0, .int .u64 0, .int .u64 0, .int .u64 0, .int .i64 0, .int .u64 0, .int .u64 0, .slice none 0 0, .slice none 0 0] 37)).alloc (.cells #[.string B, .int .i64 0, .int .i64 0] 135)).alloc (.cells #[.int .i64 6, .int .u64 0, .int .u64 0, .int .u64 0, .int .u64 0, .int .u64 0, .int .i64 0, .int .u64 0, .int .u64 0, .slice none 0 0, .slice none 0 0] 37)).alloc (.cells #[.int .i64 0, .int .i64 1, .int .i64 4, .int .i64 3, .int .i64 2, .int .i64 1, .int .i64 1, .int .i64 1] 3)) = X at HX ⊢
 obtain ⟨c0, c1, c2⟩ := dW HX.out.r6
 go_wp2_with fail
 refine (bL B (some B.data.toList) 0 0 1 X (by omega) (by omega) (fK B)).mono ?_
 rintro ex w1 ⟨a1, e1, sv, rfl, h1, hsl, hb1⟩
 have H1 := hid (HX.out.below hb1)
 have HSL := hid hsl
 have lX : w.heap.size + 2 < X.heap.size := (Array.getElem?_eq_some_iff.1 HX.out.r7).1
 have HLX := hid lX
 clear hb1 c0 c1 c2 HX hsl lX
 obtain ⟨d0, d1, d2⟩ := dW H1.out.r6
 have zz := dw H1.out.r6
 have z0 := zz 0
 have z1 := zz 1
 have z2 := zz 2
 clear zz
 go_upto_region 5 with fail
 have H2 := hid (H1.out.set6 a1 e1)
 have HSL2 : Hid (Sl (((w1.setCell ⟨w.heap.size + 1, 0, none⟩ (.string B)).setCell ⟨w.heap.size + 1, 1, none⟩ (.int .i64 a1)).setCell ⟨w.heap.size + 1, 2, none⟩ (.int .i64 e1)) (fun b => X.heap.size ≤ b) true 1 (nsS 1 (some B.data.toList)).1.length (aX (nsS 1 (some B.data.toList)).1) sv) := hid (Sl.keep HSL.out (by omega) (fun b hb hl => (eH (.string B) (.int .i64 a1) (.int .i64 e1) H1.out.r6).2 b (by have hb : X.heap.size ≤ b := hb; have := HLX.out; show b ≠ _; omega) hl) (fun _ _ h => h))
 generalize (((w1.setCell ⟨w.heap.size + 1, 0, none⟩ (.string B)).setCell ⟨w.heap.size + 1, 1, none⟩ (.int .i64 a1)).setCell ⟨w.heap.size + 1, 2, none⟩ (.int .i64 e1)) = w2 at H2 HSL2 ⊢
 clear d0 d1 d2 z0 z1 z2 H1 HSL
 have s2 : w2.cell? ⟨w.heap.size + 1, 2, none⟩ = some (.int .i64 e1) := by rw [cell_of_row w2 _ 2 _ _ _ H2.out.r6]; rfl
 cases hns : nsO 1 B.data.toList with
 | none =>
  have he : (e1 == 0) = false := by have := h1; rw [dH.1 hns] at this; exact this
  have he2 : (e1 != 0) = true := by simp [bne, he]
  have HN : Hid (bA 6 B.data.toList = none) := hid (fM hns)
  have g4 := H2.out.r4
  have r7 := H2.out.r7
  obtain ⟨x0, x1, x2, x3, x4, x5, x6, x7, x8, x9, x10⟩ := bG (g := w.heap.size + 2) r7
  clear r7 hns h1
  go_wp2_with (refine wpList_store_row rfl 37 (.tmp 4) (.tmp 34) rfl rfl w.heap.size rfl _ rfl 37 _ g4 (by kernel_rfl) rfl (by simp [Value.oneCell']) ?_)
  refine bodyPost_ret (v := .tuple #[.agg #[.int .i64 6, .int .u64 0, .int .u64 0, .int .u64 0, .int .u64 0, .int .u64 0, .int .i64 0, .int .u64 0, .int .u64 0, .slice none 0 0, .slice none 0 0], .bool false]) (ah rfl _ _ w.heap.size 37 _ _ _ _ rfl (setRow_heap _ _ _ _ _ _ g4) Tryz.underlying37 rfl (by kernel_rfl) rfl) rfl ?_
  exact ⟨_, false, rfl, rfl, by simp [Value.oneCell'], below_setRow H2.out.bel _ _ nl, by rw [HN.out]; rfl, fun r h => by rw [HN.out] at h; cases h⟩
 | some p =>
  obtain ⟨xs, q⟩ := p
  have hn2 := dV.1 hns
  have hxl : xs.length = 1 := by have := gN 1 _ q (by rw [hn2]); rw [hn2] at this; exact this
  have hsl2 := HSL2.out
  rw [hn2] at h1 hsl2
  obtain ⟨he0, m, hm, hm2, hq⟩ := h1
  subst he0 hm
  have hlts : ∀ x ∈ xs, x < 18446744073709551616 := jR hns
  have HQ := hid (And.intro hm2 hq)
  have HNS := hid hns
  clear hn2 hm2 hq hns HSL2
  obtain ⟨t, rfl⟩ : ∃ t : Nat, xs = [t] := by
   match xs, hxl with
   | [t], _ => exact ⟨t, rfl⟩
  obtain ⟨_, _, la, lc, rfl, _⟩ := Sl.shape hsl2
  obtain ⟨lb, lo, rfl, hlb, hlc⟩ := Sl.cells hsl2 (by simp)
  have l0 : w2.cell? ⟨lb, lo, none⟩ = some (.int .u64 (t : Nat)) := by have := (hlc 0 (by simp [aX])).1; simpa [aX] using this
  have H6 : Hid (t < 18446744073709551616 ∧ True) := hid ⟨hlts t (by simp), trivial⟩
  have hlb2 : X.heap.size ≤ lb := hlb
  have lX := HLX.out
  have n1 : ¬ lb = w.heap.size + 2 := by omega
  have n2 : ¬ w.heap.size + 2 = lb := by omega
  rw [show [t].length = 1 from rfl]
  have r7 := H2.out.r7
  obtain ⟨x0, x1, x2, x3, x4, x5, x6, x7, x8, x9, x10⟩ := bG (g := w.heap.size + 2) r7
  have xfz := dw (g := w.heap.size + 2) r7
  have xf0 := xfz 0
  have xf1 := xfz 1
  have xf2 := xfz 2
  have xf3 := xfz 3
  have xf4 := xfz 4
  have xf5 := xfz 5
  have xf6 := xfz 6
  have xf7 := xfz 7
  have xf8 := xfz 8
  have xf9 := xfz 9
  have xf10 := xfz 10
  clear xfz
  clear hsl2 hlc hlb r7 hlb2 lX hxl
  go_upto_region 26 with fail
  have H3 : Hid (Pr5 B w #[.int .i64 6, .int .u64 (t : Nat), .int .u64 0, .int .u64 0, .int .u64 0, .int .u64 0, .int .i64 0, .int .u64 0, .int .u64 0, .slice none 0 0, .slice none 0 0] (m : Int) 0 (w2.setCell ⟨w.heap.size + 1 + 1, 1, none⟩ (.int .u64 (t : Nat)))) := hid (H2.out.set7 1 (.int .u64 (t : Nat)))
  generalize (w2.setCell ⟨w.heap.size + 1 + 1, 1, none⟩ (.int .u64 (t : Nat))) = w3 at H3 ⊢
  clear H2 x0 xf0 x1 xf1 x2 xf2 x3 xf3 x4 xf4 x5 xf5 x6 xf6 x7 xf7 x8 xf8 x9 xf9 x10 xf10 s2 l0 n1 n2
  have r4 := H3.out.r4
  have r6 := H3.out.r6
  have r7 := H3.out.r7
  obtain ⟨x0, x1, x2, x3, x4, x5, x6, x7, x8, x9, x10⟩ := bG (g := w.heap.size + 1 + 1) r7
  obtain ⟨y0, y1, y2⟩ := dW r6
  obtain ⟨p0, p1, p2, p3, p4, p5, p6, p7, p8, p9, p10⟩ := bG r4
  have pfz := dw (g := w.heap.size) r4
  have pf0 := pfz 0
  have pf1 := pfz 1
  have pf2 := pfz 2
  have pf3 := pfz 3
  have pf4 := pfz 4
  have pf5 := pfz 5
  have pf6 := pfz 6
  have pf7 := pfz 7
  have pf8 := pfz 8
  have pf9 := pfz 9
  have pf10 := pfz 10
  clear pfz
  have hS := pK (w := w) (.int .i64 6) (.int .u64 (t : Nat)) (.int .u64 0) (.int .u64 0) (.int .u64 0) (.int .u64 0) (.int .i64 0) (.int .u64 0) (.int .u64 0) (.slice none 0 0) (.slice none 0 0) H3.out.bel nl r4
  have HS := hid hS
  clear r4 r6 r7 hS
  go_region
  clear x0 p0 pf0 x1 p1 pf1 x2 p2 pf2 x3 p3 pf3 x4 p4 pf4 x5 p5 pf5 x6 p6 pf6 x7 p7 pf7 x8 p8 pf8 x9 p9 pf9 x10 p10 pf10 y0 y1 y2
  generalize hw9 : (((((((((((w3.setCell ⟨w.heap.size, 0, none⟩ (.int .i64 6)).setCell ⟨w.heap.size, 1, none⟩ (.int .u64 (t : Nat))).setCell ⟨w.heap.size, 2, none⟩ (.int .u64 0)).setCell ⟨w.heap.size, 3, none⟩ (.int .u64 0)).setCell ⟨w.heap.size, 4, none⟩ (.int .u64 0)).setCell ⟨w.heap.size, 5, none⟩ (.int .u64 0)).setCell ⟨w.heap.size, 6, none⟩ (.int .i64 0)).setCell ⟨w.heap.size, 7, none⟩ (.int .u64 0)).setCell ⟨w.heap.size, 8, none⟩ (.int .u64 0)).setCell ⟨w.heap.size, 9, none⟩ (.slice none 0 0)).setCell ⟨w.heap.size, 10, none⟩ (.slice none 0 0)).drew = w9
  have HF : Hid (w9.heap[w.heap.size]? = some (.cells #[.int .i64 6, .int .u64 (t : Nat), .int .u64 0, .int .u64 0, .int .u64 0, .int .u64 0, .int .i64 0, .int .u64 0, .int .u64 0, .slice none 0 0, .slice none 0 0] 37 (0, 0)) ∧ Below w.heap.size w w9) := hid (by rw [← hw9]; exact iA HS.out.1 HS.out.2)
  clear hw9 HS H3
  go_wp2_with fail
  refine bodyPost_ret (v := .tuple #[.agg #[.int .i64 6, .int .u64 (t : Nat), .int .u64 0, .int .u64 0, .int .u64 0, .int .u64 0, .int .i64 0, .int .u64 0, .int .u64 0, .slice none 0 0, .slice none 0 0], .bool ((m : Int) == (B.size : Int))]) (ah rfl _ _ w.heap.size 37 _ _ _ _ rfl HF.out.1 Tryz.underlying37 rfl (by kernel_rfl) rfl) rfl ?_
  have hb : ((m : Int) == (B.size : Int)) = decide (q = []) := by
   have := drop_nil HQ.out.1 HQ.out.2
   rw [Bool.eq_iff_iff]
   simp only [beq_iff_eq, decide_eq_true_eq, this]
   omega
  have hfr : bA 6 B.data.toList = if q = [] then some ⟨6, t, 0, 0, 0, 0, .zero, []⟩ else none := by unfold bA; rw [show kE 6 = 1 from rfl, HNS.out]; simp
  refine ⟨_, _, rfl, rfl, by simp [Value.oneCell'], HF.out.2, ?_, fun r hr => ?_⟩
  ·rw [hb, hfr]; split <;> simp_all
  ·rw [hfr] at hr
   split at hr
   ·cases hr
    exact ⟨_, _, _, _, _, rfl, by simp, by simp, ⟨H6.out.1, by simp, by simp, by simp, by simp, aU, by simp⟩, aL (by omega) (by omega) (by omega) (by omega), Sl.nil _ _ _ _⟩
   ·cases hr
theorem zH (B : ByteArray) (w : World) (hB : B.size ≤ 700) : Calls Tryz.prog 35 #[.int .i64 7, .string B] w (uS 7 B.data.toList w) := by
 have HX : Hid (Pr5 B w #[.int .i64 7, .int .u64 0, .int .u64 0, .int .u64 0, .int .u64 0, .int .u64 0, .int .i64 0, .int .u64 0, .int .u64 0, .slice none 0 0, .slice none 0 0] 0 0 ((((w.alloc (.cells #[.int .i64 0, .int .u64 0, .int .u64 0, .int .u64 0, .int .u64 0, .int .u64 0, .int .i64 0, .int .u64 0, .int .u64 0, .slice none 0 0, .slice none 0 0] 37)).alloc (.cells #[.string B, .int .i64 0, .int .i64 0] 135)).alloc (.cells #[.int .i64 7, .int .u64 0, .int .u64 0, .int .u64 0, .int .u64 0, .int .u64 0, .int .i64 0, .int .u64 0, .int .u64 0, .slice none 0 0, .slice none 0 0] 37)).alloc (.cells #[.int .i64 0, .int .i64 1, .int .i64 4, .int .i64 3, .int .i64 2, .int .i64 1, .int .i64 1, .int .i64 1] 3))) := hid (by
  refine ⟨(((br.alloc nl _).alloc (by simp) _).alloc (by simp; omega) _).alloc (by simp; omega) _, ?_, ?_, ?_⟩
  ·exact (ae _ _ _ (by simp; omega)).trans ((ae _ _ _ (by simp; omega)).trans ((ae _ _ _ (by simp)).trans (aa _ _ _ rfl)))
  ·exact (ae _ _ _ (by simp)).trans ((ae _ _ _ (by simp)).trans (aa _ _ _ (by simp)))
  ·exact (ae _ _ _ (by simp)).trans (aa _ _ _ (by simp)))
 go_enter Tryz.func35, Tryz.ntmps35
 go_upto_region 4 with fail
 generalize ((((w.alloc (.cells #[.int .i64 0, .int .u64 0, .int .u64 0, .int .u64 0, .int .u64 0, .int .u64 0, .int .i64 0, .int .u64 0, .int .u64 0, .slice none 0 0, .slice none 0 0] 37)).alloc (.cells #[.string B, .int .i64 0, .int .i64 0] 135)).alloc (.cells #[.int .i64 7, .int .u64 0, .int .u64 0, .int .u64 0, .int .u64 0, .int .u64 0, .int .i64 0, .int .u64 0, .int .u64 0, .slice none 0 0, .slice none 0 0] 37)).alloc (.cells #[.int .i64 0, .int .i64 1, .int .i64 4, .int .i64 3, .int .i64 2, .int .i64 1, .int .i64 1, .int .i64 1] 3)) = X at HX ⊢
 obtain ⟨c0, c1, c2⟩ := dW HX.out.r6
 go_wp2_with fail
 refine (bL B (some B.data.toList) 0 0 1 X (by omega) (by omega) (fK B)).mono ?_
 rintro ex w1 ⟨a1, e1, sv, rfl, h1, hsl, hb1⟩
 have H1 := hid (HX.out.below hb1)
 have HSL := hid hsl
 have lX : w.heap.size + 2 < X.heap.size := (Array.getElem?_eq_some_iff.1 HX.out.r7).1
 have HLX := hid lX
 clear hb1 c0 c1 c2 HX hsl lX
 obtain ⟨d0, d1, d2⟩ := dW H1.out.r6
 have zz := dw H1.out.r6
 have z0 := zz 0
 have z1 := zz 1
 have z2 := zz 2
 clear zz
 go_upto_region 5 with fail
 have H2 := hid (H1.out.set6 a1 e1)
 have HSL2 : Hid (Sl (((w1.setCell ⟨w.heap.size + 1, 0, none⟩ (.string B)).setCell ⟨w.heap.size + 1, 1, none⟩ (.int .i64 a1)).setCell ⟨w.heap.size + 1, 2, none⟩ (.int .i64 e1)) (fun b => X.heap.size ≤ b) true 1 (nsS 1 (some B.data.toList)).1.length (aX (nsS 1 (some B.data.toList)).1) sv) := hid (Sl.keep HSL.out (by omega) (fun b hb hl => (eH (.string B) (.int .i64 a1) (.int .i64 e1) H1.out.r6).2 b (by have hb : X.heap.size ≤ b := hb; have := HLX.out; show b ≠ _; omega) hl) (fun _ _ h => h))
 generalize (((w1.setCell ⟨w.heap.size + 1, 0, none⟩ (.string B)).setCell ⟨w.heap.size + 1, 1, none⟩ (.int .i64 a1)).setCell ⟨w.heap.size + 1, 2, none⟩ (.int .i64 e1)) = w2 at H2 HSL2 ⊢
 clear d0 d1 d2 z0 z1 z2 H1 HSL
 have s2 : w2.cell? ⟨w.heap.size + 1, 2, none⟩ = some (.int .i64 e1) := by rw [cell_of_row w2 _ 2 _ _ _ H2.out.r6]; rfl
 cases hns : nsO 1 B.data.toList with
 | none =>
  have he : (e1 == 0) = false := by have := h1; rw [dH.1 hns] at this; exact this
  have he2 : (e1 != 0) = true := by simp [bne, he]
  have HN : Hid (bA 7 B.data.toList = none) := hid (fM hns)
  have g4 := H2.out.r4
  have r7 := H2.out.r7
  obtain ⟨x0, x1, x2, x3, x4, x5, x6, x7, x8, x9, x10⟩ := bG (g := w.heap.size + 2) r7
  clear r7 hns h1
  go_wp2_with (refine wpList_store_row rfl 37 (.tmp 4) (.tmp 34) rfl rfl w.heap.size rfl _ rfl 37 _ g4 (by kernel_rfl) rfl (by simp [Value.oneCell']) ?_)
  refine bodyPost_ret (v := .tuple #[.agg #[.int .i64 7, .int .u64 0, .int .u64 0, .int .u64 0, .int .u64 0, .int .u64 0, .int .i64 0, .int .u64 0, .int .u64 0, .slice none 0 0, .slice none 0 0], .bool false]) (ah rfl _ _ w.heap.size 37 _ _ _ _ rfl (setRow_heap _ _ _ _ _ _ g4) Tryz.underlying37 rfl (by kernel_rfl) rfl) rfl ?_
  exact ⟨_, false, rfl, rfl, by simp [Value.oneCell'], below_setRow H2.out.bel _ _ nl, by rw [HN.out]; rfl, fun r h => by rw [HN.out] at h; cases h⟩
 | some p =>
  obtain ⟨xs, q⟩ := p
  have hn2 := dV.1 hns
  have hxl : xs.length = 1 := by have := gN 1 _ q (by rw [hn2]); rw [hn2] at this; exact this
  have hsl2 := HSL2.out
  rw [hn2] at h1 hsl2
  obtain ⟨he0, m, hm, hm2, hq⟩ := h1
  subst he0 hm
  have hlts : ∀ x ∈ xs, x < 18446744073709551616 := jR hns
  have HQ := hid (And.intro hm2 hq)
  have HNS := hid hns
  clear hn2 hm2 hq hns HSL2
  obtain ⟨t, rfl⟩ : ∃ t : Nat, xs = [t] := by
   match xs, hxl with
   | [t], _ => exact ⟨t, rfl⟩
  obtain ⟨_, _, la, lc, rfl, _⟩ := Sl.shape hsl2
  obtain ⟨lb, lo, rfl, hlb, hlc⟩ := Sl.cells hsl2 (by simp)
  have l0 : w2.cell? ⟨lb, lo, none⟩ = some (.int .u64 (t : Nat)) := by have := (hlc 0 (by simp [aX])).1; simpa [aX] using this
  have H6 : Hid (t < 18446744073709551616 ∧ True) := hid ⟨hlts t (by simp), trivial⟩
  have hlb2 : X.heap.size ≤ lb := hlb
  have lX := HLX.out
  have n1 : ¬ lb = w.heap.size + 2 := by omega
  have n2 : ¬ w.heap.size + 2 = lb := by omega
  rw [show [t].length = 1 from rfl]
  have r7 := H2.out.r7
  obtain ⟨x0, x1, x2, x3, x4, x5, x6, x7, x8, x9, x10⟩ := bG (g := w.heap.size + 2) r7
  have xfz := dw (g := w.heap.size + 2) r7
  have xf0 := xfz 0
  have xf1 := xfz 1
  have xf2 := xfz 2
  have xf3 := xfz 3
  have xf4 := xfz 4
  have xf5 := xfz 5
  have xf6 := xfz 6
  have xf7 := xfz 7
  have xf8 := xfz 8
  have xf9 := xfz 9
  have xf10 := xfz 10
  clear xfz
  clear hsl2 hlc hlb r7 hlb2 lX hxl
  go_upto_region 26 with fail
  have H3 : Hid (Pr5 B w #[.int .i64 7, .int .u64 (t : Nat), .int .u64 0, .int .u64 0, .int .u64 0, .int .u64 0, .int .i64 0, .int .u64 0, .int .u64 0, .slice none 0 0, .slice none 0 0] (m : Int) 0 (w2.setCell ⟨w.heap.size + 1 + 1, 1, none⟩ (.int .u64 (t : Nat)))) := hid (H2.out.set7 1 (.int .u64 (t : Nat)))
  generalize (w2.setCell ⟨w.heap.size + 1 + 1, 1, none⟩ (.int .u64 (t : Nat))) = w3 at H3 ⊢
  clear H2 x0 xf0 x1 xf1 x2 xf2 x3 xf3 x4 xf4 x5 xf5 x6 xf6 x7 xf7 x8 xf8 x9 xf9 x10 xf10 s2 l0 n1 n2
  have r4 := H3.out.r4
  have r6 := H3.out.r6
  have r7 := H3.out.r7
  obtain ⟨x0, x1, x2, x3, x4, x5, x6, x7, x8, x9, x10⟩ := bG (g := w.heap.size + 1 + 1) r7
  obtain ⟨y0, y1, y2⟩ := dW r6
  obtain ⟨p0, p1, p2, p3, p4, p5, p6, p7, p8, p9, p10⟩ := bG r4
  have pfz := dw (g := w.heap.size) r4
  have pf0 := pfz 0
  have pf1 := pfz 1
  have pf2 := pfz 2
  have pf3 := pfz 3
  have pf4 := pfz 4
  have pf5 := pfz 5
  have pf6 := pfz 6
  have pf7 := pfz 7
  have pf8 := pfz 8
  have pf9 := pfz 9
  have pf10 := pfz 10
  clear pfz
  have hS := pK (w := w) (.int .i64 7) (.int .u64 (t : Nat)) (.int .u64 0) (.int .u64 0) (.int .u64 0) (.int .u64 0) (.int .i64 0) (.int .u64 0) (.int .u64 0) (.slice none 0 0) (.slice none 0 0) H3.out.bel nl r4
  have HS := hid hS
  clear r4 r6 r7 hS
  go_region
  clear x0 p0 pf0 x1 p1 pf1 x2 p2 pf2 x3 p3 pf3 x4 p4 pf4 x5 p5 pf5 x6 p6 pf6 x7 p7 pf7 x8 p8 pf8 x9 p9 pf9 x10 p10 pf10 y0 y1 y2
  generalize hw9 : (((((((((((w3.setCell ⟨w.heap.size, 0, none⟩ (.int .i64 7)).setCell ⟨w.heap.size, 1, none⟩ (.int .u64 (t : Nat))).setCell ⟨w.heap.size, 2, none⟩ (.int .u64 0)).setCell ⟨w.heap.size, 3, none⟩ (.int .u64 0)).setCell ⟨w.heap.size, 4, none⟩ (.int .u64 0)).setCell ⟨w.heap.size, 5, none⟩ (.int .u64 0)).setCell ⟨w.heap.size, 6, none⟩ (.int .i64 0)).setCell ⟨w.heap.size, 7, none⟩ (.int .u64 0)).setCell ⟨w.heap.size, 8, none⟩ (.int .u64 0)).setCell ⟨w.heap.size, 9, none⟩ (.slice none 0 0)).setCell ⟨w.heap.size, 10, none⟩ (.slice none 0 0)).drew = w9
  have HF : Hid (w9.heap[w.heap.size]? = some (.cells #[.int .i64 7, .int .u64 (t : Nat), .int .u64 0, .int .u64 0, .int .u64 0, .int .u64 0, .int .i64 0, .int .u64 0, .int .u64 0, .slice none 0 0, .slice none 0 0] 37 (0, 0)) ∧ Below w.heap.size w w9) := hid (by rw [← hw9]; exact iA HS.out.1 HS.out.2)
  clear hw9 HS H3
  go_wp2_with fail
  refine bodyPost_ret (v := .tuple #[.agg #[.int .i64 7, .int .u64 (t : Nat), .int .u64 0, .int .u64 0, .int .u64 0, .int .u64 0, .int .i64 0, .int .u64 0, .int .u64 0, .slice none 0 0, .slice none 0 0], .bool ((m : Int) == (B.size : Int))]) (ah rfl _ _ w.heap.size 37 _ _ _ _ rfl HF.out.1 Tryz.underlying37 rfl (by kernel_rfl) rfl) rfl ?_
  have hb : ((m : Int) == (B.size : Int)) = decide (q = []) := by
   have := drop_nil HQ.out.1 HQ.out.2
   rw [Bool.eq_iff_iff]
   simp only [beq_iff_eq, decide_eq_true_eq, this]
   omega
  have hfr : bA 7 B.data.toList = if q = [] then some ⟨7, t, 0, 0, 0, 0, .zero, []⟩ else none := by unfold bA; rw [show kE 7 = 1 from rfl, HNS.out]; simp
  refine ⟨_, _, rfl, rfl, by simp [Value.oneCell'], HF.out.2, ?_, fun r hr => ?_⟩
  ·rw [hb, hfr]; split <;> simp_all
  ·rw [hfr] at hr
   split at hr
   ·cases hr
    exact ⟨_, _, _, _, _, rfl, by simp, by simp, ⟨H6.out.1, by simp, by simp, by simp, by simp, aU, by simp⟩, aL (by omega) (by omega) (by omega) (by omega), Sl.nil _ _ _ _⟩
   ·cases hr
theorem zI (B : ByteArray) (w : World) (hB : B.size ≤ 700) : Calls Tryz.prog 35 #[.int .i64 4, .string B] w (uS 4 B.data.toList w) := by
 have HX : Hid (Pr5 B w #[.int .i64 4, .int .u64 0, .int .u64 0, .int .u64 0, .int .u64 0, .int .u64 0, .int .i64 0, .int .u64 0, .int .u64 0, .slice none 0 0, .slice none 0 0] 0 0 ((((w.alloc (.cells #[.int .i64 0, .int .u64 0, .int .u64 0, .int .u64 0, .int .u64 0, .int .u64 0, .int .i64 0, .int .u64 0, .int .u64 0, .slice none 0 0, .slice none 0 0] 37)).alloc (.cells #[.string B, .int .i64 0, .int .i64 0] 135)).alloc (.cells #[.int .i64 4, .int .u64 0, .int .u64 0, .int .u64 0, .int .u64 0, .int .u64 0, .int .i64 0, .int .u64 0, .int .u64 0, .slice none 0 0, .slice none 0 0] 37)).alloc (.cells #[.int .i64 0, .int .i64 1, .int .i64 4, .int .i64 3, .int .i64 2, .int .i64 1, .int .i64 1, .int .i64 1] 3))) := hid (by
  refine ⟨(((br.alloc nl _).alloc (by simp) _).alloc (by simp; omega) _).alloc (by simp; omega) _, ?_, ?_, ?_⟩
  ·exact (ae _ _ _ (by simp; omega)).trans ((ae _ _ _ (by simp; omega)).trans ((ae _ _ _ (by simp)).trans (aa _ _ _ rfl)))
  ·exact (ae _ _ _ (by simp)).trans ((ae _ _ _ (by simp)).trans (aa _ _ _ (by simp)))
  ·exact (ae _ _ _ (by simp)).trans (aa _ _ _ (by simp)))
 go_enter Tryz.func35, Tryz.ntmps35
 go_upto_region 4 with fail
 generalize ((((w.alloc (.cells #[.int .i64 0, .int .u64 0, .int .u64 0, .int .u64 0, .int .u64 0, .int .u64 0, .int .i64 0, .int .u64 0, .int .u64 0, .slice none 0 0, .slice none 0 0] 37)).alloc (.cells #[.string B, .int .i64 0, .int .i64 0] 135)).alloc (.cells #[.int .i64 4, .int .u64 0, .int .u64 0, .int .u64 0, .int .u64 0, .int .u64 0, .int .i64 0, .int .u64 0, .int .u64 0, .slice none 0 0, .slice none 0 0] 37)).alloc (.cells #[.int .i64 0, .int .i64 1, .int .i64 4, .int .i64 3, .int .i64 2, .int .i64 1, .int .i64 1, .int .i64 1] 3)) = X at HX ⊢
 obtain ⟨c0, c1, c2⟩ := dW HX.out.r6
 go_wp2_with fail
 refine (bL B (some B.data.toList) 0 0 2 X (by omega) (by omega) (fK B)).mono ?_
 rintro ex w1 ⟨a1, e1, sv, rfl, h1, hsl, hb1⟩
 have H1 := hid (HX.out.below hb1)
 have HSL := hid hsl
 have lX : w.heap.size + 2 < X.heap.size := (Array.getElem?_eq_some_iff.1 HX.out.r7).1
 have HLX := hid lX
 clear hb1 c0 c1 c2 HX hsl lX
 obtain ⟨d0, d1, d2⟩ := dW H1.out.r6
 have zz := dw H1.out.r6
 have z0 := zz 0
 have z1 := zz 1
 have z2 := zz 2
 clear zz
 go_upto_region 5 with fail
 have H2 := hid (H1.out.set6 a1 e1)
 have HSL2 : Hid (Sl (((w1.setCell ⟨w.heap.size + 1, 0, none⟩ (.string B)).setCell ⟨w.heap.size + 1, 1, none⟩ (.int .i64 a1)).setCell ⟨w.heap.size + 1, 2, none⟩ (.int .i64 e1)) (fun b => X.heap.size ≤ b) true 1 (nsS 2 (some B.data.toList)).1.length (aX (nsS 2 (some B.data.toList)).1) sv) := hid (Sl.keep HSL.out (by omega) (fun b hb hl => (eH (.string B) (.int .i64 a1) (.int .i64 e1) H1.out.r6).2 b (by have hb : X.heap.size ≤ b := hb; have := HLX.out; show b ≠ _; omega) hl) (fun _ _ h => h))
 generalize (((w1.setCell ⟨w.heap.size + 1, 0, none⟩ (.string B)).setCell ⟨w.heap.size + 1, 1, none⟩ (.int .i64 a1)).setCell ⟨w.heap.size + 1, 2, none⟩ (.int .i64 e1)) = w2 at H2 HSL2 ⊢
 clear d0 d1 d2 z0 z1 z2 H1 HSL
 have s2 : w2.cell? ⟨w.heap.size + 1, 2, none⟩ = some (.int .i64 e1) := by rw [cell_of_row w2 _ 2 _ _ _ H2.out.r6]; rfl
 cases hns : nsO 2 B.data.toList with
 | none =>
  have he : (e1 == 0) = false := by have := h1; rw [dH.1 hns] at this; exact this
  have he2 : (e1 != 0) = true := by simp [bne, he]
  have HN : Hid (bA 4 B.data.toList = none) := hid (fM hns)
  have g4 := H2.out.r4
  have r7 := H2.out.r7
  obtain ⟨x0, x1, x2, x3, x4, x5, x6, x7, x8, x9, x10⟩ := bG (g := w.heap.size + 2) r7
  clear r7 hns h1
  go_wp2_with (refine wpList_store_row rfl 37 (.tmp 4) (.tmp 34) rfl rfl w.heap.size rfl _ rfl 37 _ g4 (by kernel_rfl) rfl (by simp [Value.oneCell']) ?_)
  refine bodyPost_ret (v := .tuple #[.agg #[.int .i64 4, .int .u64 0, .int .u64 0, .int .u64 0, .int .u64 0, .int .u64 0, .int .i64 0, .int .u64 0, .int .u64 0, .slice none 0 0, .slice none 0 0], .bool false]) (ah rfl _ _ w.heap.size 37 _ _ _ _ rfl (setRow_heap _ _ _ _ _ _ g4) Tryz.underlying37 rfl (by kernel_rfl) rfl) rfl ?_
  exact ⟨_, false, rfl, rfl, by simp [Value.oneCell'], below_setRow H2.out.bel _ _ nl, by rw [HN.out]; rfl, fun r h => by rw [HN.out] at h; cases h⟩
 | some p =>
  obtain ⟨xs, q⟩ := p
  have hn2 := dV.1 hns
  have hxl : xs.length = 2 := by have := gN 2 _ q (by rw [hn2]); rw [hn2] at this; exact this
  have hsl2 := HSL2.out
  rw [hn2] at h1 hsl2
  obtain ⟨he0, m, hm, hm2, hq⟩ := h1
  subst he0 hm
  have hlts : ∀ x ∈ xs, x < 18446744073709551616 := jR hns
  have HQ := hid (And.intro hm2 hq)
  have HNS := hid hns
  clear hn2 hm2 hq hns HSL2
  obtain ⟨t, x, rfl⟩ : ∃ t x : Nat, xs = [t, x] := by
   match xs, hxl with
   | [t, x], _ => exact ⟨t, x, rfl⟩
  obtain ⟨_, _, la, lc, rfl, _⟩ := Sl.shape hsl2
  obtain ⟨lb, lo, rfl, hlb, hlc⟩ := Sl.cells hsl2 (by simp)
  have l0 : w2.cell? ⟨lb, lo, none⟩ = some (.int .u64 (t : Nat)) := by have := (hlc 0 (by simp [aX])).1; simpa [aX] using this
  have l1 : w2.cell? ⟨lb, lo + 1, none⟩ = some (.int .u64 (x : Nat)) := by have := (hlc 1 (by simp [aX])).1; simpa [aX] using this
  have H6 : Hid (t < 18446744073709551616 ∧ x < 18446744073709551616 ∧ True) := hid ⟨hlts t (by simp), hlts x (by simp), trivial⟩
  have hlb2 : X.heap.size ≤ lb := hlb
  have lX := HLX.out
  have n1 : ¬ lb = w.heap.size + 2 := by omega
  have n2 : ¬ w.heap.size + 2 = lb := by omega
  rw [show [t, x].length = 2 from rfl]
  have r7 := H2.out.r7
  obtain ⟨x0, x1, x2, x3, x4, x5, x6, x7, x8, x9, x10⟩ := bG (g := w.heap.size + 2) r7
  have xfz := dw (g := w.heap.size + 2) r7
  have xf0 := xfz 0
  have xf1 := xfz 1
  have xf2 := xfz 2
  have xf3 := xfz 3
  have xf4 := xfz 4
  have xf5 := xfz 5
  have xf6 := xfz 6
  have xf7 := xfz 7
  have xf8 := xfz 8
  have xf9 := xfz 9
  have xf10 := xfz 10
  clear xfz
  clear hsl2 hlc hlb r7 hlb2 lX hxl
  go_upto_region 26 with fail
  have H3 : Hid (Pr5 B w #[.int .i64 4, .int .u64 (t : Nat), .int .u64 (x : Nat), .int .u64 0, .int .u64 0, .int .u64 0, .int .i64 0, .int .u64 0, .int .u64 0, .slice none 0 0, .slice none 0 0] (m : Int) 0 ((w2.setCell ⟨w.heap.size + 1 + 1, 1, none⟩ (.int .u64 (t : Nat))).setCell ⟨w.heap.size + 1 + 1, 2, none⟩ (.int .u64 (x : Nat)))) := hid ((H2.out.set7 1 (.int .u64 (t : Nat))).set7 2 (.int .u64 (x : Nat)))
  generalize ((w2.setCell ⟨w.heap.size + 1 + 1, 1, none⟩ (.int .u64 (t : Nat))).setCell ⟨w.heap.size + 1 + 1, 2, none⟩ (.int .u64 (x : Nat))) = w3 at H3 ⊢
  clear H2 x0 xf0 x1 xf1 x2 xf2 x3 xf3 x4 xf4 x5 xf5 x6 xf6 x7 xf7 x8 xf8 x9 xf9 x10 xf10 s2 l0 l1 n1 n2
  have r4 := H3.out.r4
  have r6 := H3.out.r6
  have r7 := H3.out.r7
  obtain ⟨x0, x1, x2, x3, x4, x5, x6, x7, x8, x9, x10⟩ := bG (g := w.heap.size + 1 + 1) r7
  obtain ⟨y0, y1, y2⟩ := dW r6
  obtain ⟨p0, p1, p2, p3, p4, p5, p6, p7, p8, p9, p10⟩ := bG r4
  have pfz := dw (g := w.heap.size) r4
  have pf0 := pfz 0
  have pf1 := pfz 1
  have pf2 := pfz 2
  have pf3 := pfz 3
  have pf4 := pfz 4
  have pf5 := pfz 5
  have pf6 := pfz 6
  have pf7 := pfz 7
  have pf8 := pfz 8
  have pf9 := pfz 9
  have pf10 := pfz 10
  clear pfz
  have hS := pK (w := w) (.int .i64 4) (.int .u64 (t : Nat)) (.int .u64 (x : Nat)) (.int .u64 0) (.int .u64 0) (.int .u64 0) (.int .i64 0) (.int .u64 0) (.int .u64 0) (.slice none 0 0) (.slice none 0 0) H3.out.bel nl r4
  have HS := hid hS
  clear r4 r6 r7 hS
  go_region
  clear x0 p0 pf0 x1 p1 pf1 x2 p2 pf2 x3 p3 pf3 x4 p4 pf4 x5 p5 pf5 x6 p6 pf6 x7 p7 pf7 x8 p8 pf8 x9 p9 pf9 x10 p10 pf10 y0 y1 y2
  generalize hw9 : (((((((((((w3.setCell ⟨w.heap.size, 0, none⟩ (.int .i64 4)).setCell ⟨w.heap.size, 1, none⟩ (.int .u64 (t : Nat))).setCell ⟨w.heap.size, 2, none⟩ (.int .u64 (x : Nat))).setCell ⟨w.heap.size, 3, none⟩ (.int .u64 0)).setCell ⟨w.heap.size, 4, none⟩ (.int .u64 0)).setCell ⟨w.heap.size, 5, none⟩ (.int .u64 0)).setCell ⟨w.heap.size, 6, none⟩ (.int .i64 0)).setCell ⟨w.heap.size, 7, none⟩ (.int .u64 0)).setCell ⟨w.heap.size, 8, none⟩ (.int .u64 0)).setCell ⟨w.heap.size, 9, none⟩ (.slice none 0 0)).setCell ⟨w.heap.size, 10, none⟩ (.slice none 0 0)).drew = w9
  have HF : Hid (w9.heap[w.heap.size]? = some (.cells #[.int .i64 4, .int .u64 (t : Nat), .int .u64 (x : Nat), .int .u64 0, .int .u64 0, .int .u64 0, .int .i64 0, .int .u64 0, .int .u64 0, .slice none 0 0, .slice none 0 0] 37 (0, 0)) ∧ Below w.heap.size w w9) := hid (by rw [← hw9]; exact iA HS.out.1 HS.out.2)
  clear hw9 HS H3
  go_wp2_with fail
  refine bodyPost_ret (v := .tuple #[.agg #[.int .i64 4, .int .u64 (t : Nat), .int .u64 (x : Nat), .int .u64 0, .int .u64 0, .int .u64 0, .int .i64 0, .int .u64 0, .int .u64 0, .slice none 0 0, .slice none 0 0], .bool ((m : Int) == (B.size : Int))]) (ah rfl _ _ w.heap.size 37 _ _ _ _ rfl HF.out.1 Tryz.underlying37 rfl (by kernel_rfl) rfl) rfl ?_
  have hb : ((m : Int) == (B.size : Int)) = decide (q = []) := by
   have := drop_nil HQ.out.1 HQ.out.2
   rw [Bool.eq_iff_iff]
   simp only [beq_iff_eq, decide_eq_true_eq, this]
   omega
  have hfr : bA 4 B.data.toList = if q = [] then some ⟨4, t, x, 0, 0, 0, .zero, []⟩ else none := by unfold bA; rw [show kE 4 = 2 from rfl, HNS.out]; simp
  refine ⟨_, _, rfl, rfl, by simp [Value.oneCell'], HF.out.2, ?_, fun r hr => ?_⟩
  ·rw [hb, hfr]; split <;> simp_all
  ·rw [hfr] at hr
   split at hr
   ·cases hr
    exact ⟨_, _, _, _, _, rfl, by simp, by simp, ⟨H6.out.1, H6.out.2.1, by simp, by simp, by simp, aU, by simp⟩, aL (by omega) (by omega) (by omega) (by omega), Sl.nil _ _ _ _⟩
   ·cases hr
theorem zJ (B : ByteArray) (w : World) (hB : B.size ≤ 700) : Calls Tryz.prog 35 #[.int .i64 3, .string B] w (uS 3 B.data.toList w) := by
 have HX : Hid (Pr5 B w #[.int .i64 3, .int .u64 0, .int .u64 0, .int .u64 0, .int .u64 0, .int .u64 0, .int .i64 0, .int .u64 0, .int .u64 0, .slice none 0 0, .slice none 0 0] 0 0 ((((w.alloc (.cells #[.int .i64 0, .int .u64 0, .int .u64 0, .int .u64 0, .int .u64 0, .int .u64 0, .int .i64 0, .int .u64 0, .int .u64 0, .slice none 0 0, .slice none 0 0] 37)).alloc (.cells #[.string B, .int .i64 0, .int .i64 0] 135)).alloc (.cells #[.int .i64 3, .int .u64 0, .int .u64 0, .int .u64 0, .int .u64 0, .int .u64 0, .int .i64 0, .int .u64 0, .int .u64 0, .slice none 0 0, .slice none 0 0] 37)).alloc (.cells #[.int .i64 0, .int .i64 1, .int .i64 4, .int .i64 3, .int .i64 2, .int .i64 1, .int .i64 1, .int .i64 1] 3))) := hid (by
  refine ⟨(((br.alloc nl _).alloc (by simp) _).alloc (by simp; omega) _).alloc (by simp; omega) _, ?_, ?_, ?_⟩
  ·exact (ae _ _ _ (by simp; omega)).trans ((ae _ _ _ (by simp; omega)).trans ((ae _ _ _ (by simp)).trans (aa _ _ _ rfl)))
  ·exact (ae _ _ _ (by simp)).trans ((ae _ _ _ (by simp)).trans (aa _ _ _ (by simp)))
  ·exact (ae _ _ _ (by simp)).trans (aa _ _ _ (by simp)))
 go_enter Tryz.func35, Tryz.ntmps35
 go_upto_region 4 with fail
 generalize ((((w.alloc (.cells #[.int .i64 0, .int .u64 0, .int .u64 0, .int .u64 0, .int .u64 0, .int .u64 0, .int .i64 0, .int .u64 0, .int .u64 0, .slice none 0 0, .slice none 0 0] 37)).alloc (.cells #[.string B, .int .i64 0, .int .i64 0] 135)).alloc (.cells #[.int .i64 3, .int .u64 0, .int .u64 0, .int .u64 0, .int .u64 0, .int .u64 0, .int .i64 0, .int .u64 0, .int .u64 0, .slice none 0 0, .slice none 0 0] 37)).alloc (.cells #[.int .i64 0, .int .i64 1, .int .i64 4, .int .i64 3, .int .i64 2, .int .i64 1, .int .i64 1, .int .i64 1] 3)) = X at HX ⊢
 obtain ⟨c0, c1, c2⟩ := dW HX.out.r6
 go_wp2_with fail
 refine (bL B (some B.data.toList) 0 0 3 X (by omega) (by omega) (fK B)).mono ?_
 rintro ex w1 ⟨a1, e1, sv, rfl, h1, hsl, hb1⟩
 have H1 := hid (HX.out.below hb1)
 have HSL := hid hsl
 have lX : w.heap.size + 2 < X.heap.size := (Array.getElem?_eq_some_iff.1 HX.out.r7).1
 have HLX := hid lX
 clear hb1 c0 c1 c2 HX hsl lX
 obtain ⟨d0, d1, d2⟩ := dW H1.out.r6
 have zz := dw H1.out.r6
 have z0 := zz 0
 have z1 := zz 1
 have z2 := zz 2
 clear zz
 go_upto_region 5 with fail
 have H2 := hid (H1.out.set6 a1 e1)
 have HSL2 : Hid (Sl (((w1.setCell ⟨w.heap.size + 1, 0, none⟩ (.string B)).setCell ⟨w.heap.size + 1, 1, none⟩ (.int .i64 a1)).setCell ⟨w.heap.size + 1, 2, none⟩ (.int .i64 e1)) (fun b => X.heap.size ≤ b) true 1 (nsS 3 (some B.data.toList)).1.length (aX (nsS 3 (some B.data.toList)).1) sv) := hid (Sl.keep HSL.out (by omega) (fun b hb hl => (eH (.string B) (.int .i64 a1) (.int .i64 e1) H1.out.r6).2 b (by have hb : X.heap.size ≤ b := hb; have := HLX.out; show b ≠ _; omega) hl) (fun _ _ h => h))
 generalize (((w1.setCell ⟨w.heap.size + 1, 0, none⟩ (.string B)).setCell ⟨w.heap.size + 1, 1, none⟩ (.int .i64 a1)).setCell ⟨w.heap.size + 1, 2, none⟩ (.int .i64 e1)) = w2 at H2 HSL2 ⊢
 clear d0 d1 d2 z0 z1 z2 H1 HSL
 have s2 : w2.cell? ⟨w.heap.size + 1, 2, none⟩ = some (.int .i64 e1) := by rw [cell_of_row w2 _ 2 _ _ _ H2.out.r6]; rfl
 cases hns : nsO 3 B.data.toList with
 | none =>
  have he : (e1 == 0) = false := by have := h1; rw [dH.1 hns] at this; exact this
  have he2 : (e1 != 0) = true := by simp [bne, he]
  have HN : Hid (bA 3 B.data.toList = none) := hid (fM hns)
  have g4 := H2.out.r4
  have r7 := H2.out.r7
  obtain ⟨x0, x1, x2, x3, x4, x5, x6, x7, x8, x9, x10⟩ := bG (g := w.heap.size + 2) r7
  clear r7 hns h1
  go_wp2_with (refine wpList_store_row rfl 37 (.tmp 4) (.tmp 34) rfl rfl w.heap.size rfl _ rfl 37 _ g4 (by kernel_rfl) rfl (by simp [Value.oneCell']) ?_)
  refine bodyPost_ret (v := .tuple #[.agg #[.int .i64 3, .int .u64 0, .int .u64 0, .int .u64 0, .int .u64 0, .int .u64 0, .int .i64 0, .int .u64 0, .int .u64 0, .slice none 0 0, .slice none 0 0], .bool false]) (ah rfl _ _ w.heap.size 37 _ _ _ _ rfl (setRow_heap _ _ _ _ _ _ g4) Tryz.underlying37 rfl (by kernel_rfl) rfl) rfl ?_
  exact ⟨_, false, rfl, rfl, by simp [Value.oneCell'], below_setRow H2.out.bel _ _ nl, by rw [HN.out]; rfl, fun r h => by rw [HN.out] at h; cases h⟩
 | some p =>
  obtain ⟨xs, q⟩ := p
  have hn2 := dV.1 hns
  have hxl : xs.length = 3 := by have := gN 3 _ q (by rw [hn2]); rw [hn2] at this; exact this
  have hsl2 := HSL2.out
  rw [hn2] at h1 hsl2
  obtain ⟨he0, m, hm, hm2, hq⟩ := h1
  subst he0 hm
  have hlts : ∀ x ∈ xs, x < 18446744073709551616 := jR hns
  have HQ := hid (And.intro hm2 hq)
  have HNS := hid hns
  clear hn2 hm2 hq hns HSL2
  obtain ⟨t, x, y, rfl⟩ : ∃ t x y : Nat, xs = [t, x, y] := by
   match xs, hxl with
   | [t, x, y], _ => exact ⟨t, x, y, rfl⟩
  obtain ⟨_, _, la, lc, rfl, _⟩ := Sl.shape hsl2
  obtain ⟨lb, lo, rfl, hlb, hlc⟩ := Sl.cells hsl2 (by simp)
  have l0 : w2.cell? ⟨lb, lo, none⟩ = some (.int .u64 (t : Nat)) := by have := (hlc 0 (by simp [aX])).1; simpa [aX] using this
  have l1 : w2.cell? ⟨lb, lo + 1, none⟩ = some (.int .u64 (x : Nat)) := by have := (hlc 1 (by simp [aX])).1; simpa [aX] using this
  have l2 : w2.cell? ⟨lb, lo + 2, none⟩ = some (.int .u64 (y : Nat)) := by have := (hlc 2 (by simp [aX])).1; simpa [aX] using this
  have H6 : Hid (t < 18446744073709551616 ∧ x < 18446744073709551616 ∧ y < 18446744073709551616 ∧ True) := hid ⟨hlts t (by simp), hlts x (by simp), hlts y (by simp), trivial⟩
  have hlb2 : X.heap.size ≤ lb := hlb
  have lX := HLX.out
  have n1 : ¬ lb = w.heap.size + 2 := by omega
  have n2 : ¬ w.heap.size + 2 = lb := by omega
  rw [show [t, x, y].length = 3 from rfl]
  have r7 := H2.out.r7
  obtain ⟨x0, x1, x2, x3, x4, x5, x6, x7, x8, x9, x10⟩ := bG (g := w.heap.size + 2) r7
  have xfz := dw (g := w.heap.size + 2) r7
  have xf0 := xfz 0
  have xf1 := xfz 1
  have xf2 := xfz 2
  have xf3 := xfz 3
  have xf4 := xfz 4
  have xf5 := xfz 5
  have xf6 := xfz 6
  have xf7 := xfz 7
  have xf8 := xfz 8
  have xf9 := xfz 9
  have xf10 := xfz 10
  clear xfz
  clear hsl2 hlc hlb r7 hlb2 lX hxl
  go_upto_region 26 with fail
  have H3 : Hid (Pr5 B w #[.int .i64 3, .int .u64 (t : Nat), .int .u64 (x : Nat), .int .u64 0, .int .u64 0, .int .u64 (y : Nat), .int .i64 0, .int .u64 0, .int .u64 0, .slice none 0 0, .slice none 0 0] (m : Int) 0 (((w2.setCell ⟨w.heap.size + 1 + 1, 1, none⟩ (.int .u64 (t : Nat))).setCell ⟨w.heap.size + 1 + 1, 2, none⟩ (.int .u64 (x : Nat))).setCell ⟨w.heap.size + 1 + 1, 5, none⟩ (.int .u64 (y : Nat)))) := hid (((H2.out.set7 1 (.int .u64 (t : Nat))).set7 2 (.int .u64 (x : Nat))).set7 5 (.int .u64 (y : Nat)))
  generalize (((w2.setCell ⟨w.heap.size + 1 + 1, 1, none⟩ (.int .u64 (t : Nat))).setCell ⟨w.heap.size + 1 + 1, 2, none⟩ (.int .u64 (x : Nat))).setCell ⟨w.heap.size + 1 + 1, 5, none⟩ (.int .u64 (y : Nat))) = w3 at H3 ⊢
  clear H2 x0 xf0 x1 xf1 x2 xf2 x3 xf3 x4 xf4 x5 xf5 x6 xf6 x7 xf7 x8 xf8 x9 xf9 x10 xf10 s2 l0 l1 l2 n1 n2
  have r4 := H3.out.r4
  have r6 := H3.out.r6
  have r7 := H3.out.r7
  obtain ⟨x0, x1, x2, x3, x4, x5, x6, x7, x8, x9, x10⟩ := bG (g := w.heap.size + 1 + 1) r7
  obtain ⟨y0, y1, y2⟩ := dW r6
  obtain ⟨p0, p1, p2, p3, p4, p5, p6, p7, p8, p9, p10⟩ := bG r4
  have pfz := dw (g := w.heap.size) r4
  have pf0 := pfz 0
  have pf1 := pfz 1
  have pf2 := pfz 2
  have pf3 := pfz 3
  have pf4 := pfz 4
  have pf5 := pfz 5
  have pf6 := pfz 6
  have pf7 := pfz 7
  have pf8 := pfz 8
  have pf9 := pfz 9
  have pf10 := pfz 10
  clear pfz
  have hS := pK (w := w) (.int .i64 3) (.int .u64 (t : Nat)) (.int .u64 (x : Nat)) (.int .u64 0) (.int .u64 0) (.int .u64 (y : Nat)) (.int .i64 0) (.int .u64 0) (.int .u64 0) (.slice none 0 0) (.slice none 0 0) H3.out.bel nl r4
  have HS := hid hS
  clear r4 r6 r7 hS
  go_region
  clear x0 p0 pf0 x1 p1 pf1 x2 p2 pf2 x3 p3 pf3 x4 p4 pf4 x5 p5 pf5 x6 p6 pf6 x7 p7 pf7 x8 p8 pf8 x9 p9 pf9 x10 p10 pf10 y0 y1 y2
  generalize hw9 : (((((((((((w3.setCell ⟨w.heap.size, 0, none⟩ (.int .i64 3)).setCell ⟨w.heap.size, 1, none⟩ (.int .u64 (t : Nat))).setCell ⟨w.heap.size, 2, none⟩ (.int .u64 (x : Nat))).setCell ⟨w.heap.size, 3, none⟩ (.int .u64 0)).setCell ⟨w.heap.size, 4, none⟩ (.int .u64 0)).setCell ⟨w.heap.size, 5, none⟩ (.int .u64 (y : Nat))).setCell ⟨w.heap.size, 6, none⟩ (.int .i64 0)).setCell ⟨w.heap.size, 7, none⟩ (.int .u64 0)).setCell ⟨w.heap.size, 8, none⟩ (.int .u64 0)).setCell ⟨w.heap.size, 9, none⟩ (.slice none 0 0)).setCell ⟨w.heap.size, 10, none⟩ (.slice none 0 0)).drew = w9
  have HF : Hid (w9.heap[w.heap.size]? = some (.cells #[.int .i64 3, .int .u64 (t : Nat), .int .u64 (x : Nat), .int .u64 0, .int .u64 0, .int .u64 (y : Nat), .int .i64 0, .int .u64 0, .int .u64 0, .slice none 0 0, .slice none 0 0] 37 (0, 0)) ∧ Below w.heap.size w w9) := hid (by rw [← hw9]; exact iA HS.out.1 HS.out.2)
  clear hw9 HS H3
  go_wp2_with fail
  refine bodyPost_ret (v := .tuple #[.agg #[.int .i64 3, .int .u64 (t : Nat), .int .u64 (x : Nat), .int .u64 0, .int .u64 0, .int .u64 (y : Nat), .int .i64 0, .int .u64 0, .int .u64 0, .slice none 0 0, .slice none 0 0], .bool ((m : Int) == (B.size : Int))]) (ah rfl _ _ w.heap.size 37 _ _ _ _ rfl HF.out.1 Tryz.underlying37 rfl (by kernel_rfl) rfl) rfl ?_
  have hb : ((m : Int) == (B.size : Int)) = decide (q = []) := by
   have := drop_nil HQ.out.1 HQ.out.2
   rw [Bool.eq_iff_iff]
   simp only [beq_iff_eq, decide_eq_true_eq, this]
   omega
  have hfr : bA 3 B.data.toList = if q = [] then some ⟨3, t, x, 0, 0, y, .zero, []⟩ else none := by unfold bA; rw [show kE 3 = 3 from rfl, HNS.out]; simp
  refine ⟨_, _, rfl, rfl, by simp [Value.oneCell'], HF.out.2, ?_, fun r hr => ?_⟩
  ·rw [hb, hfr]; split <;> simp_all
  ·rw [hfr] at hr
   split at hr
   ·cases hr
    exact ⟨_, _, _, _, _, rfl, by simp, by simp, ⟨H6.out.1, H6.out.2.1, by simp, by simp, H6.out.2.2.1, aU, by simp⟩, aL (by omega) (by omega) (by omega) (by omega), Sl.nil _ _ _ _⟩
   ·cases hr
theorem zK (B : ByteArray) (w : World) (hB : B.size ≤ 700) : Calls Tryz.prog 35 #[.int .i64 2, .string B] w (uS 2 B.data.toList w) := by
 have HX : Hid (Pr5 B w #[.int .i64 2, .int .u64 0, .int .u64 0, .int .u64 0, .int .u64 0, .int .u64 0, .int .i64 0, .int .u64 0, .int .u64 0, .slice none 0 0, .slice none 0 0] 0 0 ((((w.alloc (.cells #[.int .i64 0, .int .u64 0, .int .u64 0, .int .u64 0, .int .u64 0, .int .u64 0, .int .i64 0, .int .u64 0, .int .u64 0, .slice none 0 0, .slice none 0 0] 37)).alloc (.cells #[.string B, .int .i64 0, .int .i64 0] 135)).alloc (.cells #[.int .i64 2, .int .u64 0, .int .u64 0, .int .u64 0, .int .u64 0, .int .u64 0, .int .i64 0, .int .u64 0, .int .u64 0, .slice none 0 0, .slice none 0 0] 37)).alloc (.cells #[.int .i64 0, .int .i64 1, .int .i64 4, .int .i64 3, .int .i64 2, .int .i64 1, .int .i64 1, .int .i64 1] 3))) := hid (by
  refine ⟨(((br.alloc nl _).alloc (by simp) _).alloc (by simp; omega) _).alloc (by simp; omega) _, ?_, ?_, ?_⟩
  ·exact (ae _ _ _ (by simp; omega)).trans ((ae _ _ _ (by simp; omega)).trans ((ae _ _ _ (by simp)).trans (aa _ _ _ rfl)))
  ·exact (ae _ _ _ (by simp)).trans ((ae _ _ _ (by simp)).trans (aa _ _ _ (by simp)))
  ·exact (ae _ _ _ (by simp)).trans (aa _ _ _ (by simp)))
 go_enter Tryz.func35, Tryz.ntmps35
 go_upto_region 4 with fail
 generalize ((((w.alloc (.cells #[.int .i64 0, .int .u64 0, .int .u64 0, .int .u64 0, .int .u64 0, .int .u64 0, .int .i64 0, .int .u64 0, .int .u64 0, .slice none 0 0, .slice none 0 0] 37)).alloc (.cells #[.string B, .int .i64 0, .int .i64 0] 135)).alloc (.cells #[.int .i64 2, .int .u64 0, .int .u64 0, .int .u64 0, .int .u64 0, .int .u64 0, .int .i64 0, .int .u64 0, .int .u64 0, .slice none 0 0, .slice none 0 0] 37)).alloc (.cells #[.int .i64 0, .int .i64 1, .int .i64 4, .int .i64 3, .int .i64 2, .int .i64 1, .int .i64 1, .int .i64 1] 3)) = X at HX ⊢
 obtain ⟨c0, c1, c2⟩ := dW HX.out.r6
 go_wp2_with fail
 refine (bL B (some B.data.toList) 0 0 4 X (by omega) (by omega) (fK B)).mono ?_
 rintro ex w1 ⟨a1, e1, sv, rfl, h1, hsl, hb1⟩
 have H1 := hid (HX.out.below hb1)
 have HSL := hid hsl
 have lX : w.heap.size + 2 < X.heap.size := (Array.getElem?_eq_some_iff.1 HX.out.r7).1
 have HLX := hid lX
 clear hb1 c0 c1 c2 HX hsl lX
 obtain ⟨d0, d1, d2⟩ := dW H1.out.r6
 have zz := dw H1.out.r6
 have z0 := zz 0
 have z1 := zz 1
 have z2 := zz 2
 clear zz
 go_upto_region 5 with fail
 have H2 := hid (H1.out.set6 a1 e1)
 have HSL2 : Hid (Sl (((w1.setCell ⟨w.heap.size + 1, 0, none⟩ (.string B)).setCell ⟨w.heap.size + 1, 1, none⟩ (.int .i64 a1)).setCell ⟨w.heap.size + 1, 2, none⟩ (.int .i64 e1)) (fun b => X.heap.size ≤ b) true 1 (nsS 4 (some B.data.toList)).1.length (aX (nsS 4 (some B.data.toList)).1) sv) := hid (Sl.keep HSL.out (by omega) (fun b hb hl => (eH (.string B) (.int .i64 a1) (.int .i64 e1) H1.out.r6).2 b (by have hb : X.heap.size ≤ b := hb; have := HLX.out; show b ≠ _; omega) hl) (fun _ _ h => h))
 generalize (((w1.setCell ⟨w.heap.size + 1, 0, none⟩ (.string B)).setCell ⟨w.heap.size + 1, 1, none⟩ (.int .i64 a1)).setCell ⟨w.heap.size + 1, 2, none⟩ (.int .i64 e1)) = w2 at H2 HSL2 ⊢
 clear d0 d1 d2 z0 z1 z2 H1 HSL
 have s2 : w2.cell? ⟨w.heap.size + 1, 2, none⟩ = some (.int .i64 e1) := by rw [cell_of_row w2 _ 2 _ _ _ H2.out.r6]; rfl
 cases hns : nsO 4 B.data.toList with
 | none =>
  have he : (e1 == 0) = false := by have := h1; rw [dH.1 hns] at this; exact this
  have he2 : (e1 != 0) = true := by simp [bne, he]
  have HN : Hid (bA 2 B.data.toList = none) := hid (fM hns)
  have g4 := H2.out.r4
  have r7 := H2.out.r7
  obtain ⟨x0, x1, x2, x3, x4, x5, x6, x7, x8, x9, x10⟩ := bG (g := w.heap.size + 2) r7
  clear r7 hns h1
  go_wp2_with (refine wpList_store_row rfl 37 (.tmp 4) (.tmp 34) rfl rfl w.heap.size rfl _ rfl 37 _ g4 (by kernel_rfl) rfl (by simp [Value.oneCell']) ?_)
  refine bodyPost_ret (v := .tuple #[.agg #[.int .i64 2, .int .u64 0, .int .u64 0, .int .u64 0, .int .u64 0, .int .u64 0, .int .i64 0, .int .u64 0, .int .u64 0, .slice none 0 0, .slice none 0 0], .bool false]) (ah rfl _ _ w.heap.size 37 _ _ _ _ rfl (setRow_heap _ _ _ _ _ _ g4) Tryz.underlying37 rfl (by kernel_rfl) rfl) rfl ?_
  exact ⟨_, false, rfl, rfl, by simp [Value.oneCell'], below_setRow H2.out.bel _ _ nl, by rw [HN.out]; rfl, fun r h => by rw [HN.out] at h; cases h⟩
 | some p =>
  obtain ⟨xs, q⟩ := p
  have hn2 := dV.1 hns
  have hxl : xs.length = 4 := by have := gN 4 _ q (by rw [hn2]); rw [hn2] at this; exact this
  have hsl2 := HSL2.out
  rw [hn2] at h1 hsl2
  obtain ⟨he0, m, hm, hm2, hq⟩ := h1
  subst he0 hm
  have hlts : ∀ x ∈ xs, x < 18446744073709551616 := jR hns
  have HQ := hid (And.intro hm2 hq)
  have HNS := hid hns
  clear hn2 hm2 hq hns HSL2
  obtain ⟨t, x, y, z, rfl⟩ : ∃ t x y z : Nat, xs = [t, x, y, z] := by
   match xs, hxl with
   | [t, x, y, z], _ => exact ⟨t, x, y, z, rfl⟩
  obtain ⟨_, _, la, lc, rfl, _⟩ := Sl.shape hsl2
  obtain ⟨lb, lo, rfl, hlb, hlc⟩ := Sl.cells hsl2 (by simp)
  have l0 : w2.cell? ⟨lb, lo, none⟩ = some (.int .u64 (t : Nat)) := by have := (hlc 0 (by simp [aX])).1; simpa [aX] using this
  have l1 : w2.cell? ⟨lb, lo + 1, none⟩ = some (.int .u64 (x : Nat)) := by have := (hlc 1 (by simp [aX])).1; simpa [aX] using this
  have l2 : w2.cell? ⟨lb, lo + 2, none⟩ = some (.int .u64 (y : Nat)) := by have := (hlc 2 (by simp [aX])).1; simpa [aX] using this
  have l3 : w2.cell? ⟨lb, lo + 3, none⟩ = some (.int .u64 (z : Nat)) := by have := (hlc 3 (by simp [aX])).1; simpa [aX] using this
  have H6 : Hid (t < 18446744073709551616 ∧ x < 18446744073709551616 ∧ y < 18446744073709551616 ∧ z < 18446744073709551616 ∧ True) := hid ⟨hlts t (by simp), hlts x (by simp), hlts y (by simp), hlts z (by simp), trivial⟩
  have hlb2 : X.heap.size ≤ lb := hlb
  have lX := HLX.out
  have n1 : ¬ lb = w.heap.size + 2 := by omega
  have n2 : ¬ w.heap.size + 2 = lb := by omega
  rw [show [t, x, y, z].length = 4 from rfl]
  have r7 := H2.out.r7
  obtain ⟨x0, x1, x2, x3, x4, x5, x6, x7, x8, x9, x10⟩ := bG (g := w.heap.size + 2) r7
  have xfz := dw (g := w.heap.size + 2) r7
  have xf0 := xfz 0
  have xf1 := xfz 1
  have xf2 := xfz 2
  have xf3 := xfz 3
  have xf4 := xfz 4
  have xf5 := xfz 5
  have xf6 := xfz 6
  have xf7 := xfz 7
  have xf8 := xfz 8
  have xf9 := xfz 9
  have xf10 := xfz 10
  clear xfz
  clear hsl2 hlc hlb r7 hlb2 lX hxl
  go_upto_region 11 with fail
  go_region
  go_upto_region 26 with fail
  have H3 : Hid (Pr5 B w #[.int .i64 2, .int .u64 (t : Nat), .int .u64 (x : Nat), .int .u64 (y : Nat), .int .u64 (z : Nat), .int .u64 0, .int .i64 0, .int .u64 0, .int .u64 0, .slice none 0 0, .slice none 0 0] (m : Int) 0 ((((w2.setCell ⟨w.heap.size + 1 + 1, 1, none⟩ (.int .u64 (t : Nat))).setCell ⟨w.heap.size + 1 + 1, 2, none⟩ (.int .u64 (x : Nat))).setCell ⟨w.heap.size + 1 + 1, 3, none⟩ (.int .u64 (y : Nat))).setCell ⟨w.heap.size + 1 + 1, 4, none⟩ (.int .u64 (z : Nat))).drew) := hid ((((H2.out.set7 1 (.int .u64 (t : Nat))).set7 2 (.int .u64 (x : Nat))).set7 3 (.int .u64 (y : Nat))).set7 4 (.int .u64 (z : Nat))).drew
  generalize ((((w2.setCell ⟨w.heap.size + 1 + 1, 1, none⟩ (.int .u64 (t : Nat))).setCell ⟨w.heap.size + 1 + 1, 2, none⟩ (.int .u64 (x : Nat))).setCell ⟨w.heap.size + 1 + 1, 3, none⟩ (.int .u64 (y : Nat))).setCell ⟨w.heap.size + 1 + 1, 4, none⟩ (.int .u64 (z : Nat))).drew = w3 at H3 ⊢
  clear H2 x0 xf0 x1 xf1 x2 xf2 x3 xf3 x4 xf4 x5 xf5 x6 xf6 x7 xf7 x8 xf8 x9 xf9 x10 xf10 s2 l0 l1 l2 l3 n1 n2
  have r4 := H3.out.r4
  have r6 := H3.out.r6
  have r7 := H3.out.r7
  obtain ⟨x0, x1, x2, x3, x4, x5, x6, x7, x8, x9, x10⟩ := bG (g := w.heap.size + 1 + 1) r7
  obtain ⟨y0, y1, y2⟩ := dW r6
  obtain ⟨p0, p1, p2, p3, p4, p5, p6, p7, p8, p9, p10⟩ := bG r4
  have pfz := dw (g := w.heap.size) r4
  have pf0 := pfz 0
  have pf1 := pfz 1
  have pf2 := pfz 2
  have pf3 := pfz 3
  have pf4 := pfz 4
  have pf5 := pfz 5
  have pf6 := pfz 6
  have pf7 := pfz 7
  have pf8 := pfz 8
  have pf9 := pfz 9
  have pf10 := pfz 10
  clear pfz
  have hS := pK (w := w) (.int .i64 2) (.int .u64 (t : Nat)) (.int .u64 (x : Nat)) (.int .u64 (y : Nat)) (.int .u64 (z : Nat)) (.int .u64 0) (.int .i64 0) (.int .u64 0) (.int .u64 0) (.slice none 0 0) (.slice none 0 0) H3.out.bel nl r4
  have HS := hid hS
  clear r4 r6 r7 hS
  go_region
  clear x0 p0 pf0 x1 p1 pf1 x2 p2 pf2 x3 p3 pf3 x4 p4 pf4 x5 p5 pf5 x6 p6 pf6 x7 p7 pf7 x8 p8 pf8 x9 p9 pf9 x10 p10 pf10 y0 y1 y2
  generalize hw9 : (((((((((((w3.setCell ⟨w.heap.size, 0, none⟩ (.int .i64 2)).setCell ⟨w.heap.size, 1, none⟩ (.int .u64 (t : Nat))).setCell ⟨w.heap.size, 2, none⟩ (.int .u64 (x : Nat))).setCell ⟨w.heap.size, 3, none⟩ (.int .u64 (y : Nat))).setCell ⟨w.heap.size, 4, none⟩ (.int .u64 (z : Nat))).setCell ⟨w.heap.size, 5, none⟩ (.int .u64 0)).setCell ⟨w.heap.size, 6, none⟩ (.int .i64 0)).setCell ⟨w.heap.size, 7, none⟩ (.int .u64 0)).setCell ⟨w.heap.size, 8, none⟩ (.int .u64 0)).setCell ⟨w.heap.size, 9, none⟩ (.slice none 0 0)).setCell ⟨w.heap.size, 10, none⟩ (.slice none 0 0)).drew = w9
  have HF : Hid (w9.heap[w.heap.size]? = some (.cells #[.int .i64 2, .int .u64 (t : Nat), .int .u64 (x : Nat), .int .u64 (y : Nat), .int .u64 (z : Nat), .int .u64 0, .int .i64 0, .int .u64 0, .int .u64 0, .slice none 0 0, .slice none 0 0] 37 (0, 0)) ∧ Below w.heap.size w w9) := hid (by rw [← hw9]; exact iA HS.out.1 HS.out.2)
  clear hw9 HS H3
  go_wp2_with fail
  refine bodyPost_ret (v := .tuple #[.agg #[.int .i64 2, .int .u64 (t : Nat), .int .u64 (x : Nat), .int .u64 (y : Nat), .int .u64 (z : Nat), .int .u64 0, .int .i64 0, .int .u64 0, .int .u64 0, .slice none 0 0, .slice none 0 0], .bool ((m : Int) == (B.size : Int))]) (ah rfl _ _ w.heap.size 37 _ _ _ _ rfl HF.out.1 Tryz.underlying37 rfl (by kernel_rfl) rfl) rfl ?_
  have hb : ((m : Int) == (B.size : Int)) = decide (q = []) := by
   have := drop_nil HQ.out.1 HQ.out.2
   rw [Bool.eq_iff_iff]
   simp only [beq_iff_eq, decide_eq_true_eq, this]
   omega
  have hfr : bA 2 B.data.toList = if q = [] then some ⟨2, t, x, y, z, 0, .zero, []⟩ else none := by unfold bA; rw [show kE 2 = 4 from rfl, HNS.out]; simp
  refine ⟨_, _, rfl, rfl, by simp [Value.oneCell'], HF.out.2, ?_, fun r hr => ?_⟩
  ·rw [hb, hfr]; split <;> simp_all
  ·rw [hfr] at hr
   split at hr
   ·cases hr
    exact ⟨_, _, _, _, _, rfl, by simp, by simp, ⟨H6.out.1, H6.out.2.1, H6.out.2.2.1, H6.out.2.2.2.1, by simp, aU, by simp⟩, aL (by omega) (by omega) (by omega) (by omega), Sl.nil _ _ _ _⟩
   ·cases hr
end Go.Proofs.YtmgbhhmipmgcpaaGreatDoor
