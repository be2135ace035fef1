/- Walks. -/
import Derived.Test.YtmgbhhmipmgcpaaGreatDoorQ20
import Derived.Laws.IdiomStrings
set_option maxHeartbeats 4000000
set_option maxRecDepth 100000
namespace Go.Proofs.YtmgbhhmipmgcpaaGreatDoor
open Go.RowKit Go
set_option linter.unusedVariables false
set_option linter.unusedSimpArgs false
def uE (v v' : Value) : Prop := Sim v v' ∨ ∃ b b', v = .bool b ∧ v' = .bool b'
structure Sp2 (W : World) (bx B : Nat) (row : Array Value) (S : Nat → Prop) (wr : World) : Prop where
 bel : Below B W wr
 keep : bB (fun b => ¬ S b) W wr
 soft : ∀ b o v, S b → W.cell? ⟨b, o, none⟩ = some v → ∃ v', wr.cell? ⟨b, o, none⟩ = some v' ∧ uE v v'
 fro : ∀ b o, S b → b < W.heap.size → wr.frozen? ⟨b, o, none⟩ = W.frozen? ⟨b, o, none⟩
 box : wr.heap[bx]? = some (.cells row 47 (0, 0))
theorem uE.int {v' : Value} {k : IntKind} {n : Int} (h : uE (.int k n) v') : ∃ n', v' = .int k n' := by
 rcases h with (h | ⟨k1, a, b, h1, rfl⟩) | ⟨a, b, h1, _⟩
 ·exact ⟨n, h⟩
 ·simp only [Value.int.injEq] at h1; obtain ⟨rfl, _⟩ := h1; exact ⟨b, rfl⟩
 ·cases h1
theorem uE.bool {v' : Value} {b : Bool} (h : uE (.bool b) v') : ∃ b', v' = .bool b' := by
 rcases h with (h | ⟨k1, a, c, h1, rfl⟩) | ⟨a, c, h1, rfl⟩
 ·exact ⟨b, h⟩
 ·cases h1
 ·exact ⟨c, rfl⟩
theorem Sp2.set {W : World} {bx B : Nat} {row : Array Value} {S : Nat → Prop} {wr : World} (h : Sp2 W bx B row S wr) {bl off : Nat} (hS : S bl) (hB : B ≤ bl) (hx : bl ≠ bx) {u v : Value} (hu : W.cell? ⟨bl, off, none⟩ = some u) (huv : uE u v) : Sp2 W bx B row S (wr.setCell ⟨bl, off, none⟩ v) := by
 refine ⟨h.bel.setCell (by simp; omega) _, h.keep.trans h.bel.size (fun b hb _ => Below.heap_setCell _ _ _ _ (fun e => hb (by rw [e]; exact hS))), fun b o x hb hx => ?_, fun b o hb hl => ?_, ?_⟩
 ·obtain ⟨y, hy, hs⟩ := h.soft b o x hb hx
  by_cases e : (⟨bl, off, none⟩ : Addr) = ⟨b, o, none⟩
  ·rw [← e] at hx hy ⊢
   rw [hu] at hx
   cases hx
   exact ⟨v, World.cell?_setCell_same _ _ _ hy, huv⟩
  ·exact ⟨y, by rw [World.cell?_setCell_other _ _ _ _ e]; exact hy, hs⟩
 ·rw [World.frozen?_setCell]; exact h.fro b o hb hl
 ·rw [Below.heap_setCell _ _ _ _ (fun e => hx e.symm)]; exact h.box
theorem Sp2.drew {W : World} {bx B : Nat} {row : Array Value} {S : Nat → Prop} {wr : World} (h : Sp2 W bx B row S wr) : Sp2 W bx B row S wr.drew :=
 ⟨h.bel.drew, h.keep, fun b o v hb hc => by simpa using h.soft b o v hb hc, fun b o hb hl => by simpa using h.fro b o hb hl, h.box⟩
theorem oQ (B : Nat) (S : Nat → Prop) (hSB : ∀ b, S b → B ≤ b) (r : Rec) (v : Value) (w : World) (hBN : B ≤ w.heap.size) (hd : r.p.depth ≤ 900) (hr : aI w S true r v) :
  Calls Tryz.prog 12 #[v] w fun e w' => e = .returned (.tuple #[]) ∧ Below B w w' ∧ bB (fun b => ¬ S b) w w' := by
 obtain ⟨c0, c1, c2, c3, s, rfl, _, _, _, hp, he⟩ := hr
 obtain ⟨_, ad, cp, rfl, _⟩ := he.shape
 obtain ⟨row, hrow⟩ : ∃ row : Array Value, row = #[.int .i64 r.k, .int .u64 r.t, .int .u64 r.x, .int .u64 r.w, .int .u64 r.n, .int .u64 r.v, c0, c1, c2, c3, .slice ad r.es.length cp] := ⟨_, rfl⟩
 rw [← hrow]
 have h0 := heap_alloc_new w (.cells row 47)
 have hb0 : Below w.heap.size w (w.alloc (.cells row 47)) := br.alloc nl _
 have hs0 : (w.alloc (.cells row 47)).heap.size = w.heap.size + 1 := World.size_alloc _ _
 have hp1 : av (w.alloc (.cells row 47)) (fun b => S b ∧ b < w.heap.size) true r.p (.agg #[c0, c1, c2, c3]) := av.keep (fun b _ hl => hb0.block b hl) (fun b hb h => ⟨h, hb⟩) hp
 have he1 : bZ (w.alloc (.cells row 47)) (fun b => S b ∧ b < w.heap.size) true r.es (.slice ad r.es.length cp) := he.keep (fun b _ hl => hb0.block b hl) (fun b hb h => ⟨h, hb⟩)
 have HSH := hid (av.shape hp1 900 hd)
 have HE := hid he1
 have HB := hid (And.intro hb0 hs0)
 clear hp he hp1 he1 hb0 hs0
 go_enter Tryz.func12, Tryz.ntmps12
 rw [hrow] at h0 HSH HE HB ⊢
 go_upto_region 1 with fail
 generalize w.alloc (.cells #[.int .i64 r.k, .int .u64 r.t, .int .u64 r.x, .int .u64 r.w, .int .u64 r.n, .int .u64 r.v, c0, c1, c2, c3, .slice ad r.es.length cp] 47) = W at h0 HSH HE HB ⊢
 have g6 : W.cell? ⟨w.heap.size, 6, none⟩ = some c0 := by rw [cell_of_row W _ 6 _ _ _ h0]; rfl
 have g7 : W.cell? ⟨w.heap.size, 7, none⟩ = some c1 := by rw [cell_of_row W _ 7 _ _ _ h0]; rfl
 have g8 : W.cell? ⟨w.heap.size, 8, none⟩ = some c2 := by rw [cell_of_row W _ 8 _ _ _ h0]; rfl
 have g9 : W.cell? ⟨w.heap.size, 9, none⟩ = some c3 := by rw [cell_of_row W _ 9 _ _ _ h0]; rfl
 go_wp2_with fail
 refine (mG B w.heap.size (fun b => S b ∧ b < w.heap.size) (fun b h => ⟨hSB b h.1, h.2⟩) 900 _ _ hBN (by have := HB.out.2; omega) HSH.out).mono ?_
 rintro e w1 ⟨rfl, hsp⟩
 have H1 : Hid (Sp2 W w.heap.size B row (fun b => S b ∧ b < w.heap.size) w1) := hid ⟨hsp.below, hsp.keeps, fun b o x hb hc => by obtain ⟨y, h1, h2⟩ := hsp.soft.1 b o x hb hc; exact ⟨y, h1, .inl h2⟩, hsp.soft.2, (hsp.keeps w.heap.size (fun h => by have := h.2; omega) (Array.getElem?_eq_some_iff.1 h0).1).trans (by rw [hrow]; exact h0)⟩
 clear hsp g6 g7 g8 g9 h0 HSH
 have HSB := hid hSB
 have HRW := hid hrow
 clear hSB hrow
 go_wp2_with fail
 go_loopw [2] (fun i wr => ∃ j : Nat, j ≤ r.es.length ∧ i = .int .i64 j ∧ Hid (Sp2 W w.heap.size B row (fun b => S b ∧ b < w.heap.size) wr)) (fun i _ => r.es.length - (intOf i).toNat)
 case atStart => exact ⟨0, by omega, rfl, H1⟩
 case round =>
  obtain ⟨j, hj, rfl, HQ⟩ := hrel
  have g10 : wr.cell? ⟨w.heap.size, 10, none⟩ = some (.slice ad r.es.length cp) := by rw [cell_of_row wr _ 10 _ _ _ HQ.out.box, HRW.out]; rfl
  by_cases hlt : j < r.es.length
  ·obtain ⟨bl, off, rfl, hS, x0, _, _, x3, xf⟩ := HE.out.part j hlt
   obtain ⟨v0, y0, s0⟩ := HQ.out.soft _ _ _ hS x0
   obtain ⟨v3, y3, s3⟩ := HQ.out.soft _ _ _ hS x3
   obtain ⟨n0, rfl⟩ := s0.int
   obtain ⟨b3, rfl⟩ := s3.bool
   have hbl : bl < W.heap.size := by have := HB.out.2; have := hS.2; omega
   have f0 : wr.frozen? ⟨bl, off + j * 4, none⟩ = false := by rw [HQ.out.fro _ _ hS hbl]; exact xf rfl 0 (by omega)
   have f3 : wr.frozen? ⟨bl, off + j * 4 + 3, none⟩ = false := by rw [HQ.out.fro _ _ hS hbl]; exact xf rfl 3 (by omega)
   have z1 : (0 : Int) ≤ (j : Int) := by omega
   have z2 : (j : Int) < (r.es.length : Int) := by omega
   have hS4 : Sp2 W w.heap.size B row (fun b => S b ∧ b < w.heap.size) (wr.setCell ⟨bl, off + j * 4, none⟩ (.int .u64 (IntKind.u64.wrap (n0 + 1)))) := HQ.out.set hS (HSB.out bl hS.1) (by have := hS.2; omega) x0 (.inl (.inr ⟨_, _, _, rfl, rfl⟩))
   have m3 : (wr.setCell ⟨bl, off + j * 4, none⟩ (.int .u64 (IntKind.u64.wrap (n0 + 1)))).cell? ⟨bl, off + j * 4 + 3, none⟩ = some (.bool b3) := by rw [World.cell?_setCell_other _ _ _ _ (by simp)]; exact y3
   have k3 : (wr.setCell ⟨bl, off + j * 4, none⟩ (.int .u64 (IntKind.u64.wrap (n0 + 1)))).frozen? ⟨bl, off + j * 4 + 3, none⟩ = false := by rw [World.frozen?_setCell]; exact f3
   have H4 := hid hS4
   have HX3 := hid x3
   have HSS := hid hS
   clear x0 x3 xf s0 s3 hS4 hS y3 f3
   go_upto_region 6 with fail
   generalize (wr.setCell ⟨bl, off + j * 4, none⟩ (.int .u64 (IntKind.u64.wrap (n0 + 1)))) = w4 at H4 m3 k3 ⊢
   have h10 : w4.cell? ⟨w.heap.size, 10, none⟩ = some (.slice (some ⟨bl, off, none⟩) r.es.length cp) := by rw [cell_of_row w4 _ 10 _ _ _ H4.out.box, HRW.out]; rfl
   clear g10 y0 f0
   have HN : Hid (Sp2 W w.heap.size B row (fun b => S b ∧ b < w.heap.size) (w4.drew.setCell ⟨bl, off + j * 4 + 3, none⟩ (.bool (!b3)))) := hid (H4.out.drew.set HSS.out (HSB.out bl HSS.out.1) (by have := HSS.out.2; omega) HX3.out (.inr ⟨_, _, rfl, rfl⟩))
   go_region
   go_wp2_with fail
   go_roundw
   case rel => exact ⟨j + 1, by omega, by go_num, HN⟩
   case measure => simp [intOf]; omega
  ·have z2 : ¬ (j : Int) < (r.es.length : Int) := by omega
   have HF := hid (And.intro ((HB.out.1.mono hBN).trans HQ.out.bel) (fun b (hb : ¬ S b) (hl : b < w.heap.size) => (HQ.out.keep b (fun h => hb h.1) (by have := HB.out.2; omega)).trans (HB.out.1.block b hl)))
   go_wp2_with fail
   go_end0
   exact ⟨rfl, HF.out.1, HF.out.2⟩
theorem cZ (S : Nat → Prop) (own : Bool) (l : List UInt8) (v : Value) (w : World) (h : bM w S own l v) : (convert 22 9 v).run Tryz.prog w = .ok (.string ⟨l.toArray⟩) w := by
 obtain ⟨_, ad, cap, rfl, _⟩ := h.shape
 cases l with
 | nil =>
  cases ad with
  | none => rw [show ([] : List UInt8).length = 0 from rfl, run_convert_bytes_string (P := Tryz.prog) w 22 9 5 none 0 cap Tryz.underlying22 Tryz.underlying5 Tryz.underlying9]; rfl
  | some a => exact run_convert_bytes_back (P := Tryz.prog) w 22 9 5 a cap [] Tryz.underlying22 Tryz.underlying5 Tryz.underlying9 (fun j hj => by simp at hj)
 | cons c l =>
  obtain ⟨bl, off, rfl, _, hc⟩ := h.cell (by simp)
  exact run_convert_bytes_back (P := Tryz.prog) w 22 9 5 ⟨bl, off, none⟩ cap (c :: l) Tryz.underlying22 Tryz.underlying5 Tryz.underlying9 (fun j hj => by rw [Addr.add_lit]; exact (hc j hj).1)
theorem oU (S : Nat → Prop) (own : Bool) (k : Nat) (b : List UInt8) (pv : Value) (w : World) (hv : bM w S own b pv) :
  Calls Tryz.prog 7 #[.agg #[.int .u8 (k : Nat), pv]] w fun e w' => e = .returned (.agg #[.int .u8 (k : Nat), .string ⟨b.toArray⟩]) ∧ Below w.heap.size w w' := by
 have HC := hid (cZ S own b pv _ (hv.below ((br.alloc nl (.cells #[.int .u8 (k : Nat), pv] 24)).alloc (by simp) (.cells #[.int .u8 0, .string ⟨#[]⟩] 27)) nl))
 go_enter Tryz.func7, Tryz.ntmps7
 go_wp2_with (first | rw [HC.out] | fail)
 refine bodyPost_ret (v := .agg #[.int .u8 (k : Nat), .string ⟨b.toArray⟩]) (results_cell_row rfl _ _ (w.heap.size + 1) 27 _ _ _ rfl (aa _ _ _ (by simp)) Tryz.underlying27 rfl (by kernel_rfl)) rfl ⟨rfl, (br.alloc nl _).alloc (by simp) _⟩
end Go.Proofs.YtmgbhhmipmgcpaaGreatDoor
