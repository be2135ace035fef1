/- Records and versions handed over, in boxes; what Put answers, told in one way. -/
import Derived.Test.YtmgbhhmipmgcpaaGreatDoorQ58
import Derived.Test.YtmgbhhmipmgcpaaGreatDoorQW30
import Derived.Test.YtmgbhhmipmgcpaaGreatDoorQ49
namespace Go.Proofs.YtmgbhhmipmgcpaaGreatDoor
open Go.RowKit Go
set_option linter.unusedVariables false
set_option linter.unusedSimpArgs false
def pRf (r : Rec) (S : Nat → Prop) (v : Value) (w : World) : Prop := aI w S true r v
theorem iH (r : Rec) : iD (pRf r) := fun S S' v w w' hk hs hS h => aI.keep h hk hS
structure DR (T : TypeId) (g : Nat) (S : Nat → Prop) (r : Rec) (cs : Array Value) (w : World) : Prop where
 h : w.heap[g]? = some (.cells cs T (0, 0))
 r : aI w S true r (.agg cs)
theorem DR.keep {T : TypeId} {g : Nat} {S K : Nat → Prop} {r : Rec} {cs : Array Value} {w w' : World} (h : DR T g S r cs w) (hk : bB K w w') (hg : K g) (hS : ∀ b, S b → K b) : DR T g S r cs w' :=
 ⟨(hk g hg (Array.getElem?_eq_some_iff.1 h.h).1).trans h.h, h.r.keep (fun b hb hl => hk b (hS b hb) hl) (fun _ _ h => h)⟩
theorem DR.below {B : Nat} {T : TypeId} {g : Nat} {S : Nat → Prop} {r : Rec} {cs : Array Value} {w w' : World} (h : DR T g S r cs w) (hb : Below B w w') (hB : w.heap.size ≤ B) : DR T g S r cs w' :=
 h.keep (K := fun _ => True) (Below.keeps hb hB _) trivial (fun _ _ => trivial)
theorem DR.lt {T : TypeId} {g : Nat} {S : Nat → Prop} {r : Rec} {cs : Array Value} {w : World} (h : DR T g S r cs w) : g < w.heap.size := (Array.getElem?_eq_some_iff.1 h.h).1
theorem DR.cells {T : TypeId} {g : Nat} {S : Nat → Prop} {r : Rec} {a0 a1 a2 a3 a4 a5 a6 a7 a8 a9 a10 : Value} {w : World} (h : DR T g S r #[a0, a1, a2, a3, a4, a5, a6, a7, a8, a9, a10] w) : w.cell? ⟨g, 0, none⟩ = some a0 ∧ w.cell? ⟨g, 1, none⟩ = some a1 ∧ w.cell? ⟨g, 2, none⟩ = some a2 ∧ w.cell? ⟨g, 3, none⟩ = some a3 ∧ w.cell? ⟨g, 4, none⟩ = some a4 ∧ w.cell? ⟨g, 5, none⟩ = some a5 ∧ w.cell? ⟨g, 6, none⟩ = some a6 ∧ w.cell? ⟨g, 7, none⟩ = some a7 ∧ w.cell? ⟨g, 8, none⟩ = some a8 ∧ w.cell? ⟨g, 9, none⟩ = some a9 ∧ w.cell? ⟨g, 10, none⟩ = some a10 := by
 refine ⟨?_, ?_, ?_, ?_, ?_, ?_, ?_, ?_, ?_, ?_, ?_⟩
 all_goals (rw [cell_of_row w _ _ _ _ _ h.h]; rfl)
theorem DR.of_new {T : TypeId} {B : Nat} {r : Rec} {cs : Array Value} {w : World} (h : aI w (fun b => B ≤ b) true r (.agg cs)) : DR T w.heap.size (fun b => B ≤ b ∧ b < w.heap.size) r cs (w.alloc (.cells cs T)) :=
 ⟨heap_alloc_new _ _, h.keep (fun b _ hl => ax _ _ _ hl) (fun b hl hb => ⟨hb, hl⟩)⟩
theorem nK {r : Rec} : ∀ (S : Nat → Prop) (v : Value) (w : World), (Pr.of (pRf r)).holds S w v → ∃ cs, v = .agg cs ∧ cs.size = 11 ∧ ∀ x ∈ cs.toList, x.oneCell' = true := by
 intro S v w h
 obtain ⟨k0, k1, k2, k3, k4, k5, k6, k7, rfl, _⟩ := aI.conc (own := true) h
 exact ⟨_, rfl, rfl, by simp [Value.oneCell']⟩
structure Rx (T : TypeId) (g : Nat) (r : Rec) (cs : Array Value) (w : World) : Prop where
 h : w.heap[g]? = some (.cells cs T (0, 0))
 r : aI w (fun _ => True) false r (.agg cs)
theorem Rx.below {T : TypeId} {g : Nat} {r : Rec} {cs : Array Value} {w w' : World} (h : Rx T g r cs w) (hb : Below w.heap.size w w') : Rx T g r cs w' :=
 ⟨(hb.block _ (Array.getElem?_eq_some_iff.1 h.h).1).trans h.h, h.r.below hb nl⟩
theorem Rx.lt {T : TypeId} {g : Nat} {r : Rec} {cs : Array Value} {w : World} (h : Rx T g r cs w) : g < w.heap.size := (Array.getElem?_eq_some_iff.1 h.h).1
theorem Rx.cells {T : TypeId} {g : Nat} {r : Rec} {a0 a1 a2 a3 a4 a5 a6 a7 a8 a9 a10 : Value} {w : World} (h : Rx T g r #[a0, a1, a2, a3, a4, a5, a6, a7, a8, a9, a10] w) : w.cell? ⟨g, 0, none⟩ = some a0 ∧ w.cell? ⟨g, 1, none⟩ = some a1 ∧ w.cell? ⟨g, 2, none⟩ = some a2 ∧ w.cell? ⟨g, 3, none⟩ = some a3 ∧ w.cell? ⟨g, 4, none⟩ = some a4 ∧ w.cell? ⟨g, 5, none⟩ = some a5 ∧ w.cell? ⟨g, 6, none⟩ = some a6 ∧ w.cell? ⟨g, 7, none⟩ = some a7 ∧ w.cell? ⟨g, 8, none⟩ = some a8 ∧ w.cell? ⟨g, 9, none⟩ = some a9 ∧ w.cell? ⟨g, 10, none⟩ = some a10 := by
 refine ⟨?_, ?_, ?_, ?_, ?_, ?_, ?_, ?_, ?_, ?_, ?_⟩
 all_goals (rw [cell_of_row w _ _ _ _ _ h.h]; rfl)
theorem dA {T : TypeId} {g : Nat} {a0 a1 : Value} {w : World} (h : w.heap[g]? = some (.cells #[a0, a1] T (0, 0))) : w.cell? ⟨g, 0, none⟩ = some a0 ∧ w.cell? ⟨g, 1, none⟩ = some a1 := by
 refine ⟨?_, ?_⟩
 all_goals (rw [cell_of_row w _ _ _ _ _ h]; rfl)
structure PZ (w0 : World) (r o : Rec) (A B : Array Value) (va vb wa wb : Nat) (w : World) : Prop where
 pa : Rx 47 w0.heap.size r A w
 pb : Rx 47 (w0.heap.size + 1) o B w
 v0 : w.heap[w0.heap.size + 2]? = some (.cells #[.int .u64 (va : Nat), .int .u64 (vb : Nat)] 41 (0, 0))
 v1 : w.heap[w0.heap.size + 3]? = some (.cells #[.int .u64 (wa : Nat), .int .u64 (wb : Nat)] 41 (0, 0))
 lq : Lq w0.heap.size w
 bel : Below w0.heap.size w0 w
section
variable {w0 w w' : World} {r o : Rec} {A B : Array Value} {va vb wa wb : Nat}
theorem PZ.lt (h : PZ w0 r o A B va vb wa wb w) : w0.heap.size + 3 < w.heap.size := (Array.getElem?_eq_some_iff.1 h.v1).1
theorem PZ.below (h : PZ w0 r o A B va vb wa wb w) (hb : Below w.heap.size w w') : PZ w0 r o A B va vb wa wb w' := by
 have := h.lt
 exact ⟨h.pa.below hb, h.pb.below hb, (hb.block _ (by omega)).trans h.v0, (hb.block _ (by omega)).trans h.v1, h.lq.below (hb.mono h.bel.size), h.bel.trans (hb.mono h.bel.size)⟩
theorem PZ.lqAt (h : PZ w0 r o A B va vb wa wb w) : Lq w.heap.size w := h.lq.mono h.bel.size
end
def sF (r : Rec) : Nat := if r.right = true then r.k.toNat else 0
def oZ (r : Rec) : List UInt8 := if r.right = true then r.body else []
def sG (r : Rec) : Int := if r.right = true then 0 else 50
theorem uf {r : Rec} (h : r.right = true) : ((sF r : Nat) : Int) = r.k := by
 obtain ⟨q1, q7, _⟩ := (Rec.right_iff r).1 h
 unfold sF
 rw [if_pos h]
 omega
theorem kM.uni {r : Rec} {w w' : World} {e : Ending} (h : kM r w e w') : ∃ ad cap, e = .returned (.tuple #[.agg #[.int .u8 (sF r : Nat), .slice ad (oZ r).length cap], .int .i64 (sG r)]) ∧ bM w' (fun b => w.heap.size ≤ b) true (oZ r) (.slice ad (oZ r).length cap) ∧ Below w.heap.size w w' := by
 obtain ⟨h1, h2, h3⟩ := h
 cases hr : r.right with
 | true =>
  obtain ⟨bv, he, hb⟩ := h1 hr
  rw [uf hr]
  unfold oZ sG
  rw [if_pos hr, if_pos hr]
  obtain ⟨_, ad, cap, rfl, _⟩ := hb.shape
  exact ⟨ad, cap, he, hb, h3⟩
 | false =>
  have hne : ¬ r.right = true := by rw [hr]; decide
  unfold sF oZ sG
  rw [if_neg hne, if_neg hne, if_neg hne]
  exact ⟨none, 0, h2 hr, Sl.nil _ _ _ _, h3⟩
theorem jl.uni {r : Rec} {w w' : World} {e : Ending} (h : jl r w e w') : e = .returned (.tuple #[.agg #[.int .u8 (sF r : Nat), .string ⟨(oZ r).toArray⟩], .int .i64 (sG r)]) ∧ Below w.heap.size w w' := by
 obtain ⟨h1, h2, h3⟩ := h
 cases hr : r.right with
 | true =>
  rw [uf hr]
  unfold oZ sG
  rw [if_pos hr, if_pos hr]
  exact ⟨h1 hr, h3⟩
 | false =>
  have hne : ¬ r.right = true := by rw [hr]; decide
  unfold sF oZ sG
  rw [if_neg hne, if_neg hne, if_neg hne]
  exact ⟨h2 hr, h3⟩
end Go.Proofs.YtmgbhhmipmgcpaaGreatDoor
