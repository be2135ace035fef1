/- One cell put behind a row of the call's own, which is read again afterwards. -/
import Derived.Test.YtlpgokcapdjgjaaGreatDoorY10
import Derived.ArgAppend
namespace Go.Proofs.YtlpgokcapdjgjaaGreatDoor
open Go.RowKit Go
set_option linter.unusedVariables false
set_option linter.unusedSimpArgs false
def DU (e : Ex) (S : Nat → Prop) (v : Value) (w : World) : Prop := ax w S true e v
theorem yn (e : Ex) : iO (DU e) := fun S S' v w w' hk hs hS h => ax.keep hk hS h
def Cj (l : List UInt8) (S : Nat → Prop) (v : Value) (w : World) : Prop := aF w S true l v
theorem wH (l : List UInt8) : iO (Cj l) := fun S S' v w w' hk hs hS h => Sl.keep (w := w) h (by omega) hk hS
theorem StoOK.mk {P : Program} {G : List Pr} {al vl n : Nat} {T0 : TypeId} {z0 : Array Value} {p0 : Pr} (h1 : G[al]? = some (.box T0 z0)) (h2 : G[vl]? = some p0) (hz : z0.size = n) (hi : (P.info? T0).map (·.size) = some n)
  (h : ∀ S v w, p0.holds S w v → ∃ cs, v = .agg cs ∧ cs.size = n ∧ ∀ x ∈ cs.toList, x.oneCell' = true) :
  ∀ T z S v w, G[al]? = some (.box T z) → (∀ p, G[vl]? = some p → p.holds S w v) → (P.info? T).map (·.size) = some z.size ∧ ∃ cs, v = .agg cs ∧ cs.size = z.size ∧ ∀ x ∈ cs.toList, x.oneCell' = true := by
 intro T z S v w ha hv
 rw [h1] at ha
 cases ha
 rw [hz]
 exact ⟨hi, h S v w (hv _ h2)⟩
theorem fo {a : Act} {s : Nat} {v : Value} (h : a.tmps[s]? = some v) : a.eval (.tmp s) = v := by
 simp only [Act.eval, Array.getD_eq_getD_getElem?, h]; rfl
theorem Below.grown2 {B base : Nat} {w W w2 : World} {sv : Value} (h : Below B w W) (hg : W.grownBy w2 sv.ownBlock) (hob : ∀ k, sv.ownBlock = some k → base ≤ k) (hB : B ≤ W.heap.size) (hbb : B ≤ base) : Below B w w2 :=
 h.grown hg (by omega) (fun k hk => by have := hob k hk; omega)
theorem iw {W w2 : World} {row : Option Nat} {b : Nat} (hg : W.grownBy w2 row) (hb : b < W.heap.size) (hne : some b ≠ row) : w2.heap[b]? = W.heap[b]? := hg.block b hb hne
end Go.Proofs.YtlpgokcapdjgjaaGreatDoor
