/- One cell put behind a row of the call's own, which is read again afterwards. -/
import Derived.Test.YtmgbhhmipmgcpaaGreatDoorQ10
import Derived.ArgAppend
namespace Go.Proofs.YtmgbhhmipmgcpaaGreatDoor
open Go.RowKit Go
set_option linter.unusedVariables false
set_option linter.unusedSimpArgs false
def xz (e : Ex) (S : Nat → Prop) (v : Value) (w : World) : Prop := av w S true e v
theorem rW (e : Ex) : iD (xz e) := fun S S' v w w' hk hs hS h => av.keep hk hS h
def gY (n c : Nat) (cs : Array Value) (S : Nat → Prop) (v : Value) (w : World) : Prop := ∃ g T, v = .slice (some ⟨g, 0, none⟩) n c ∧ S g ∧ w.heap[g]? = some (.cells cs T (0, 0))
theorem fC (n c : Nat) (cs : Array Value) : iD (gY n c cs) := by
 rintro S S' v w w' hk hs hS ⟨g, T, h1, h2, h3⟩
 have hlt := (Array.getElem?_eq_some_iff.1 h3).1
 exact ⟨g, T, h1, hS g hlt h2, (hk g h2 hlt).trans h3⟩
theorem StoOK.mk {P : Program} {G : List Pr} {al vl n : Nat} {T0 : TypeId} {z0 : Array Value} {p0 : Pr} (h1 : G[al]? = some (.box T0 z0)) (h2 : G[vl]? = some p0) (hz : z0.size = n) (hi : (P.info? T0).map (·.size) = some n)
  (h : ∀ S v w, p0.holds S w v → ∃ cs, v = .agg cs ∧ cs.size = n ∧ ∀ x ∈ cs.toList, x.oneCell' = true) :
  ∀ T z S v w, G[al]? = some (.box T z) → (∀ p, G[vl]? = some p → p.holds S w v) → (P.info? T).map (·.size) = some z.size ∧ ∃ cs, v = .agg cs ∧ cs.size = z.size ∧ ∀ x ∈ cs.toList, x.oneCell' = true := by
 intro T z S v w ha hv
 rw [h1] at ha
 cases ha
 rw [hz]
 exact ⟨hi, h S v w (hv _ h2)⟩
theorem iO {a : Act} {s : Nat} {v : Value} (h : a.tmps[s]? = some v) : a.eval (.tmp s) = v := by
 simp only [Act.eval, Array.getD_eq_getD_getElem?, h]; rfl
theorem Below.grown2 {B base : Nat} {w W w2 : World} {sv : Value} (h : Below B w W) (hg : W.grownBy w2 sv.ownBlock) (hob : ∀ k, sv.ownBlock = some k → base ≤ k) (hB : B ≤ W.heap.size) (hbb : B ≤ base) : Below B w w2 :=
 h.grown hg (by omega) (fun k hk => by have := hob k hk; omega)
theorem iP {W w2 : World} {row : Option Nat} {b : Nat} (hg : W.grownBy w2 row) (hb : b < W.heap.size) (hne : some b ≠ row) : w2.heap[b]? = W.heap[b]? := hg.block b hb hne
end Go.Proofs.YtmgbhhmipmgcpaaGreatDoor
