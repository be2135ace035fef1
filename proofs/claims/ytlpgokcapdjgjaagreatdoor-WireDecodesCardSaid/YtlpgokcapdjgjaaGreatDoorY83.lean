/- What a law's walk keeps while memory only grows. -/
import Derived.Test.YtlpgokcapdjgjaaGreatDoorYW24c
namespace Go.Proofs.YtlpgokcapdjgjaaGreatDoor
open Go.RowKit Go
set_option linter.unusedVariables false
set_option linter.unusedSimpArgs false
section
variable {P : Program} {ops : Array Oper} {Q : Exit → Act → World → Prop} {G : List Pr} {ws : List Nat} {a0 : Act} {w0 : World}
end
section
variable {P : Program} {ops : Array Oper} {Q : Exit → Act → World → Prop} {G : List Dv} {ws : List Nat} {a0 : Act} {w0 : World} {Z : Nat → (Nat → Value) → World → Prop}
end
structure Env (w0 : World) (rows : List (Nat × Array Value × TypeId)) (P : World → Prop) (w : World) : Prop where
 bel : Below w0.1.size w0 w
 row : ∀ x ∈ rows, w.1[x.1]? = some (.cells x.2.1 x.2.2 (0, 0))
 st : ∀ w w', Below w.1.size w w' → P w → P w'
 p : P w
section
variable {w0 w w' : World} {rows : List (Nat × Array Value × TypeId)} {P Q : World → Prop}
theorem Env.below (h : Env w0 rows P w) (hb : Below w.1.size w w') : Env w0 rows P w' :=
 ⟨h.bel.trans (hb.mono h.bel.size), fun x hx => (hb.block _ (ak (h.row x hx)).1).trans (h.row x hx), h.st, h.st _ _ hb h.p⟩
theorem Env.alloc (h : Env w0 rows P w) (cs : Array Value) (T : TypeId) : Env w0 ((w.1.size, cs, T) :: rows) P (w.alloc (.cells cs T)) := by
 have h' := h.below (br.alloc nl (.cells cs T));refine ⟨h'.bel, fun x hx => ?_, h'.st, h'.p⟩;rcases List.mem_cons.1 hx with rfl | hx
 ·exact aK _ _ _ rfl
 ·exact h'.row x hx
theorem Env.cell (h : Env w0 rows P w) {b : Nat} {cs : Array Value} {T : TypeId} (hm : (b, cs, T) ∈ rows) (o : Nat) : w.cell? ⟨b, o, none⟩ = cs[o]? := ax w b o cs T (0, 0) (h.row _ hm)
theorem Env.lt (h : Env w0 rows P w) {b : Nat} {cs : Array Value} {T : TypeId} (hm : (b, cs, T) ∈ rows) : b < w.1.size := (ak (h.row _ hm)).1
end
theorem GL (S : Nat → Prop) (own : Bool) (l : List UInt8) (v : Value) : ∀ w w', Below w.1.size w w' → aO w S own l v → aO w' S own l v := fun _ _ hb h => Sl.below h (by omega) hb nl
end Go.Proofs.YtlpgokcapdjgjaaGreatDoor
