/- What is put and told of records, back and forth. -/
import Derived.Test.YtmgbhhmipmgcpaaGreatDoorYW52
namespace Go.Proofs.YtmgbhhmipmgcpaaGreatDoor
open Go.RowKit Go
set_option linter.unusedVariables false
set_option linter.unusedSimpArgs false
section
variable {P : Program} {ops : Array Oper} {Q : Exit → Act → World → Prop} {G : List Pr} {ws : List Nat} {a0 : Act} {w0 : World}
end
section
variable {P : Program} {ops : Array Oper} {Q : Exit → Act → World → Prop} {G : List Dv} {ws : List Nat} {a0 : Act} {w0 : World} {Z : Nat → (Nat → Value) → World → Prop}
end
structure Env (w0 : World) (rows : List (Nat × Array Value × TypeId)) (P : World → Prop) (w : World) : Prop where
 bel : Below w0.heap.size w0 w
 row : ∀ x ∈ rows, w.heap[x.1]? = some (.cells x.2.1 x.2.2 (0, 0))
 st : ∀ w w', Below w.heap.size w w' → P w → P w'
 p : P w
section
variable {w0 w w' : World} {rows : List (Nat × Array Value × TypeId)} {P Q : World → Prop}
theorem Env.below (h : Env w0 rows P w) (hb : Below w.heap.size w w') : Env w0 rows P w' :=
 ⟨h.bel.trans (hb.mono h.bel.size), fun x hx => (hb.block _ (Array.getElem?_eq_some_iff.1 (h.row x hx)).1).trans (h.row x hx), h.st, h.st _ _ hb h.p⟩
theorem Env.alloc (h : Env w0 rows P w) (cs : Array Value) (T : TypeId) : Env w0 ((w.heap.size, cs, T) :: rows) P (w.alloc (.cells cs T)) := by
 have h' := h.below (br.alloc nl (.cells cs T))
 refine ⟨h'.bel, fun x hx => ?_, h'.st, h'.p⟩
 rcases List.mem_cons.1 hx with rfl | hx
 ·exact aa _ _ _ rfl
 ·exact h'.row x hx
theorem Env.cell (h : Env w0 rows P w) {b : Nat} {cs : Array Value} {T : TypeId} (hm : (b, cs, T) ∈ rows) (o : Nat) : w.cell? ⟨b, o, none⟩ = cs[o]? := cell_of_row w b o cs T (0, 0) (h.row _ hm)
theorem Env.lt (h : Env w0 rows P w) {b : Nat} {cs : Array Value} {T : TypeId} (hm : (b, cs, T) ∈ rows) : b < w.heap.size := (Array.getElem?_eq_some_iff.1 (h.row _ hm)).1
end
theorem Bu (S : Nat → Prop) (own : Bool) (l : List UInt8) (v : Value) : ∀ w w', Below w.heap.size w w' → ay w S own l v → ay w' S own l v := fun _ _ hb h => Sl.below h (by omega) hb nl
theorem uP : ∀ es : List Ent, es.length ≤ (bW es).length
 | [] => by simp
 | e :: es => by
  have := uP es
  simp only [bW, List.flatMap_cons, List.length_append, List.length_cons] at this ⊢
  have h2 : 1 ≤ e.put.length := by simp [Ent.put]
  omega
theorem uQ {k : Nat} {b : List UInt8} {x : Rec} (h : bP k b = some x) : x.p.size ≤ 900 ∧ x.p.depth ≤ 900 ∧ x.es.length ≤ b.length := by
 obtain ⟨h1, h2, h3, h4⟩ := lF h
 obtain ⟨q1, q7, hp, ho⟩ := h2
 by_cases h5 : x.k = 5
 ·have hr := hp h5
  have hd := x.p.depth_le_size
  simp only [Ex.right, Bool.and_eq_true, decide_eq_true_eq] at hr
  refine ⟨by omega, by omega, ?_⟩
  rw [← h4]
  unfold Rec.body
  have := uP x.es
  simp only [h5]
  simp; omega
 ·have hz : x.p = .zero ∧ x.es = [] := by
   rw [← ho]
   unfold Rec.only
   rw [if_neg h5]
   split
   ·exact ⟨rfl, rfl⟩
   split
   ·exact ⟨rfl, rfl⟩
   split <;> exact ⟨rfl, rfl⟩
  rw [hz.1, hz.2]
  exact ⟨by decide, by decide, by simp⟩
end Go.Proofs.YtmgbhhmipmgcpaaGreatDoor
