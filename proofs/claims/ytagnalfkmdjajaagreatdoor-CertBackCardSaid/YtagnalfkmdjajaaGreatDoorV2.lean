/- A part put behind the others: a zero appended, then written over. Plain lemmas. Ahead of it: Results of which one is a variable's cells. Plain lemmas. Rows of trees, where a block besides has changed. Plain lemmas. A part put behind the others of a node that is being made. Plain lemmas. -/
import Derived.Test.YtagnalfkmdjajaaGreatDoorV1
import Derived.Laws.Rows
import Derived.Laws.OwnMore
namespace Go.Proofs.YtagnalfkmdjajaaGreatDoor
open Go.RowKit Go
set_option linter.unusedVariables false
set_option linter.unusedSimpArgs false
theorem results_row2 {P : Program} {fn : Func} {p a : Tmp} {ty : TypeId} (h : fn.results = #[.cell p ty, .tmp a]) (tmps : Array Value) (w : World) (g : Nat) (t : TypeId) (cs : Array Value) (fr : Nat × Nat) (d : TypeDesc) (va : Value)
    (hp : tmps.getD p undef = .pointer (some ⟨g, 0, none⟩)) (hg : w.heap[g]? = some (.cells cs t fr))
    (hu : P.underlying ty = some d) (hd : (match d with | .struct _ | .array _ _ => true | _ => false) = true) (hi : (P.info? ty).map (·.size) = some cs.size) (ha : tmps.getD a undef = va) :
    (results fn tmps).run P w = .ok (.tuple #[.agg cs, va]) w := by
  have hp' : tmps[p]?.getD undef = .pointer (some ⟨g, 0, none⟩) := by simpa using hp
  have ha' : tmps[a]?.getD undef = va := by simpa using ha
  simp [results, h, hp', ha', asAddr, run_loadVar_row w g t ty cs fr d hg hu hd hi]
theorem results_row3 {P : Program} {fn : Func} {p a b : Tmp} {ty : TypeId} (h : fn.results = #[.cell p ty, .tmp a, .tmp b]) (tmps : Array Value) (w : World) (g : Nat) (t : TypeId) (cs : Array Value) (fr : Nat × Nat) (d : TypeDesc) (va vb : Value)
    (hp : tmps.getD p undef = .pointer (some ⟨g, 0, none⟩)) (hg : w.heap[g]? = some (.cells cs t fr))
    (hu : P.underlying ty = some d) (hd : (match d with | .struct _ | .array _ _ => true | _ => false) = true) (hi : (P.info? ty).map (·.size) = some cs.size) (ha : tmps.getD a undef = va) (hb : tmps.getD b undef = vb) :
    (results fn tmps).run P w = .ok (.tuple #[.agg cs, va, vb]) w := by
  have hp' : tmps[p]?.getD undef = .pointer (some ⟨g, 0, none⟩) := by simpa using hp
  have ha' : tmps[a]?.getD undef = va := by simpa using ha
  have hb' : tmps[b]?.getD undef = vb := by simpa using hb
  simp [results, h, hp', ha', hb', asAddr, run_loadVar_row w g t ty cs fr d hg hu hd hi]
theorem heap_alloc_lt (w : World) (o : Obj) (i : Nat) (h : i < w.heap.size) : (w.alloc o).heap[i]? = w.heap[i]? := Below.heap_alloc _ _ _ h
end Go.Proofs.YtagnalfkmdjajaaGreatDoor
namespace Go.Proofs.YtagnalfkmdjajaaGreatDoor
open Go.RowKit Go
set_option linter.unusedVariables false
set_option linter.unusedSimpArgs false
theorem ownsRow_keep {w w' : World} {base : Nat} {e : TypeId} {size n : Nat} {v : Value} {xs : List Value} (h : w.ownsRow base e size v n xs) (hk : ∀ b, base ≤ b → b < w.heap.size → w'.heap[b]? = w.heap[b]?) : w'.ownsRow base e size v n xs := by
  obtain ⟨h1, h2⟩ := h
  refine ⟨h1, ?_⟩
  rcases h2 with h2 | ⟨g, cap, cur, hv, hg, hh, r⟩
  · exact Or.inl h2
  · exact Or.inr ⟨g, cap, cur, hv, hg, by rw [hk g hg (Array.getElem?_eq_some_iff.1 hh).1]; exact hh, r⟩
theorem Making.keep {w w' : World} {base : Nat} {T : TypeId} {sv : Value} {es : List Ex} (h : Making w base T sv es) (hk : ∀ b, base ≤ b → b < w.heap.size → w'.heap[b]? = w.heap[b]?) : Making w' base T sv es := by
  obtain ⟨ys, h1, h2⟩ := h
  exact ⟨ys, ownsRow_keep h1 hk, RepEs.keep (w := w) (fun b hb hl => hk b hb.1 hl) (fun _ _ h => h) h2⟩
end Go.Proofs.YtagnalfkmdjajaaGreatDoor
namespace Go.Proofs.YtagnalfkmdjajaaGreatDoor
open Go.RowKit Go
set_option linter.unusedVariables false
set_option linter.unusedSimpArgs false
/-- All blocks that were there hold what they held, but for those that meet P. -/
structure Rk (P : Nat → Prop) (w w' : World) : Prop where
  os : w'.os = w.os
  tape : w'.tape = w.tape
  output : w'.output = w.output
  size : w.heap.size ≤ w'.heap.size
  keep : ∀ b, b < w.heap.size → ¬ P b → w'.heap[b]? = w.heap[b]?
theorem Rk.refl (P : Nat → Prop) (w : World) : Rk P w w := ⟨rfl, rfl, rfl, Nat.le_refl _, fun _ _ _ => rfl⟩
theorem Rk.trans {P : Nat → Prop} {a b c : World} (h : Rk P a b) (k : Rk P b c) : Rk P a c :=
  ⟨k.os.trans h.os, k.tape.trans h.tape, k.output.trans h.output, Nat.le_trans h.size k.size, fun i hi hn => (k.keep i (by have := h.size; omega) hn).trans (h.keep i hi hn)⟩
/-- Behind a first step that only makes memory or writes what P lets, a second one that may write above too. -/
theorem Rk.trans' {P Q : Nat → Prop} {a b c : World} (h : Rk P a b) (k : Rk Q b c) (hQ : ∀ i, i < a.heap.size → Q i → P i) : Rk P a c :=
  ⟨k.os.trans h.os, k.tape.trans h.tape, k.output.trans h.output, Nat.le_trans h.size k.size, fun i hi hn => (k.keep i (by have := h.size; omega) (fun q => hn (hQ i hi q))).trans (h.keep i hi hn)⟩
theorem Rk.mono {P Q : Nat → Prop} {w w' : World} (h : Rk P w w') (hPQ : ∀ b, P b → Q b) : Rk Q w w' := ⟨h.os, h.tape, h.output, h.size, fun b hb hn => h.keep b hb (fun p => hn (hPQ b p))⟩
theorem Rk.of_below {P : Nat → Prop} {w w' : World} (h : Below w.heap.size w w') : Rk P w w' := ⟨h.os, h.tape, h.output, h.size, fun b hb _ => h.block b hb⟩
theorem Rk.setCell {P : Nat → Prop} {w w' : World} (h : Rk P w w') (g : Nat) (hg : w.heap.size ≤ g ∨ P g) (o : Nat) (v : Value) : Rk P w (w'.setCell ⟨g, o, none⟩ v) :=
  ⟨h.os, h.tape, h.output, by simpa using h.size, fun b hb hn => (Below.heap_setCell _ _ _ _ (fun e => by simp only at e; subst e; rcases hg with hg | hg; omega; exact hn hg)).trans (h.keep b hb hn)⟩
theorem Rk.setRow {P : Nat → Prop} {w w' : World} (h : Rk P w w') (g : Nat) (hg : w.heap.size ≤ g ∨ P g) (cs : Array Value) : Rk P w (w'.setRow g cs) :=
  ⟨h.os, h.tape, h.output, by simpa [World.setRow] using h.size, fun b hb hn => (setRow_other _ _ _ _ (fun e => by subst e; rcases hg with hg | hg; omega; exact hn hg)).trans (h.keep b hb hn)⟩
theorem Rk.below {P : Nat → Prop} {w w' : World} {B : Nat} (h : Rk P w w') (hB : B ≤ w.heap.size) (hP : ∀ b, P b → B ≤ b) : Below B w w' :=
  ⟨h.os, h.tape, h.output, h.size, fun b hb => h.keep b (by omega) (fun p => by have := hP b p; omega)⟩
theorem Rk.keeps {P S : Nat → Prop} {w w' : World} (h : Rk P w w') (hS : ∀ b, S b → ¬ P b) : Keeps S w w' := fun b hb hl => h.keep b hl (hS b hb)
end Go.Proofs.YtagnalfkmdjajaaGreatDoor
namespace Go.Proofs.YtagnalfkmdjajaaGreatDoor
open Go.RowKit Go
set_option linter.unusedVariables false
set_option linter.unusedSimpArgs false
end Go.Proofs.YtagnalfkmdjajaaGreatDoor
