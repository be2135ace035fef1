/- A writer: a row of bytes behind a cell, both of the call's own. Plain lemmas. -/
import Derived.Test.YtjedgiiplebofaaGreatDoorQ19
import Derived.Test.YtjedgiiplebofaaGreatDoorQ14
namespace Go.Proofs.YtjedgiiplebofaaGreatDoor
open Go.RowKit Go
set_option linter.unusedVariables false
set_option linter.unusedSimpArgs false
/-- The block wb is a struct of one cell, a slice of bytes l in a row behind wb. -/
def Wr (TW TB : TypeId) (w : World) (wb : Nat) (sv : Value) (l : List UInt8) : Prop := w.heap[wb]? = some (.cells #[sv] TW (0, 0)) ∧ w.ownsRow (wb + 1) TB 1 sv l.length (bytes l)
/-- What a write leaves. -/
structure Wrote (wb : Nat) (sv sv' : Value) (w w' : World) : Prop where
  os : w'.os = w.os
  tape : w'.tape = w.tape
  output : w'.output = w.output
  size : w.heap.size ≤ w'.heap.size
  keep : ∀ b, b < w.heap.size → b ≠ wb → sv.ownBlock ≠ some b → w'.heap[b]? = w.heap[b]?
  row : sv'.ownBlock = sv.ownBlock ∨ ∃ b, sv'.ownBlock = some b ∧ w.heap.size ≤ b
theorem Wrote.refl (wb : Nat) (sv : Value) (w : World) : Wrote wb sv sv w w := ⟨rfl, rfl, rfl, Nat.le_refl _, fun _ _ _ _ => rfl, .inl rfl⟩
theorem Wrote.trans {wb : Nat} {sv sv' sv'' : Value} {w w' w'' : World} (h : Wrote wb sv sv' w w') (k : Wrote wb sv' sv'' w' w'') : Wrote wb sv sv'' w w'' := by
  refine ⟨k.os.trans h.os, k.tape.trans h.tape, k.output.trans h.output, Nat.le_trans h.size k.size, fun b hb h1 h2 => ?_, ?_⟩
  · have hs := h.size
    rw [k.keep b (by omega) h1 (fun e => ?_), h.keep b hb h1 h2]
    rcases h.row with hr | ⟨b', hr, hl⟩
    · exact h2 (by rw [← hr]; exact e)
    · rw [hr] at e; injection e with e; omega
  · rcases k.row with hr | ⟨b, hr, hl⟩
    · rw [hr]; exact h.row
    · exact .inr ⟨b, hr, by have := h.size; omega⟩
/-- New memory alone. -/
theorem Wrote.of_below {wb : Nat} {sv : Value} {w w' : World} (h : Below w.heap.size w w') : Wrote wb sv sv w w' := ⟨h.os, h.tape, h.output, h.size, fun b hb _ _ => h.block b hb, .inl rfl⟩
theorem Wr.lt {TW TB : TypeId} {w : World} {wb : Nat} {sv : Value} {l : List UInt8} (h : Wr TW TB w wb sv l) : wb < w.heap.size ∧ ∀ k, sv.ownBlock = some k → wb + 1 ≤ k ∧ k < w.heap.size := ⟨(Array.getElem?_eq_some_iff.1 h.1).1, h.2.lt⟩
theorem Wrote.below {TW TB : TypeId} {wb : Nat} {sv sv' : Value} {w w' : World} {l : List UInt8} (h : Wrote wb sv sv' w w') (hw : Wr TW TB w wb sv l) : Below wb w w' :=
  ⟨h.os, h.tape, h.output, h.size, fun b hb => h.keep b (by have := hw.lt.1; omega) (by omega) (fun e => by have := (hw.lt.2 b e).1; omega)⟩
theorem Wr.below {TW TB : TypeId} {w w' : World} {wb : Nat} {sv : Value} {l : List UInt8} (h : Wr TW TB w wb sv l) (hb : Below w.heap.size w w') : Wr TW TB w' wb sv l :=
  ⟨by rw [hb.block _ h.lt.1]; exact h.1, ownsRow_below h.2 hb (Nat.le_refl _)⟩
theorem Wr.cell {TW TB : TypeId} {w : World} {wb : Nat} {sv : Value} {l : List UInt8} (h : Wr TW TB w wb sv l) : w.cell? ⟨wb, 0, none⟩ = some sv ∧ w.frozen? ⟨wb, 0, none⟩ = false :=
  ⟨by rw [cell_of_row w _ 0 _ _ _ h.1]; rfl, by rw [frozen_of_row w _ 0 _ _ h.1]⟩
/-- An append to the row, and its store behind the cell. -/
theorem Wr.push {TW TB : TypeId} {w w1 w2 : World} {wb : Nat} {sv v' : Value} {l m : List UInt8} (h : Wr TW TB w wb sv l) (hb : Below w.heap.size w w1) (hown : w2.ownsRow (wb + 1) TB 1 v' (l.length + m.length) (bytes l ++ bytes m)) (hg : w1.grownBy w2 sv.ownBlock)
    (hat : v'.ownBlock = sv.ownBlock ∨ v'.ownBlock = some w1.heap.size) : Wr TW TB (w2.setCell ⟨wb, 0, none⟩ v') wb v' (l ++ m) ∧ Wrote wb sv v' w (w2.setCell ⟨wb, 0, none⟩ v') := by
  have hl := h.lt
  have hs := hb.size
  have hne : some wb ≠ sv.ownBlock := fun e => by have := (hl.2 _ e.symm).1; omega
  have h2 : w2.heap[wb]? = some (.cells #[sv] TW (0, 0)) := by rw [hg.block _ (by omega) hne, hb.block _ hl.1]; exact h.1
  refine ⟨⟨heap_set_at h2 (by simp), ?_⟩, ?_⟩
  · refine ownsRow_setCell_below ?_ (by simp) v'
    simpa [bytes] using hown
  · refine ⟨hg.os.trans hb.os, hg.tape.trans hb.tape, hg.output.trans hb.output, ?_, fun b hb' h1 h3 => ?_, ?_⟩
    · have := hg.size; simp; omega
    · rw [Below.heap_setCell _ _ _ _ (by simpa using h1), hg.block _ (by omega) (fun e => h3 e.symm), hb.block _ hb']
    · rcases hat with h1 | h1
      · exact .inl h1
      · exact .inr ⟨_, h1, by omega⟩
/-- A contract that writes bytes. -/
def Wg (TW TB : TypeId) (w : World) (wb : Nat) (sv : Value) (l : List UInt8) (r : Value) (e : Ending) (w' : World) : Prop := e = .returned r ∧ ∃ sv', Wr TW TB w' wb sv' l ∧ Wrote wb sv sv' w w'
def nums (l : List Nat) : List Value := l.map fun (n : Nat) => .int .u64 (n : Int)
@[simp] theorem nums_length (l : List Nat) : (nums l).length = l.length := by simp [nums]
def putVs (l : List Nat) : List UInt8 := l.flatMap putV
theorem putVs_take (l : List Nat) (k : Nat) (h : k < l.length) : putVs (l.take (k + 1)) = putVs (l.take k) ++ putV l[k] := by
  unfold putVs; rw [List.take_succ_eq_append_getElem h, List.flatMap_append]; simp
theorem putVs_length (l : List Nat) : (putVs l).length ≤ 10 * l.length := by
  unfold putVs
  induction l with
  | nil => simp
  | cons n l ih => have := putV_length n; simp at ih ⊢; omega
end Go.Proofs.YtjedgiiplebofaaGreatDoor
