/- A part put behind the others: a zero appended, then written over. Plain lemmas. Ahead of it: The number that bytes begin with: plain Lean. The tree that bytes begin with: plain Lean. Steps of taking a number from bytes: plain Lean. The predicate that stands at a place, and the one as which bytes stand: plain Lean. A part put behind the others of a node that is being made. Plain lemmas. -/
import Derived.Test.YtjedgiiplebofaaGreatDoorQ14
import Derived.Test.YtjedgiiplebofaaGreatDoorQ35
import Derived.Test.YtjedgiiplebofaaGreatDoorQ18
import Derived.Laws.OwnMore
namespace Go.Proofs.YtjedgiiplebofaaGreatDoor
open Go.RowKit Go
set_option linter.unusedVariables false
set_option linter.unusedSimpArgs false
end Go.Proofs.YtjedgiiplebofaaGreatDoor
namespace Go.Proofs.YtjedgiiplebofaaGreatDoor
open Go.RowKit Go
set_option linter.unusedVariables false
set_option linter.unusedSimpArgs false
end Go.Proofs.YtjedgiiplebofaaGreatDoor
namespace Go.Proofs.YtjedgiiplebofaaGreatDoor
open Go.RowKit Go
set_option linter.unusedVariables false
set_option linter.unusedSimpArgs false
/-- A part of a slice of bytes. -/
theorem RepB.cut {w : World} {S : Nat → Prop} {own : Bool} {l : List UInt8} {ad : Option Addr} {cap : Nat} (h : RepB w S own l (.slice ad l.length cap)) (a m cap' : Nat) (ham : a + m ≤ l.length) (hcap : m ≤ cap') :
    RepB w S own ((l.drop a).take m) (.slice (ad.map fun x => x.add a) m cap') := by
  have h63 := h.2.1
  have hlen : ((l.drop a).take m).length = m := by simp; omega
  refine ⟨by simp, by omega, _, cap', by rw [hlen], by omega, fun hn => ?_⟩
  obtain ⟨bl, off, h1, h2, h3⟩ := RepB.cell h (by omega)
  refine ⟨bl, off + a, ?_, h2, fun j hj => ?_⟩
  · rw [h1]; simp [Addr.add]
  · have hj' : j < m := by rw [bytes_length, hlen] at hj; exact hj
    obtain ⟨c1, c2⟩ := h3 (a + j) (by omega)
    rw [Nat.add_assoc]
    refine ⟨?_, c2⟩
    rw [c1]; simp [bytes]
theorem RepB.head {w : World} {S : Nat → Prop} {own : Bool} {l : List UInt8} {ad : Option Addr} {cap : Nat} (h : RepB w S own l (.slice ad l.length cap)) (m cap' : Nat) (ham : m ≤ l.length) (hcap : m ≤ cap') :
    RepB w S own (l.take m) (.slice ad m cap') := by
  have h63 := h.2.1
  have hlen : (l.take m).length = m := by simp; omega
  refine ⟨by simp, by omega, _, cap', by rw [hlen], by omega, fun hn => ?_⟩
  obtain ⟨bl, off, h1, h2, h3⟩ := RepB.cell h (by omega)
  refine ⟨bl, off, h1, h2, fun j hj => ?_⟩
  have hj' : j < m := by rw [bytes_length, hlen] at hj; exact hj
  obtain ⟨c1, c2⟩ := h3 j (by omega)
  exact ⟨by rw [c1]; simp [bytes], c2⟩
theorem RepB.none {w : World} {S : Nat → Prop} {own : Bool} {ad : Option Addr} {cap : Nat} : RepB w S own [] (.slice ad 0 cap) :=
  ⟨by simp, by simp, ad, cap, rfl, by simp, fun h => by simp at h⟩
end Go.Proofs.YtjedgiiplebofaaGreatDoor
namespace Go.Proofs.YtjedgiiplebofaaGreatDoor
open Go.RowKit Go
set_option linter.unusedVariables false
set_option linter.unusedSimpArgs false
end Go.Proofs.YtjedgiiplebofaaGreatDoor
namespace Go.Proofs.YtjedgiiplebofaaGreatDoor
open Go.RowKit Go
set_option linter.unusedVariables false
set_option linter.unusedSimpArgs false
/-- All blocks that were there hold what they held, but for those that meet P. -/
structure Rk (P : Nat → Prop) (w w' : World) : Prop where
  os : w'.os = w.os
  tape : w'.tape = w.tape
  output : w'.output = w.output
  size : w.heap.size ≤ w'.heap.size
  keep : ∀ b, b < w.heap.size → ¬ P b → w'.heap[b]? = w.heap[b]?
theorem Rk.refl (P : Nat → Prop) (w : World) : Rk P w w := ⟨rfl, rfl, rfl, Nat.le_refl _, fun _ _ _ => rfl⟩
theorem Rk.trans {P : Nat → Prop} {a b c : World} (h : Rk P a b) (k : Rk P b c) : Rk P a c :=
  ⟨k.os.trans h.os, k.tape.trans h.tape, k.output.trans h.output, Nat.le_trans h.size k.size, fun i hi hn => (k.keep i (by have := h.size; omega) hn).trans (h.keep i hi hn)⟩
theorem Rk.mono {P Q : Nat → Prop} {w w' : World} (h : Rk P w w') (hPQ : ∀ b, P b → Q b) : Rk Q w w' := ⟨h.os, h.tape, h.output, h.size, fun b hb hn => h.keep b hb (fun p => hn (hPQ b p))⟩
theorem Rk.of_below {P : Nat → Prop} {w w' : World} (h : Below w.heap.size w w') : Rk P w w' := ⟨h.os, h.tape, h.output, h.size, fun b hb _ => h.block b hb⟩
theorem Rk.setCell {P : Nat → Prop} {w w' : World} (h : Rk P w w') (g : Nat) (hg : w.heap.size ≤ g ∨ P g) (o : Nat) (v : Value) : Rk P w (w'.setCell ⟨g, o, none⟩ v) :=
  ⟨h.os, h.tape, h.output, by simpa using h.size, fun b hb hn => (Below.heap_setCell _ _ _ _ (fun e => by simp only at e; subst e; rcases hg with hg | hg; omega; exact hn hg)).trans (h.keep b hb hn)⟩
theorem Rk.setRow {P : Nat → Prop} {w w' : World} (h : Rk P w w') (g : Nat) (hg : w.heap.size ≤ g ∨ P g) (cs : Array Value) : Rk P w (w'.setRow g cs) :=
  ⟨h.os, h.tape, h.output, by simpa [World.setRow] using h.size, fun b hb hn => (setRow_other _ _ _ _ (fun e => by subst e; rcases hg with hg | hg; omega; exact hn hg)).trans (h.keep b hb hn)⟩
theorem Rk.below {P : Nat → Prop} {w w' : World} {B : Nat} (h : Rk P w w') (hB : B ≤ w.heap.size) (hP : ∀ b, P b → B ≤ b) : Below B w w' :=
  ⟨h.os, h.tape, h.output, h.size, fun b hb => h.keep b (by omega) (fun p => by have := hP b p; omega)⟩
theorem Rk.keeps {P S : Nat → Prop} {w w' : World} (h : Rk P w w') (hS : ∀ b, S b → ¬ P b) : Keeps S w w' := fun b hb hl => h.keep b hl (hS b hb)
end Go.Proofs.YtjedgiiplebofaaGreatDoor
namespace Go.Proofs.YtjedgiiplebofaaGreatDoor
open Go.RowKit Go
set_option linter.unusedVariables false
set_option linter.unusedSimpArgs false
end Go.Proofs.YtjedgiiplebofaaGreatDoor
