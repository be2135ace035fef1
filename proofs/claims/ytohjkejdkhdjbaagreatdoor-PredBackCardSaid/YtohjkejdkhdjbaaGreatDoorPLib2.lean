/- Rows of trees that a call makes, one tree a round. Plain lemmas, no program. -/
import Derived.Test.YtohjkejdkhdjbaaGreatDoorPLib
import Derived.Deep.AppendLies
import Derived.OneCell
namespace Go.Proofs.YtohjkejdkhdjbaaGreatDoor
open Go.RowKit Go
set_option linter.unusedVariables false
set_option linter.unusedSimpArgs false

/-- What a slice value looks like. -/
theorem owns_slice {w : World} {base : Nat} {e : TypeId} {size n : Nat} {v : Value} {xs : List Value} (h : w.ownsRow base e size v n xs) : ∃ ad cap, v = .slice ad n cap := by
  rcases h.2 with ⟨rfl, rfl⟩ | ⟨g, cap, cur, rfl, _⟩
  · exact ⟨_, _, rfl⟩
  · exact ⟨_, _, rfl⟩

/-- The row that is being made: some trees so far, in blocks from base on, none in the row itself. -/
def Making (w : World) (base : Nat) (T : TypeId) (sv : Value) (es : List Ex) : Prop :=
  ∃ ys, w.ownsRow base T 4 sv es.length ys ∧ RepEs w (fun b => base ≤ b ∧ sv.ownBlock ≠ some b) true es ys

theorem Making.nil (w : World) (base : Nat) (T : TypeId) : Making w base T (.slice none 0 0) [] := ⟨[], World.ownsRow_nil _ _ _ _, by simp [RepEs]⟩

theorem Making.push {wr w1 w2 : World} {base B : Nat} {T : TypeId} {sv : Value} {es : List Ex} {ys : List Value} {e : Ex} {c0 c1 c2 c3 : Value} {gg gcap : Nat} {o : Obj}
    (hown : wr.ownsRow base T 4 sv es.length ys) (hey : RepEs wr (fun b => base ≤ b ∧ sv.ownBlock ≠ some b) true es ys) (hbase : base ≤ wr.heap.size)
    (hb1 : Below B wr w1) (hB : wr.heap.size ≤ B) (hv : RepE w1 (fun b => wr.heap.size ≤ b) true e (.agg #[c0, c1, c2, c3])) (hgrow : (w1.alloc o).grownBy w2 sv.ownBlock)
    (hown2 : w2.ownsRow base T 4 (.slice (some ⟨gg, 0, none⟩) (es.length + 1) gcap) (es.length + 1) (ys ++ [c0, c1, c2, c3])) (hat : sv.ownBlock = some gg ∨ gg = w1.heap.size + 1) :
    Making w2 base T (.slice (some ⟨gg, 0, none⟩) (es.length + 1) gcap) (es ++ [e]) := by
  have hlt := hown.lt
  have hs := hb1.size
  refine ⟨ys ++ [c0, c1, c2, c3], by simpa using hown2, RepEs.append ?_ (RepEs.one ?_)⟩
  · refine RepEs.keep (w := wr) ?_ ?_ hey
    · rintro b ⟨hb, hne⟩ hbl
      rw [hgrow.block b (by simp; omega) (fun h => hne h.symm), Below.heap_alloc _ _ _ (by omega), hb1.block b (by omega)]
    · rintro b hbl ⟨hb, hne⟩
      refine ⟨hb, ?_⟩
      simp only [Value.ownBlock, ne_eq, Option.some.injEq]
      intro h
      subst h
      rcases hat with h | h
      · exact hne h
      · omega
  · refine RepE.keep (w := w1) ?_ ?_ hv
    · rintro b hb hbl
      rw [hgrow.block b (by simp; omega) (fun h => by have := hlt b h.symm; omega), Below.heap_alloc _ _ _ (by omega)]
    · rintro b hbl hb
      refine ⟨by omega, ?_⟩
      simp only [Value.ownBlock, ne_eq, Option.some.injEq]
      intro h
      subst h
      rcases hat with h | h
      · have := hlt _ h; omega
      · omega

theorem Making.setCell {w : World} {base : Nat} {T : TypeId} {sv : Value} {es : List Ex} (h : Making w base T sv es) (a : Addr) (ha : a.block < base) (v : Value) : Making (w.setCell a v) base T sv es := by
  obtain ⟨ys, h1, h2⟩ := h
  refine ⟨ys, ownsRow_setCell_below h1 ha v, RepEs.keep (w := w) ?_ (fun _ _ h => h) h2⟩
  rintro b ⟨hb, _⟩ _
  exact Below.heap_setCell _ _ _ _ (by omega)

theorem Making.below {w w' : World} {base B : Nat} {T : TypeId} {sv : Value} {es : List Ex} (h : Making w base T sv es) (hb : Below B w w') (hB : w.heap.size ≤ B) : Making w' base T sv es := by
  obtain ⟨ys, h1, h2⟩ := h
  exact ⟨ys, ownsRow_below h1 hb hB, h2.below hb hB⟩

/-- The row, as a slice of trees. -/
theorem Making.sl {w : World} {base : Nat} {T : TypeId} {sv : Value} {es : List Ex} (h : Making w base T sv es) : ∃ ys, Sl w (fun b => base ≤ b) true 4 es.length ys sv ∧ RepEs w (fun b => base ≤ b) true es ys := by
  obtain ⟨ys, h1, h2⟩ := h
  exact ⟨ys, (Sl.of_owns h1 (by omega)).keep (by omega) (fun _ _ _ => rfl) (fun _ _ h => h.2), h2.wider fun _ _ h => h.1⟩

theorem heap_set_at {w : World} {b o : Nat} {cs cs' : Array Value} {t : TypeId} {v : Value} (h : w.heap[b]? = some (.cells cs t (0, 0))) (hcs : cs' = cs.setIfInBounds o v) : (w.setCell ⟨b, o, none⟩ v).heap[b]? = some (.cells cs' t (0, 0)) := by
  rw [hcs]; exact heap_setCell_same w b o cs t v h
/-- A block that was there, behind a call, a new block and an append elsewhere. -/
theorem heap_far {wr w1 w2 : World} {B b : Nat} {o : Obj} {row : Option Nat} (hb1 : Below B wr w1) (hbB : b < B) (hbw : b < wr.heap.size) (hgrow : (w1.alloc o).grownBy w2 row) (hne : some b ≠ row) : w2.heap[b]? = wr.heap[b]? := by
  have hs := hb1.size
  rw [hgrow.block b (by simp; omega) hne, Below.heap_alloc _ _ _ (by omega), hb1.block b hbB]
/-- The frame behind a call, a new block and an append to a row of the call's own. -/
theorem Below.grown' {B base : Nat} {w w1 w2 : World} {o : Obj} {sv : Value} (h : Below B w w1) (hg : (w1.alloc o).grownBy w2 sv.ownBlock) (hob : ∀ k, sv.ownBlock = some k → base ≤ k ∧ k < w1.heap.size) (hB : B ≤ w1.heap.size) (hbb : B ≤ base) : Below B w w2 :=
  (h.alloc hB _).grown hg (by simp; omega) (fun k hk => by have := (hob k hk).1; omega)
end Go.Proofs.YtohjkejdkhdjbaaGreatDoor
