/- A part put behind the others: a zero appended, then written over. Plain lemmas. Ahead of it: Results of which one is a variable's cells. Plain lemmas. Rows of trees, where a block besides has changed. Plain lemmas. A part put behind the others of a node that is being made. Plain lemmas. -/
import Derived.Test.YtacbiajedbbnbaaGreatDoorU1
import Derived.Laws.Rows
import Derived.Laws.OwnMore
namespace Go.Proofs.YtacbiajedbbnbaaGreatDoor
open Go.RowKit Go
set_option linter.unusedVariables false
set_option linter.unusedSimpArgs false
theorem results_row2 {P : Program} {fn : Func} {p a : Tmp} {ty : TypeId} (h : fn.results = #[.cell p ty, .tmp a]) (tmps : Array Value) (w : World) (g : Nat) (t : TypeId) (cs : Array Value) (fr : Nat × Nat) (d : TypeDesc) (va : Value)
    (hp : tmps.getD p undef = .pointer (some ⟨g, 0, none⟩)) (hg : w.heap[g]? = some (.cells cs t fr))
    (hu : P.underlying ty = some d) (hd : (match d with | .struct _ | .array _ _ => true | _ => false) = true) (hi : (P.info? ty).map (·.size) = some cs.size) (ha : tmps.getD a undef = va) :
    (results fn tmps).run P w = .ok (.tuple #[.agg cs, va]) w := by
  have hp' : tmps[p]?.getD undef = .pointer (some ⟨g, 0, none⟩) := by simpa using hp
  have ha' : tmps[a]?.getD undef = va := by simpa using ha
  simp [results, h, hp', ha', asAddr, run_loadVar_row w g t ty cs fr d hg hu hd hi]
theorem results_row3 {P : Program} {fn : Func} {p a b : Tmp} {ty : TypeId} (h : fn.results = #[.cell p ty, .tmp a, .tmp b]) (tmps : Array Value) (w : World) (g : Nat) (t : TypeId) (cs : Array Value) (fr : Nat × Nat) (d : TypeDesc) (va vb : Value)
    (hp : tmps.getD p undef = .pointer (some ⟨g, 0, none⟩)) (hg : w.heap[g]? = some (.cells cs t fr))
    (hu : P.underlying ty = some d) (hd : (match d with | .struct _ | .array _ _ => true | _ => false) = true) (hi : (P.info? ty).map (·.size) = some cs.size) (ha : tmps.getD a undef = va) (hb : tmps.getD b undef = vb) :
    (results fn tmps).run P w = .ok (.tuple #[.agg cs, va, vb]) w := by
  have hp' : tmps[p]?.getD undef = .pointer (some ⟨g, 0, none⟩) := by simpa using hp
  have ha' : tmps[a]?.getD undef = va := by simpa using ha
  have hb' : tmps[b]?.getD undef = vb := by simpa using hb
  simp [results, h, hp', ha', hb', asAddr, run_loadVar_row w g t ty cs fr d hg hu hd hi]
theorem heap_alloc_lt (w : World) (o : Obj) (i : Nat) (h : i < w.heap.size) : (w.alloc o).heap[i]? = w.heap[i]? := Below.heap_alloc _ _ _ h
end Go.Proofs.YtacbiajedbbnbaaGreatDoor

namespace Go.Proofs.YtacbiajedbbnbaaGreatDoor
open Go.RowKit Go
set_option linter.unusedVariables false
set_option linter.unusedSimpArgs false
theorem ownsRow_keep {w w' : World} {base : Nat} {e : TypeId} {size n : Nat} {v : Value} {xs : List Value} (h : w.ownsRow base e size v n xs) (hk : ∀ b, base ≤ b → b < w.heap.size → w'.heap[b]? = w.heap[b]?) : w'.ownsRow base e size v n xs := by
  obtain ⟨h1, h2⟩ := h
  refine ⟨h1, ?_⟩
  rcases h2 with h2 | ⟨g, cap, cur, hv, hg, hh, r⟩
  · exact Or.inl h2
  · exact Or.inr ⟨g, cap, cur, hv, hg, by rw [hk g hg (Array.getElem?_eq_some_iff.1 hh).1]; exact hh, r⟩
theorem Making.keep {w w' : World} {base : Nat} {T : TypeId} {sv : Value} {es : List Ex} (h : Making w base T sv es) (hk : ∀ b, base ≤ b → b < w.heap.size → w'.heap[b]? = w.heap[b]?) : Making w' base T sv es := by
  obtain ⟨ys, h1, h2⟩ := h
  exact ⟨ys, ownsRow_keep h1 hk, RepEs.keep (w := w) (fun b hb hl => hk b hb.1 hl) (fun _ _ h => h) h2⟩
theorem Making.push' {wr w1 w2 : World} {base : Nat} {T : TypeId} {sv : Value} {es : List Ex} {ys : List Value} {e : Ex} {c0 c1 c2 c3 : Value} {gg gcap : Nat} {o : Obj}
    (hown : wr.ownsRow base T 4 sv es.length ys) (hey : RepEs wr (fun b => base ≤ b ∧ sv.ownBlock ≠ some b) true es ys) (hbase : base ≤ wr.heap.size)
    (hk : ∀ b, base ≤ b → b < wr.heap.size → w1.heap[b]? = wr.heap[b]?) (hs : wr.heap.size ≤ w1.heap.size) (hv : RepE w1 (fun b => wr.heap.size ≤ b) true e (.agg #[c0, c1, c2, c3])) (hgrow : (w1.alloc o).grownBy w2 sv.ownBlock)
    (hown2 : w2.ownsRow base T 4 (.slice (some ⟨gg, 0, none⟩) (es.length + 1) gcap) (es.length + 1) (ys ++ [c0, c1, c2, c3])) (hat : sv.ownBlock = some gg ∨ gg = w1.heap.size + 1) :
    Making w2 base T (.slice (some ⟨gg, 0, none⟩) (es.length + 1) gcap) (es ++ [e]) := by
  have hlt := hown.lt
  refine ⟨ys ++ [c0, c1, c2, c3], by simpa using hown2, RepEs.append ?_ (RepEs.one ?_)⟩
  · refine RepEs.keep (w := wr) ?_ ?_ hey
    · rintro b ⟨hb, hne⟩ hbl
      rw [hgrow.block b (by simp; omega) (fun h => hne h.symm), Below.heap_alloc _ _ _ (by omega), hk b hb hbl]
    · rintro b hbl ⟨hb, hne⟩
      refine ⟨hb, ?_⟩
      simp only [Value.ownBlock, ne_eq, Option.some.injEq]
      intro h
      subst h
      rcases hat with h | h
      · exact hne h
      · omega
  · refine RepE.keep (w := w1) ?_ ?_ hv
    · rintro b hb hbl
      rw [hgrow.block b (by simp; omega) (fun h => by have := hlt b h.symm; omega), Below.heap_alloc _ _ _ (by omega)]
    · rintro b hbl hb
      refine ⟨by omega, ?_⟩
      simp only [Value.ownBlock, ne_eq, Option.some.injEq]
      intro h
      subst h
      rcases hat with h | h
      · have := hlt _ h; omega
      · omega
end Go.Proofs.YtacbiajedbbnbaaGreatDoor

namespace Go.Proofs.YtacbiajedbbnbaaGreatDoor
open Go.RowKit Go
set_option linter.unusedVariables false
set_option linter.unusedSimpArgs false
theorem rep_of_making2 {W W' : World} {base : Nat} {T : TypeId} {sv : Value} {es : List Ex} {S : Nat → Prop} {k : Int} {A B : Nat} (hm : Making W base T sv es) (hK : Keeps (fun b => base ≤ b) W W') (hS : ∀ b, base ≤ b → S b)
    (hk1 : -9223372036854775808 ≤ k) (hk2 : k ≤ 9223372036854775807) (hA : A < 18446744073709551616) (hB : B < 18446744073709551616) : RepE W' S true (.mk k A B es) (.agg #[.int .i64 k, .int .u64 A, .int .u64 B, sv]) := by
  obtain ⟨zs, h1, h2⟩ := hm.sl
  simp only [RepE]
  exact ⟨_, zs, rfl, hk1, hk2, hA, hB, h1.keep (by omega) hK (fun b _ h => hS b h), RepEs.keep hK (fun b _ h => hS b h) h2⟩
/-- p.Parts = append(p.Parts, q): behind it. -/
theorem parts_push {wr w1 w2 : World} {T : TypeId} {sa : Option Addr} {sc gg gcap base pb : Nat} {es : List Ex} {t : Ex} {c0 c1 c2 : Value} {q0 : Int} {q1 q2 : Nat} {q3 : Option Addr} {q4 q5 : Nat} {o o' : Obj} {ys : List Value}
    (hm : wr.ownsRow base T 4 (.slice sa es.length sc) es.length ys ∧ RepEs wr (fun b => base ≤ b ∧ (Value.slice sa es.length sc).ownBlock ≠ some b) true es ys)
    (hbase : base ≤ wr.heap.size) (hpb : pb < base) (hh : wr.heap[pb]? = some (.cells #[c0, c1, c2, .slice sa es.length sc] T (0, 0)))
    (hv : RepE w1 (fun b => wr.heap.size ≤ b) true t (.agg #[.int .i64 q0, .int .u64 q1, .int .u64 q2, .slice q3 q4 q5])) (hb1 : Below wr.heap.size wr w1)
    (hgrow : ((w1.alloc o).alloc o').grownBy w2 (Value.slice sa es.length sc).ownBlock)
    (hown2 : w2.ownsRow base T 4 (.slice (some ⟨gg, 0, none⟩) (es.length + 1) gcap) (es.length + 1) (ys ++ [.int .i64 q0, .int .u64 q1, .int .u64 q2, .slice q3 q4 q5]))
    (hat : (Value.slice sa es.length sc).ownBlock = some gg ∨ gg = w1.heap.size + 1 + 1) :
    Making (w2.setCell ⟨pb, 3, none⟩ (.slice (some ⟨gg, 0, none⟩) (es.length + 1) gcap)) base T (.slice (some ⟨gg, 0, none⟩) (es.length + 1) gcap) (es ++ [t]) ∧
    (w2.setCell ⟨pb, 3, none⟩ (.slice (some ⟨gg, 0, none⟩) (es.length + 1) gcap)).heap[pb]? = some (.cells #[c0, c1, c2, .slice (some ⟨gg, 0, none⟩) (es.length + 1) gcap] T (0, 0)) ∧
    (∀ b, b < base → b ≠ pb → (w2.setCell ⟨pb, 3, none⟩ (.slice (some ⟨gg, 0, none⟩) (es.length + 1) gcap)).heap[b]? = wr.heap[b]?) ∧
    Below pb wr (w2.setCell ⟨pb, 3, none⟩ (.slice (some ⟨gg, 0, none⟩) (es.length + 1) gcap)) := by
  have hob := hm.1.lt
  have hba : Below wr.heap.size wr (w1.alloc o) := hb1.alloc (by have := hb1.size; omega) _
  have hvv : RepE (w1.alloc o) (fun b => wr.heap.size ≤ b) true t (.agg #[.int .i64 q0, .int .u64 q1, .int .u64 q2, .slice q3 q4 q5]) := hv.below ((Below.refl w1.heap.size w1).alloc (Nat.le_refl _) _) (Nat.le_refl _)
  have hs1 := hb1.size
  have far : ∀ b, b < base → w2.heap[b]? = wr.heap[b]? := fun b hb => heap_far hba (by omega) (by omega) hgrow (fun e => by have := (hob _ e.symm).1; omega)
  refine ⟨(Making.push hm.1 hm.2 hbase hba (Nat.le_refl _) hvv hgrow hown2 (by simpa using hat)).setCell _ hpb _, ?_, ?_, ?_⟩
  · exact heap_set_at ((far _ hpb).trans hh) (by simp)
  · intro b hb hne
    rw [Below.heap_setCell _ _ _ _ (by simpa using hne)]; exact far b hb
  · exact (Below.grown' (base := base) (hba.mono (by omega)) hgrow (fun k hk => ⟨(hob k hk).1, by have := (hob k hk).2; simp; omega⟩) (by simp; omega) (by omega)).setCell (by simp) _

/-- All blocks that were there hold what they held, but for those that meet P. -/
structure Rk (P : Nat → Prop) (w w' : World) : Prop where
  os : w'.os = w.os
  tape : w'.tape = w.tape
  output : w'.output = w.output
  size : w.heap.size ≤ w'.heap.size
  keep : ∀ b, b < w.heap.size → ¬ P b → w'.heap[b]? = w.heap[b]?
theorem Rk.refl (P : Nat → Prop) (w : World) : Rk P w w := ⟨rfl, rfl, rfl, Nat.le_refl _, fun _ _ _ => rfl⟩
theorem Rk.trans {P : Nat → Prop} {a b c : World} (h : Rk P a b) (k : Rk P b c) : Rk P a c :=
  ⟨k.os.trans h.os, k.tape.trans h.tape, k.output.trans h.output, Nat.le_trans h.size k.size, fun i hi hn => (k.keep i (by have := h.size; omega) hn).trans (h.keep i hi hn)⟩
/-- Behind a first step that only makes memory or writes what P lets, a second one that may write above too. -/
theorem Rk.trans' {P Q : Nat → Prop} {a b c : World} (h : Rk P a b) (k : Rk Q b c) (hQ : ∀ i, i < a.heap.size → Q i → P i) : Rk P a c :=
  ⟨k.os.trans h.os, k.tape.trans h.tape, k.output.trans h.output, Nat.le_trans h.size k.size, fun i hi hn => (k.keep i (by have := h.size; omega) (fun q => hn (hQ i hi q))).trans (h.keep i hi hn)⟩
theorem Rk.mono {P Q : Nat → Prop} {w w' : World} (h : Rk P w w') (hPQ : ∀ b, P b → Q b) : Rk Q w w' := ⟨h.os, h.tape, h.output, h.size, fun b hb hn => h.keep b hb (fun p => hn (hPQ b p))⟩
theorem Rk.of_below {P : Nat → Prop} {w w' : World} (h : Below w.heap.size w w') : Rk P w w' := ⟨h.os, h.tape, h.output, h.size, fun b hb _ => h.block b hb⟩
theorem Rk.setCell {P : Nat → Prop} {w w' : World} (h : Rk P w w') (g : Nat) (hg : w.heap.size ≤ g ∨ P g) (o : Nat) (v : Value) : Rk P w (w'.setCell ⟨g, o, none⟩ v) :=
  ⟨h.os, h.tape, h.output, by simpa using h.size, fun b hb hn => (Below.heap_setCell _ _ _ _ (fun e => by simp only at e; subst e; rcases hg with hg | hg; omega; exact hn hg)).trans (h.keep b hb hn)⟩
theorem Rk.setRow {P : Nat → Prop} {w w' : World} (h : Rk P w w') (g : Nat) (hg : w.heap.size ≤ g ∨ P g) (cs : Array Value) : Rk P w (w'.setRow g cs) :=
  ⟨h.os, h.tape, h.output, by simpa [World.setRow] using h.size, fun b hb hn => (setRow_other _ _ _ _ (fun e => by subst e; rcases hg with hg | hg; omega; exact hn hg)).trans (h.keep b hb hn)⟩
theorem Rk.below {P : Nat → Prop} {w w' : World} {B : Nat} (h : Rk P w w') (hB : B ≤ w.heap.size) (hP : ∀ b, P b → B ≤ b) : Below B w w' :=
  ⟨h.os, h.tape, h.output, h.size, fun b hb => h.keep b (by omega) (fun p => by have := hP b p; omega)⟩
theorem Rk.keeps {P S : Nat → Prop} {w w' : World} (h : Rk P w w') (hS : ∀ b, S b → ¬ P b) : Keeps S w w' := fun b hb hl => h.keep b hl (hS b hb)
end Go.Proofs.YtacbiajedbbnbaaGreatDoor

namespace Go.Proofs.YtacbiajedbbnbaaGreatDoor
open Go.RowKit Go
set_option linter.unusedVariables false
set_option linter.unusedSimpArgs false
theorem set4_list (ys : List Value) (n : Nat) (hy : ys.length = n * 4) (z0 z1 z2 z3 v0 v1 v2 v3 : Value) :
    ((((ys ++ [z0, z1, z2, z3]).set (n * 4) v0).set (n * 4 + 1) v1).set (n * 4 + 2) v2).set (n * 4 + 3) v3 = ys ++ [v0, v1, v2, v3] := by
  rw [← hy]
  rw [List.set_append_right _ _ (by omega), List.set_append_right _ _ (by omega), List.set_append_right _ _ (by omega), List.set_append_right _ _ (by omega)]
  simp
def put4at (w : World) (g o : Nat) (v0 v1 v2 v3 : Value) : World := (((w.setCell ⟨g, o, none⟩ v0).setCell ⟨g, o + 1, none⟩ v1).setCell ⟨g, o + 2, none⟩ v2).setCell ⟨g, o + 3, none⟩ v3
theorem put4at_owns {w : World} {base : Nat} {T : TypeId} {g n cap : Nat} {ys : List Value} {z0 z1 z2 z3 v0 v1 v2 v3 : Value} (h : w.ownsRow base T 4 (.slice (some ⟨g, 0, none⟩) (n + 1) cap) (n + 1) (ys ++ [z0, z1, z2, z3])) (hy : ys.length = n * 4) :
    (put4at w g (n * 4) v0 v1 v2 v3).ownsRow base T 4 (.slice (some ⟨g, 0, none⟩) (n + 1) cap) (n + 1) (ys ++ [v0, v1, v2, v3]) := by
  have h4 := ((((h.stored (n * 4) v0).1.stored (n * 4 + 1) v1).1.stored (n * 4 + 2) v2).1.stored (n * 4 + 3) v3).1
  rw [set4_list ys n hy] at h4
  exact h4
theorem put4at_heap {w : World} {g o b : Nat} {v0 v1 v2 v3 : Value} (h : b ≠ g) : (put4at w g o v0 v1 v2 v3).heap[b]? = w.heap[b]? := by
  unfold put4at
  rw [Below.heap_setCell _ _ _ _ h, Below.heap_setCell _ _ _ _ h, Below.heap_setCell _ _ _ _ h, Below.heap_setCell _ _ _ _ h]
theorem put4at_size (w : World) (g o : Nat) (v0 v1 v2 v3 : Value) : (put4at w g o v0 v1 v2 v3).heap.size = w.heap.size := by simp [put4at]
/-- The last element's cells. -/
theorem last4 {w : World} {base : Nat} {T : TypeId} {g n cap : Nat} {ys : List Value} {z0 z1 z2 z3 : Value} (h : w.ownsRow base T 4 (.slice (some ⟨g, 0, none⟩) (n + 1) cap) (n + 1) (ys ++ [z0, z1, z2, z3])) (hy : ys.length = n * 4) :
    w.cell? ⟨g, n * 4, none⟩ = some z0 ∧ w.cell? ⟨g, n * 4 + 1, none⟩ = some z1 ∧ w.cell? ⟨g, n * 4 + 2, none⟩ = some z2 ∧ w.cell? ⟨g, n * 4 + 3, none⟩ = some z3 ∧ (∀ j, w.frozen? ⟨g, j, none⟩ = false) := by
  refine ⟨?_, ?_, ?_, ?_, fun j => h.frozenAt j⟩
  all_goals (rw [h.cellAt _ (by omega), ← hy, List.getElem?_append_right (by omega)]; simp)
/-- What p.Parts = append(p.Parts, q) leaves, in whatever order its stores came. -/
theorem parts_put {W X w2 F : World} {T : TypeId} {sa : Option Addr} {sc gg gcap base pb lo : Nat} {es : List Ex} {t : Ex} {q0 : Int} {q1 q2 : Nat} {q3 : Option Addr} {q4 q5 : Nat} {ys : List Value}
    (hown : W.ownsRow base T 4 (.slice sa es.length sc) es.length ys) (hey : RepEs W (fun b => base ≤ b ∧ (Value.slice sa es.length sc).ownBlock ≠ some b) true es ys) (hbase : base ≤ lo) (hpb : pb < base) (hlo : ∀ k, (Value.slice sa es.length sc).ownBlock = some k → k < lo)
    (hv : RepE W (fun b => lo ≤ b) true t (.agg #[.int .i64 q0, .int .u64 q1, .int .u64 q2, .slice q3 q4 q5]))
    (hX : Below W.heap.size W X) (hXs : X.heap.size = W.heap.size + 1) (hgrow : X.grownBy w2 (Value.slice sa es.length sc).ownBlock) (hat : (Value.slice sa es.length sc).ownBlock = some gg ∨ gg = W.heap.size + 1)
    (hF0 : F.os = w2.os ∧ F.tape = w2.tape ∧ F.output = w2.output ∧ F.heap.size = w2.heap.size) (hF1 : F.ownsRow base T 4 (.slice (some ⟨gg, 0, none⟩) (es.length + 1) gcap) (es.length + 1) (ys ++ [.int .i64 q0, .int .u64 q1, .int .u64 q2, .slice q3 q4 q5]))
    (hF2 : ∀ b, b ≠ gg → b ≠ pb → F.heap[b]? = w2.heap[b]?) :
    Making F base T (.slice (some ⟨gg, 0, none⟩) (es.length + 1) gcap) (es ++ [t]) ∧ (∀ b, b < base → b ≠ pb → b < W.heap.size → F.heap[b]? = W.heap[b]?) ∧ W.heap.size ≤ F.heap.size ∧ (pb ≤ W.heap.size → Below pb W F) := by
  have hlt := hown.lt
  have hgs := hgrow.size
  have hsame : ∀ b, b < W.heap.size → b ≠ pb → (Value.slice sa es.length sc).ownBlock ≠ some b → F.heap[b]? = W.heap[b]? := by
    intro b hb hp hn
    have hg : b ≠ gg := by
      intro e; subst e
      rcases hat with h | h
      · exact hn h
      · omega
    rw [hF2 b hg hp, hgrow.block b (by omega) (fun e => hn e.symm), hX.block b hb]
  refine ⟨⟨ys ++ [.int .i64 q0, .int .u64 q1, .int .u64 q2, .slice q3 q4 q5], by simpa using hF1, RepEs.append ?_ (RepEs.one ?_)⟩, ?_, ?_, ?_⟩
  · refine RepEs.keep (w := W) ?_ ?_ hey
    · rintro b ⟨hb, hne⟩ hbl
      exact hsame b hbl (by omega) hne
    · rintro b hbl ⟨hb, hne⟩
      refine ⟨hb, ?_⟩
      simp only [Value.ownBlock, ne_eq, Option.some.injEq]
      intro h
      subst h
      rcases hat with h | h
      · exact hne h
      · omega
  · refine RepE.keep (w := W) ?_ ?_ hv
    · rintro b hb hbl
      exact hsame b hbl (by omega) (fun e => by have := hlo b e; omega)
    · rintro b hbl hb
      refine ⟨by omega, ?_⟩
      simp only [Value.ownBlock, ne_eq, Option.some.injEq]
      intro h
      subst h
      rcases hat with h | h
      · have := hlo _ h; omega
      · omega
  · intro b hb hp hbl
    exact hsame b hbl hp (fun e => by have := (hlt b e).1; omega)
  · rw [hF0.2.2.2]; omega
  · intro hp
    exact ⟨hF0.1.trans (hgrow.os.trans hX.os), hF0.2.1.trans (hgrow.tape.trans hX.tape), hF0.2.2.1.trans (hgrow.output.trans hX.output), by rw [hF0.2.2.2]; omega, fun b hb => hsame b (by omega) (by omega) (fun e => by have := (hlt b e).1; omega)⟩
end Go.Proofs.YtacbiajedbbnbaaGreatDoor
