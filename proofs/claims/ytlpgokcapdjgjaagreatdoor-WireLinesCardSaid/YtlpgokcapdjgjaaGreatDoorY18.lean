/- Rows of trees, where a block besides has changed. -/
import Derived.Test.YtlpgokcapdjgjaaGreatDoorY47
import Derived.Laws.Rows
namespace Go.Proofs.YtlpgokcapdjgjaaGreatDoor
open Go.RowKit Go
set_option linter.unusedVariables false
set_option linter.unusedSimpArgs false
theorem ag {P : Program} {fn : Func} {p a : Tmp} {ty : TypeId} (h : fn.results = #[.cell p ty, .tmp a]) (tmps : Array Value) (w : World) (g : Nat) (t : TypeId) (cs : Array Value) (fr : Nat × Nat) (d : TypeDesc) (va : Value)
  (hp : tmps.getD p undef = .pointer (some ⟨g, 0, none⟩)) (hg : w.heap[g]? = some (.cells cs t fr))
  (hu : P.underlying ty = some d) (hd : (match d with | .struct _ | .array _ _ => true | _ => false) = true) (hi : (P.info? ty).map (·.size) = some cs.size) (ha : tmps.getD a undef = va) :
  (results fn tmps).run P w = .ok (.tuple #[.agg cs, va]) w := by
 have hp' : tmps[p]?.getD undef = .pointer (some ⟨g, 0, none⟩) := by simpa using hp
 have ha' : tmps[a]?.getD undef = va := by simpa using ha
 simp [results, h, hp', ha', asAddr, run_loadVar_row w g t ty cs fr d hg hu hd hi]
theorem aC {P : Program} {fn : Func} {p a b : Tmp} {ty : TypeId} (h : fn.results = #[.cell p ty, .tmp a, .tmp b]) (tmps : Array Value) (w : World) (g : Nat) (t : TypeId) (cs : Array Value) (fr : Nat × Nat) (d : TypeDesc) (va vb : Value)
  (hp : tmps.getD p undef = .pointer (some ⟨g, 0, none⟩)) (hg : w.heap[g]? = some (.cells cs t fr))
  (hu : P.underlying ty = some d) (hd : (match d with | .struct _ | .array _ _ => true | _ => false) = true) (hi : (P.info? ty).map (·.size) = some cs.size) (ha : tmps.getD a undef = va) (hb : tmps.getD b undef = vb) :
  (results fn tmps).run P w = .ok (.tuple #[.agg cs, va, vb]) w := by
 have hp' : tmps[p]?.getD undef = .pointer (some ⟨g, 0, none⟩) := by simpa using hp
 have ha' : tmps[a]?.getD undef = va := by simpa using ha
 have hb' : tmps[b]?.getD undef = vb := by simpa using hb
 simp [results, h, hp', ha', hb', asAddr, run_loadVar_row w g t ty cs fr d hg hu hd hi]
theorem ai (w : World) (o : Obj) (i : Nat) (h : i < w.heap.size) : (w.alloc o).heap[i]? = w.heap[i]? := Below.heap_alloc _ _ _ h
theorem lW {w w' : World} {base : Nat} {e : TypeId} {size n : Nat} {v : Value} {xs : List Value} (h : w.ownsRow base e size v n xs) (hk : ∀ b, base ≤ b → b < w.heap.size → w'.heap[b]? = w.heap[b]?) : w'.ownsRow base e size v n xs := by
 obtain ⟨h1, h2⟩ := h
 refine ⟨h1, ?_⟩
 rcases h2 with h2 | ⟨g, cap, cur, hv, hg, hh, r⟩
 ·exact Or.inl h2
 ·exact Or.inr ⟨g, cap, cur, hv, hg, by rw [hk g hg (Array.getElem?_eq_some_iff.1 hh).1]; exact hh, r⟩
theorem Making.keep {w w' : World} {base : Nat} {T : TypeId} {sv : Value} {es : List Ex} (h : Making w base T sv es) (hk : ∀ b, base ≤ b → b < w.heap.size → w'.heap[b]? = w.heap[b]?) : Making w' base T sv es := by
 obtain ⟨ys, h1, h2⟩ := h
 exact ⟨ys, lW h1 hk, az.keep (w := w) (fun b hb hl => hk b hb.1 hl) (fun _ _ h => h) h2⟩
theorem Making.push' {wr w1 w2 : World} {base : Nat} {T : TypeId} {sv : Value} {es : List Ex} {ys : List Value} {e : Ex} {c0 c1 c2 c3 : Value} {gg gcap : Nat} {o : Obj}
  (hown : wr.ownsRow base T 4 sv es.length ys) (hey : az wr (fun b => base ≤ b ∧ sv.ownBlock ≠ some b) true es ys) (hbase : base ≤ wr.heap.size)
  (hk : ∀ b, base ≤ b → b < wr.heap.size → w1.heap[b]? = wr.heap[b]?) (hs : wr.heap.size ≤ w1.heap.size) (hv : ax w1 (fun b => wr.heap.size ≤ b) true e (.agg #[c0, c1, c2, c3])) (hgrow : (w1.alloc o).grownBy w2 sv.ownBlock)
  (hown2 : w2.ownsRow base T 4 (.slice (some ⟨gg, 0, none⟩) (es.length + 1) gcap) (es.length + 1) (ys ++ [c0, c1, c2, c3])) (hat : sv.ownBlock = some gg ∨ gg = w1.heap.size + 1) :
  Making w2 base T (.slice (some ⟨gg, 0, none⟩) (es.length + 1) gcap) (es ++ [e]) := by
 have hlt := hown.lt
 refine ⟨ys ++ [c0, c1, c2, c3], by simpa using hown2, az.append ?_ (az.one ?_)⟩
 ·refine az.keep (w := wr) ?_ ?_ hey
  ·rintro b ⟨hb, hne⟩ hbl
   rw [hgrow.block b (by simp; omega) (fun h => hne h.symm), Below.heap_alloc _ _ _ (by omega), hk b hb hbl]
  ·rintro b hbl ⟨hb, hne⟩
   refine ⟨hb, ?_⟩
   simp only [Value.ownBlock, ne_eq, Option.some.injEq]
   intro h
   subst h
   rcases hat with h | h
   ·exact hne h
   ·omega
 ·refine ax.keep (w := w1) ?_ ?_ hv
  ·rintro b hb hbl
   rw [hgrow.block b (by simp; omega) (fun h => by have := hlt b h.symm; omega), Below.heap_alloc _ _ _ (by omega)]
  ·rintro b hbl hb
   refine ⟨by omega, ?_⟩
   simp only [Value.ownBlock, ne_eq, Option.some.injEq]
   intro h
   subst h
   rcases hat with h | h
   ·have := hlt _ h; omega
   ·omega
end Go.Proofs.YtlpgokcapdjgjaaGreatDoor
