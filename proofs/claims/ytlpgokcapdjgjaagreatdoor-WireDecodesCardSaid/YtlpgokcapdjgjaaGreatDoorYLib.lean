/- Representation of Go data in the model's memory. -/
import Derived.WalkKit
import Derived.Lib.Hide
import Derived.KernelRfl
import Derived.Laws.Rows
import Derived.Laws.Tables
import Derived.Laws.World
import Derived.Below
import Derived.Tactics
namespace Go.Proofs.YtlpgokcapdjgjaaGreatDoor
open Go.RowKit Go
set_option linter.unusedVariables false
set_option linter.unusedSimpArgs false
theorem _root_.Go.hid {p : Prop} (h : p) : Hid p := Lib.hid h
theorem _root_.Go.br {B : Nat} {w : World} : Below B w w := Below.refl _ _
theorem _root_.Go.nl {n : Nat} : n ≤ n := Nat.le_refl _
theorem _root_.Go.aa {α β : Type} {f : α → β} {o : Option α} {b : β} (h : o.map f = some b) : ∃ a, o = some a ∧ f a = b := Option.map_eq_some_iff.1 h
theorem _root_.Go.ae {α β : Type} {f : α → Option β} {o : Option α} {b : β} (h : o.bind f = some b) : ∃ a, o = some a ∧ f a = some b := Option.bind_eq_some_iff.1 h
theorem _root_.Go.af {α : Type} {l : List α} {i : Nat} (h : i < l.length) : l[i]? = some l[i] := List.getElem?_eq_getElem h
theorem _root_.Go.ag {α : Type} {l : Array α} {i : Nat} (h : i < l.size) : l[i]? = some l[i] := Array.getElem?_eq_getElem h
theorem _root_.Go.ah {α : Type} {l : List α} {i : Nat} (h : l.length ≤ i) : l.take i = l := List.take_of_length_le h
theorem _root_.Go.ai {α β : Type} (a : α) (f : α → Option β) : (some a).bind f = f a := rfl
theorem _root_.Go.ak {α : Type} {xs : Array α} {i : Nat} {b : α} (h : xs[i]? = some b) : ∃ h : i < xs.size, xs[i] = b := Array.getElem?_eq_some_iff.1 h
theorem _root_.Go.au {a b : Prop} (x : a) (y : b) : a ∧ b := ⟨x, y⟩
theorem _root_.Go.ax (w : World) (g j : Nat) (cs : Array Value) (t : TypeId) (fr : Nat × Nat) (h : w.heap[g]? = some (.cells cs t fr)) : w.cell? ⟨g, j, none⟩ = cs[j]? := cell_of_row w g j cs t fr h
theorem _root_.Go.ay (w : World) (a : Addr) (u : Value) (k : Nat) (h : k ≠ a.block) : (w.setCell a u).heap[k]? = w.heap[k]? := Below.heap_setCell w a u k h
theorem _root_.Go.az (w : World) (o : Obj) (k : Nat) (h : k < w.heap.size) : (w.alloc o).heap[k]? = w.heap[k]? := Below.heap_alloc w o k h
theorem _root_.Go.aA (w : World) (g j : Nat) (cs : Array Value) (t : TypeId) (h : w.heap[g]? = some (.cells cs t (0, 0))) : w.frozen? ⟨g, j, none⟩ = false := frozen_of_row w g j cs t h
theorem _root_.Go.aB (w : World) (g : Nat) (old cs : Array Value) (t : TypeId) (fr : Nat × Nat) (h : w.heap[g]? = some (.cells old t fr)) : (w.setRow g cs).heap[g]? = some (.cells cs t fr) := setRow_heap w g old cs t fr h
theorem _root_.Go.aC {P : Program} {fn : Func} {R : Ending → World → Prop} {a : Act} {w : World} {v : Value} (hr : (results fn a.tmps).run P w = .ok v w) (hd : a.defers = []) (hR : R (.returned v) w) : bodyPost P fn R .ret a w := bodyPost_ret hr hd hR
theorem _root_.Go.aD (w : World) (o : Obj) : (w.alloc o).heap.size = w.heap.size + 1 := World.size_alloc w o
theorem _root_.Go.aF (w : World) (a b : Addr) (v : Value) (h : a ≠ b) : (w.setCell a v).cell? b = w.cell? b := World.cell?_setCell_other w a b v h
theorem _root_.Go.aG (w : World) (a : Addr) {u : Value} (h : w.cell? a = some u) : a.block < w.heap.size := World.block_lt_of_cell? w a h
theorem _root_.Go.aH (a b : Bool) : ((a && b) = true) = (a = true ∧ b = true) := Bool.and_eq_true a b
theorem _root_.Go.aI {α : Type} {a b : List α} : (a ++ b).length = a.length + b.length := List.length_append
theorem _root_.Go.aJ {α : Type} {a : α} {b : List α} : (a :: b).length = b.length + 1 := List.length_cons
def Sl (w : World) (S : Nat → Prop) (own : Bool) (sz n : Nat) (xs : List Value) (v : Value) : Prop :=
 xs.length = n * sz ∧ n ≤ 9223372036854775807 ∧ ∃ ad cap, v = .slice ad n cap ∧ n ≤ cap ∧
  (0 < n → ∃ bl off, ad = some ⟨bl, off, none⟩ ∧ S bl ∧ ∀ j (h : j < xs.length), w.cell? ⟨bl, off + j, none⟩ = some xs[j] ∧ (own = true → w.frozen? ⟨bl, off + j, none⟩ = false))
def cz (S : Nat → Prop) (w w' : World) : Prop := ∀ b, S b → b < w.1.size → w'.1[b]? = w.1[b]?
theorem Below.keeps {B : Nat} {w w' : World} (h : Below B w w') (hB : w.1.size ≤ B) (S : Nat → Prop) : cz S w w' := fun b _ hb => h.block b (by omega)
theorem cz.trans {S : Nat → Prop} {w w' w'' : World} (h : cz S w w') (hs : w.1.size ≤ w'.1.size) (k : cz S w' w'') : cz S w w'' :=
 fun b hb hl => (k b hb (by omega)).trans (h b hb hl)
theorem pW {S : Nat → Prop} {w w' : World} {row : Option Nat} (h : w.grownBy w' row) (hr : ∀ b, S b → some b ≠ row) : cz S w w' :=
 fun b hb hl => h.block b hl (hr b hb)
theorem Sl.keep {w w' : World} {S S' : Nat → Prop} {own : Bool} {sz n : Nat} {xs : List Value} {v : Value} (h : Sl w S own sz n xs v) (hsz : 0 < sz)
  (hk : cz S w w') (hS : ∀ b, b < w.1.size → S b → S' b) : Sl w' S' own sz n xs v := by
 obtain ⟨h1, h2, ad, cap, h3, h4, h5⟩ := h;refine ⟨h1, h2, ad, cap, h3, h4, fun hn => ?_⟩;obtain ⟨bl, off, ha, hs, hc⟩ := h5 hn;have hpos : 0 < xs.length := by rw [h1]; exact Nat.mul_pos hn hsz
 have hlt : bl < w.1.size := aG w ⟨bl, off + 0, none⟩ (hc 0 hpos).1;refine ⟨bl, off, ha, hS bl hlt hs, fun j hj => ?_⟩;have hb := hk bl hs hlt;obtain ⟨c1, c2⟩ := hc j hj;exact ⟨by rw [World.cell?_of_block (w := w) (a := ⟨bl, off + j, none⟩) hb]; exact c1, fun ho => by rw [World.frozen?_of_block (w := w) (a := ⟨bl, off + j, none⟩) hb]; exact c2 ho⟩
theorem Sl.below {B : Nat} {w w' : World} {S : Nat → Prop} {own : Bool} {sz n : Nat} {xs : List Value} {v : Value} (h : Sl w S own sz n xs v) (hsz : 0 < sz)
  (hb : Below B w w') (hB : w.1.size ≤ B) : Sl w' S own sz n xs v := h.keep hsz (Below.keeps hb hB S) (fun _ _ h => h)
theorem Sl.unown {w : World} {S : Nat → Prop} {own : Bool} {sz n : Nat} {xs : List Value} {v : Value} (h : Sl w S own sz n xs v) : Sl w S false sz n xs v := by
 obtain ⟨h1, h2, ad, cap, h3, h4, h5⟩ := h;refine ⟨h1, h2, ad, cap, h3, h4, fun hn => ?_⟩;obtain ⟨bl, off, ha, hs, hc⟩ := h5 hn;exact ⟨bl, off, ha, hs, fun j hj => ⟨(hc j hj).1, fun h => by cases h⟩⟩
theorem Sl.nil (w : World) (S : Nat → Prop) (own : Bool) (sz : Nat) : Sl w S own sz 0 [] (.slice none 0 0) :=
 ⟨by simp, by omega, none, 0, rfl, by omega, fun h => by omega⟩
theorem Sl.of_owns {w : World} {base : Nat} {e : TypeId} {size n : Nat} {v : Value} {xs : List Value} (h : w.ownsRow base e size v n xs) (hsz : 0 < size) :
  Sl w (fun b => v.ownBlock = some b ∧ base ≤ b) true size n xs v := by
 obtain ⟨hl, h⟩ := h;rcases h with ⟨rfl, rfl⟩ | ⟨g, cap, cur, rfl, hb, hg, hn, hm, hs, ht⟩
 ·simp at hl; subst hl; exact Sl.nil _ _ _ _
 ·refine ⟨hl, by unfold maxLen at hm; omega, _, _, rfl, hn, fun hp => ⟨g, 0, rfl, ⟨rfl, hb⟩, fun j hj => ?_⟩⟩
  rw [ax w g (0 + j) cur e (0, 0) hg];refine ⟨?_, fun _ => by simp [World.frozen?, hg]⟩;have : xs[j]? = some xs[j] := af hj;rw [← this, ← ht, List.getElem?_take, if_pos (by omega)];simp
theorem Sl.cells {w : World} {S : Nat → Prop} {own : Bool} {sz n cap : Nat} {xs : List Value} {ad : Option Addr} (h : Sl w S own sz n xs (.slice ad n cap)) (hn : 0 < n) :
  ∃ bl off, ad = some ⟨bl, off, none⟩ ∧ S bl ∧ ∀ j (h : j < xs.length), w.cell? ⟨bl, off + j, none⟩ = some xs[j] ∧ (own = true → w.frozen? ⟨bl, off + j, none⟩ = false) := by
 obtain ⟨h1, h2, ad', cap', h3, h4, h5⟩ := h;simp only [Value.slice.injEq] at h3;obtain ⟨rfl, _, rfl⟩ := h3;exact h5 hn
theorem Sl.shape {w : World} {S : Nat → Prop} {own : Bool} {sz n : Nat} {xs : List Value} {v : Value} (h : Sl w S own sz n xs v) :
  xs.length = n * sz ∧ n ≤ 9223372036854775807 ∧ ∃ ad cap, v = .slice ad n cap ∧ n ≤ cap := ⟨h.1, h.2.1, h.2.2.choose, h.2.2.choose_spec.choose, h.2.2.choose_spec.choose_spec.1, h.2.2.choose_spec.choose_spec.2.1⟩
theorem run_storeVar_row {P : Program} (w : World) (g : Nat) (t ty : TypeId) (cur cs : Array Value) (hg : w.1[g]? = some (.cells cur t (0, 0))) (hi : (P.info? ty).map (·.size) = some cs.size)
  (hsz : cs.size = cur.size) (h1 : ∀ v ∈ cs.toList, v.oneCell' = true) : (storeVar ty ⟨g, 0, none⟩ (.agg cs)).run P w = .ok () (w.setRow g cs) := by
 obtain ⟨i, h2, h3⟩ := aa hi;have hst := run_storeCells_at (P := P) g 0 t cs.toList 0 cur w hg (by simp; omega) h1;simp only [Nat.add_zero, List.take_zero, List.nil_append, Nat.zero_add] at hst;rw [List.drop_of_length_le (by simp; omega), List.append_nil, Array.toArray_toList] at hst;simp [storeVar, sizeOf, typeInfo, h2, h3, Value.cells, hst]
theorem wpList_store_row {P : Program} {ops : Array Oper} {rest : List Oper} {o : Oper} {a : Act} {w : World} {Q : Exit → Act → World → Prop} (hgd : o.guard = none) (ty : TypeId) (x y : Operand) (ho : o.op = .store ty x y) (hd : o.dst = none)
  (g : Nat) (hx : a.eval x = .pointer (some ⟨g, 0, none⟩)) (cs : Array Value) (hy : a.eval y = .agg cs) (t : TypeId) (cur : Array Value) (hg : w.1[g]? = some (.cells cur t (0, 0)))
  (hi : (P.info? ty).map (·.size) = some cs.size) (hsz : cs.size = cur.size) (h1 : ∀ v ∈ cs.toList, v.oneCell' = true)
  (h : wpList P ops Q rest a (w.setRow g cs)) : wpList P ops Q (o :: rest) a w :=
 wpList_plain hgd fun K hK => by
  unfold Oper.wp execOp;simp only [ho, hx, hy, Instr.storeAt, Instr.sureAddr, Sem.run_bind, Sem.run_pure, Result.andThen_ok, run_storeVar_row w g t ty cur cs hg hi hsz h1];show K (a.put o.dst undef) _;rw [hd];exact hK _ _ h
theorem below_setRow {B : Nat} {w w' : World} (h : Below B w w') (g : Nat) (cs : Array Value) (hg : B ≤ g) : Below B w (w'.setRow g cs) :=
 h.trans ⟨rfl, rfl, rfl, by simp [World.setRow], fun k hk => setRow_other _ _ _ _ (by omega)⟩
inductive Ex where
 | mk (k : Int) (a b : Nat) (ps : List Ex)
mutual
def aT (w : World) (S : Nat → Prop) (own : Bool) : Ex → Value → Prop
 | .mk k a b ps, v => ∃ s xs, v = .agg #[.int .i64 k, .int .u64 a, .int .u64 b, s] ∧ -9223372036854775808 ≤ k ∧ k ≤ 9223372036854775807 ∧ a < 18446744073709551616 ∧ b < 18446744073709551616 ∧
   Sl w S own 4 ps.length xs s ∧ aX w S own ps xs
def aX (w : World) (S : Nat → Prop) (own : Bool) : List Ex → List Value → Prop
 | [], xs => xs = []
 | e :: es, xs => ∃ c0 c1 c2 c3 rest, xs = c0 :: c1 :: c2 :: c3 :: rest ∧ aT w S own e (.agg #[c0, c1, c2, c3]) ∧ aX w S own es rest
end
mutual
theorem aT.keep {w w' : World} {S S' : Nat → Prop} {own : Bool} (hk : cz S w w') (hS : ∀ b, b < w.1.size → S b → S' b) : ∀ {e : Ex} {v : Value}, aT w S own e v → aT w' S' own e v
 | .mk k a b ps, v, h => by
  simp only [aT] at h ⊢;obtain ⟨s, xs, h1, h2, h3, h4, h5, h6, h7⟩ := h;exact ⟨s, xs, h1, h2, h3, h4, h5, h6.keep (by omega) hk hS, aX.keep hk hS h7⟩
theorem aX.keep {w w' : World} {S S' : Nat → Prop} {own : Bool} (hk : cz S w w') (hS : ∀ b, b < w.1.size → S b → S' b) : ∀ {es : List Ex} {xs : List Value}, aX w S own es xs → aX w' S' own es xs
 | [], xs, h => by simpa [aX] using h
 | e :: es, xs, h => by
  simp only [aX] at h ⊢;obtain ⟨c0, c1, c2, c3, rest, h1, h2, h3⟩ := h;exact ⟨c0, c1, c2, c3, rest, h1, aT.keep hk hS h2, aX.keep hk hS h3⟩
end
mutual
theorem aT.unown {w : World} {S : Nat → Prop} {own : Bool} : ∀ {e : Ex} {v : Value}, aT w S own e v → aT w S false e v
 | .mk k a b ps, v, h => by
  simp only [aT] at h ⊢;obtain ⟨s, xs, h1, h2, h3, h4, h5, h6, h7⟩ := h;exact ⟨s, xs, h1, h2, h3, h4, h5, h6.unown, aX.unown h7⟩
theorem aX.unown {w : World} {S : Nat → Prop} {own : Bool} : ∀ {es : List Ex} {xs : List Value}, aX w S own es xs → aX w S false es xs
 | [], xs, h => by simpa [aX] using h
 | e :: es, xs, h => by
  simp only [aX] at h ⊢;obtain ⟨c0, c1, c2, c3, rest, h1, h2, h3⟩ := h;exact ⟨c0, c1, c2, c3, rest, h1, aT.unown h2, aX.unown h3⟩
end
theorem aT.below {B : Nat} {w w' : World} {S : Nat → Prop} {own : Bool} {e : Ex} {v : Value} (h : aT w S own e v) (hb : Below B w w') (hB : w.1.size ≤ B) : aT w' S own e v :=
 aT.keep (Below.keeps hb hB S) (fun _ _ h => h) h
theorem aX.below {B : Nat} {w w' : World} {S : Nat → Prop} {own : Bool} {e : List Ex} {v : List Value} (h : aX w S own e v) (hb : Below B w w') (hB : w.1.size ≤ B) : aX w' S own e v :=
 aX.keep (Below.keeps hb hB S) (fun _ _ h => h) h
theorem aT.wider {w : World} {S S' : Nat → Prop} {own : Bool} {e : Ex} {v : Value} (h : aT w S own e v) (hS : ∀ b, b < w.1.size → S b → S' b) : aT w S' own e v :=
 aT.keep (w := w) (fun _ _ _ => rfl) hS h
theorem aX.wider {w : World} {S S' : Nat → Prop} {own : Bool} {e : List Ex} {v : List Value} (h : aX w S own e v) (hS : ∀ b, b < w.1.size → S b → S' b) : aX w S' own e v :=
 aX.keep (w := w) (fun _ _ _ => rfl) hS h
theorem aX.length {w : World} {S : Nat → Prop} {own : Bool} : ∀ {es : List Ex} {xs : List Value}, aX w S own es xs → xs.length = es.length * 4
 | [], xs, h => by simp [aX] at h; simp [h]
 | e :: es, xs, h => by
  simp only [aX] at h;obtain ⟨c0, c1, c2, c3, rest, rfl, h2, h3⟩ := h;have := h3.length;simp; omega
theorem aX.append {w : World} {S : Nat → Prop} {own : Bool} : ∀ {es es' : List Ex} {xs xs' : List Value}, aX w S own es xs → aX w S own es' xs' → aX w S own (es ++ es') (xs ++ xs')
 | [], es', xs, xs', h, h' => by simp [aX] at h; simpa [h] using h'
 | e :: es, es', xs, xs', h, h' => by
  simp only [aX, List.cons_append] at h ⊢;obtain ⟨c0, c1, c2, c3, rest, rfl, h2, h3⟩ := h;exact ⟨c0, c1, c2, c3, rest ++ xs', rfl, h2, h3.append h'⟩
theorem aX.one {w : World} {S : Nat → Prop} {own : Bool} {e : Ex} {c0 c1 c2 c3 : Value} (h : aT w S own e (.agg #[c0, c1, c2, c3])) : aX w S own [e] [c0, c1, c2, c3] := by
 simp only [aX];exact ⟨c0, c1, c2, c3, [], rfl, h, rfl⟩
theorem aT.four {w : World} {S : Nat → Prop} {own : Bool} : ∀ {e : Ex} {v : Value}, aT w S own e v → ∃ c0 c1 c2 c3, v = .agg #[c0, c1, c2, c3]
 | .mk k a b ps, v, h => by
  simp only [aT] at h;obtain ⟨s, xs, h1, _⟩ := h;exact ⟨_, _, _, _, h1⟩
theorem aT.conc {w : World} {S : Nat → Prop} {own : Bool} : ∀ {e : Ex} {v : Value}, aT w S own e v → ∃ k' a' b' ad' n' cap', v = .agg #[.int .i64 k', .int .u64 (a' : Nat), .int .u64 (b' : Nat), .slice ad' n' cap']
 | .mk k a b ps, v, h => by
  simp only [aT] at h;obtain ⟨s, xs, h1, _, _, _, _, h6, _⟩ := h;obtain ⟨_, _, ad', cap', rfl, _⟩ := h6.shape;exact ⟨_, _, _, _, _, _, h1⟩
theorem ownsRow_below {w w' : World} {base B : Nat} {e : TypeId} {size n : Nat} {v : Value} {xs : List Value} (h : w.ownsRow base e size v n xs) (hb : Below B w w') (hB : w.1.size ≤ B) : w'.ownsRow base e size v n xs := by
 obtain ⟨h1, h2⟩ := h;refine ⟨h1, ?_⟩;rcases h2 with h2 | ⟨g, cap, cur, hv, hg, hh, r⟩
 ·exact Or.inl h2
 ·exact Or.inr ⟨g, cap, cur, hv, hg, by rw [hb.block _ (by have := (ak hh).1; omega)]; exact hh, r⟩
theorem aX.get {w : World} {S : Nat → Prop} {own : Bool} : ∀ {es : List Ex} {xs : List Value}, aX w S own es xs → ∀ i (h : i < es.length),
  ∃ c0 c1 c2 c3, xs[i * 4]? = some c0 ∧ xs[i * 4 + 1]? = some c1 ∧ xs[i * 4 + 2]? = some c2 ∧ xs[i * 4 + 3]? = some c3 ∧ aT w S own es[i] (.agg #[c0, c1, c2, c3])
 | e :: es, xs, h, 0, _ => by
  simp only [aX] at h;obtain ⟨c0, c1, c2, c3, rest, rfl, h2, h3⟩ := h;exact ⟨c0, c1, c2, c3, by simpa using h2⟩
 | e :: es, xs, h, i + 1, hi => by
  simp only [aX] at h;obtain ⟨d0, d1, d2, d3, rest, rfl, h2, h3⟩ := h;obtain ⟨c0, c1, c2, c3, g0, g1, g2, g3, g⟩ := h3.get i (by simpa using hi);refine ⟨c0, c1, c2, c3, ?_, ?_, ?_, ?_, by simpa using g⟩
  ·rw [show (i + 1) * 4 = i * 4 + 1 + 1 + 1 + 1 from by omega]; simpa using g0
  ·rw [show (i + 1) * 4 + 1 = i * 4 + 1 + 1 + 1 + 1 + 1 from by omega]; simpa using g1
  ·rw [show (i + 1) * 4 + 2 = i * 4 + 2 + 1 + 1 + 1 + 1 from by omega]; simpa using g2
  ·rw [show (i + 1) * 4 + 3 = i * 4 + 3 + 1 + 1 + 1 + 1 from by omega]; simpa using g3
theorem aX.part {w : World} {S : Nat → Prop} {own : Bool} {es : List Ex} {xs : List Value} {ad : Option Addr} {cap : Nat} (hs : Sl w S own 4 es.length xs (.slice ad es.length cap)) (h : aX w S own es xs)
  (i : Nat) (hi : i < es.length) : ∃ bl off k' a' b' ad' n' cap', ad = some ⟨bl, off, none⟩ ∧ S bl ∧ w.cell? ⟨bl, off + i * 4, none⟩ = some (.int .i64 k') ∧ w.cell? ⟨bl, off + i * 4 + 1, none⟩ = some (.int .u64 (a' : Nat)) ∧
   w.cell? ⟨bl, off + i * 4 + 2, none⟩ = some (.int .u64 (b' : Nat)) ∧ w.cell? ⟨bl, off + i * 4 + 3, none⟩ = some (.slice ad' n' cap') ∧
   (own = true → w.frozen? ⟨bl, off + i * 4, none⟩ = false ∧ w.frozen? ⟨bl, off + i * 4 + 1, none⟩ = false) ∧ aT w S own es[i] (.agg #[.int .i64 k', .int .u64 (a' : Nat), .int .u64 (b' : Nat), .slice ad' n' cap']) := by
 obtain ⟨bl, off, ha, hS, hc⟩ := hs.cells (by omega);obtain ⟨c0, c1, c2, c3, g0, g1, g2, g3, g⟩ := h.get i hi;have hx := h.length;have q0 := hc (i * 4) (by omega);have q1 := hc (i * 4 + 1) (by omega);have q2 := hc (i * 4 + 2) (by omega);have q3 := hc (i * 4 + 3) (by omega);rw [af (by omega)] at g0 g1 g2 g3;generalize es[i] = e at g ⊢;obtain ⟨k, a, b, ps⟩ := e;have g' := g;simp only [aT] at g';obtain ⟨s, ys, hv, _, _, _, _, h6, _⟩ := g';obtain ⟨_, _, ad', cap', rfl, _⟩ := h6.shape;simp only [Value.agg.injEq, Array.mk.injEq, List.cons.injEq, and_true] at hv;obtain ⟨rfl, rfl, rfl, rfl⟩ := hv;refine ⟨bl, off, k, a, b, ad', ps.length, cap', ha, hS, ?_, ?_, ?_, ?_, fun ho => ⟨q0.2 ho, by simpa [Nat.add_assoc] using q1.2 ho⟩, g⟩
 ·rw [q0.1]; exact g0
 ·rw [Nat.add_assoc, q1.1]; exact g1
 ·rw [Nat.add_assoc, q2.1]; exact g2
 ·rw [Nat.add_assoc, q3.1]; exact g3
def bytes (l : List UInt8) : List Value := l.map fun b => .int .u8 b.toNat
@[simp] theorem bytes_length (l : List UInt8) : (bytes l).length = l.length := by simp [bytes]
@[simp] theorem bytes_append (a b : List UInt8) : bytes (a ++ b) = bytes a ++ bytes b := by simp [bytes]
@[simp] theorem bytes_nil : bytes [] = [] := rfl
@[simp] theorem bytes_cons (a : UInt8) (b : List UInt8) : bytes (a :: b) = .int .u8 a.toNat :: bytes b := rfl
def aO (w : World) (S : Nat → Prop) (own : Bool) (l : List UInt8) (v : Value) : Prop := Sl w S own 1 l.length (bytes l) v
theorem aO.below {B : Nat} {w w' : World} {S : Nat → Prop} {own : Bool} {l : List UInt8} {v : Value} (h : aO w S own l v) (hb : Below B w w') (hB : w.1.size ≤ B) : aO w' S own l v := Sl.below h (by omega) hb hB
theorem aO.shape {w : World} {S : Nat → Prop} {own : Bool} {l : List UInt8} {v : Value} (h : aO w S own l v) : l.length ≤ 9223372036854775807 ∧ ∃ ad cap, v = .slice ad l.length cap ∧ l.length ≤ cap := ⟨h.2.1, (Sl.shape h).2.2⟩
theorem aO.cell {w : World} {S : Nat → Prop} {own : Bool} {l : List UInt8} {ad : Option Addr} {cap : Nat} (h : aO w S own l (.slice ad l.length cap)) (hn : 0 < l.length) :
  ∃ bl off, ad = some ⟨bl, off, none⟩ ∧ S bl ∧ ∀ j (h : j < l.length), w.cell? ⟨bl, off + j, none⟩ = some (.int .u8 l[j].toNat) ∧ (own = true → w.frozen? ⟨bl, off + j, none⟩ = false) := by
 obtain ⟨bl, off, ha, hS, hc⟩ := Sl.cells h hn;refine ⟨bl, off, ha, hS, fun j hj => ?_⟩;have := hc j (by simpa using hj);simpa [bytes] using this
theorem xE {W w1 : World} (hb : Below W.1.size W w1) : (∀ b o, b < W.1.size → w1.cell? ⟨b, o, none⟩ = W.cell? ⟨b, o, none⟩) ∧ (∀ b o, b < W.1.size → w1.frozen? ⟨b, o, none⟩ = W.frozen? ⟨b, o, none⟩) :=
 ⟨fun b o h => hb.cell (p := ⟨b, o, none⟩) h, fun b o h => hb.frozen (p := ⟨b, o, none⟩) h⟩
theorem aK (w : World) (o : Obj) (n : Nat) (h : n = w.1.size) : (w.alloc o).1[n]? = some o := by subst h; exact heap_alloc_new w o
theorem Dq (n : Nat) : ((n : Int) == 0) = (n == 0) := by rw [Bool.eq_iff_iff]; simp
theorem Dr (n : Nat) : ((n : Int) == 1) = (n == 1) := by rw [Bool.eq_iff_iff]; simp; omega
theorem vX {k : IntKind} {a b : Int} (h : a = b) : Ending.returned (.int k a) = .returned (.int k b) := by rw [h]
theorem aR {a b : Bool} (h : a = b) : Ending.returned (.bool a) = .returned (.bool b) := by rw [h]
end Go.Proofs.YtlpgokcapdjgjaaGreatDoor
