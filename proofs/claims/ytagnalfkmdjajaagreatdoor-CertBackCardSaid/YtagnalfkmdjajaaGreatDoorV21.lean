/- A certificate under way in memory: its box, its row. Ahead of it: append(s, make([]T, m)...): as many zeros behind. Plain lemmas. Certificates in memory. Plain lemmas. append(nil, make([]T, m)...): a new row of noughts; rows written at a place; what stays while some blocks are written. Plain lemmas. -/
import Derived.Test.YtagnalfkmdjajaaGreatDoorV1
import Derived.Test.YtagnalfkmdjajaaGreatDoorV18
import Derived.Test.YtagnalfkmdjajaaGreatDoorV3
namespace Go.Proofs.YtagnalfkmdjajaaGreatDoor
open Go.RowKit Go
set_option linter.unusedVariables false
set_option linter.unusedSimpArgs false
section
variable {P : Program} (w : World)
end
/-- A row by what stands at each place. -/
def rowL {α : Type} (M : Nat) (f : Nat → α) : List α := (List.range M).map f
theorem rowL_len {α : Type} (M : Nat) (f : Nat → α) : (rowL M f).length = M := by simp [rowL]
theorem rowL_at {α : Type} (M : Nat) (f : Nat → α) (i : Nat) (h : i < M) : (rowL M f)[i]? = some (f i) := by simp [rowL, h]
theorem rowL_set {α : Type} (M : Nat) (f : Nat → α) (i : Nat) (b : α) : (rowL M f).set i b = rowL M (fun p => if p = i then b else f p) := by
  apply List.ext_getElem?
  intro p
  rw [List.getElem?_set]
  unfold rowL
  by_cases h : i = p
  · subst h
    by_cases hp : i < M <;> simp [hp]
  · rw [if_neg h]
    by_cases hp : p < M
    · simp [hp]
      intro e
      exact absurd e.symm h
    · simp [hp]
theorem rowL_congr {α : Type} (M : Nat) (f g : Nat → α) (h : ∀ p, p < M → f p = g p) : rowL M f = rowL M g := by
  unfold rowL
  exact List.map_congr_left fun p hp => h p (List.mem_range.1 hp)
end Go.Proofs.YtagnalfkmdjajaaGreatDoor
namespace Go.Proofs.YtagnalfkmdjajaaGreatDoor
open Go.RowKit Go
set_option linter.unusedVariables false
set_option linter.unusedSimpArgs false
def RepI (w : World) (S : Nat → Prop) (own : Bool) (l : List Int) (v : Value) : Prop := Sl w S own 1 l.length (ints l) v
def RepW (w : World) (S : Nat → Prop) (own : Bool) (l : List Ed) (v : Value) : Prop := Sl w S own 9 l.length (edVs l) v
/-- A certificate's value: its two rows in blocks that meet S. -/
def RepC (w : World) (S : Nat → Prop) (own : Bool) (c : Crt) (v : Value) : Prop := ∃ ov wv, v = .agg #[.int .i64 c.k, ov, .int .i64 c.p, .int .i64 c.q, wv] ∧ RepI w S own c.o ov ∧ RepW w S own c.w wv
theorem RepI.keep {w w' : World} {S S' : Nat → Prop} {own : Bool} {l : List Int} {v : Value} (h : RepI w S own l v) (hk : Keeps S w w') (hS : ∀ b, b < w.heap.size → S b → S' b) : RepI w' S' own l v := Sl.keep h (by omega) hk hS
theorem RepW.keep {w w' : World} {S S' : Nat → Prop} {own : Bool} {l : List Ed} {v : Value} (h : RepW w S own l v) (hk : Keeps S w w') (hS : ∀ b, b < w.heap.size → S b → S' b) : RepW w' S' own l v := Sl.keep h (by omega) hk hS
theorem RepI.below {B : Nat} {w w' : World} {S : Nat → Prop} {own : Bool} {l : List Int} {v : Value} (h : RepI w S own l v) (hb : Below B w w') (hB : w.heap.size ≤ B) : RepI w' S own l v := Sl.below h (by omega) hb hB
theorem RepW.below {B : Nat} {w w' : World} {S : Nat → Prop} {own : Bool} {l : List Ed} {v : Value} (h : RepW w S own l v) (hb : Below B w w') (hB : w.heap.size ≤ B) : RepW w' S own l v := Sl.below h (by omega) hb hB
theorem RepC.keep {w w' : World} {S S' : Nat → Prop} {own : Bool} {c : Crt} {v : Value} (h : RepC w S own c v) (hk : Keeps S w w') (hS : ∀ b, b < w.heap.size → S b → S' b) : RepC w' S' own c v := by
  obtain ⟨ov, wv, h1, h2, h3⟩ := h
  exact ⟨ov, wv, h1, h2.keep hk hS, h3.keep hk hS⟩
theorem RepC.below {B : Nat} {w w' : World} {S : Nat → Prop} {own : Bool} {c : Crt} {v : Value} (h : RepC w S own c v) (hb : Below B w w') (hB : w.heap.size ≤ B) : RepC w' S own c v := h.keep (Below.keeps hb hB S) fun _ _ h => h
theorem RepC.unown {w : World} {S : Nat → Prop} {own : Bool} {c : Crt} {v : Value} (h : RepC w S own c v) : RepC w S false c v := by
  obtain ⟨ov, wv, h1, h2, h3⟩ := h
  exact ⟨ov, wv, h1, Sl.unown h2, Sl.unown h3⟩
/-- What a certificate's value looks like. -/
theorem RepC.shape {w : World} {S : Nat → Prop} {own : Bool} {c : Crt} {v : Value} (h : RepC w S own c v) : ∃ ad cp ad' cp', v = .agg #[.int .i64 c.k, .slice ad c.o.length cp, .int .i64 c.p, .int .i64 c.q, .slice ad' c.w.length cp'] ∧ RepI w S own c.o (.slice ad c.o.length cp) ∧ RepW w S own c.w (.slice ad' c.w.length cp') ∧
    c.o.length ≤ 9223372036854775807 ∧ c.w.length ≤ 9223372036854775807 ∧ c.o.length ≤ cp ∧ c.w.length ≤ cp' := by
  obtain ⟨ov, wv, rfl, h2, h3⟩ := h
  obtain ⟨_, l1, ad, cp, rfl, k1⟩ := Sl.shape h2
  obtain ⟨_, l2, ad', cp', rfl, k2⟩ := Sl.shape h3
  exact ⟨ad, cp, ad', cp', rfl, h2, h3, l1, l2, k1, k2⟩
theorem ints_one (l : List Int) : ∀ u ∈ ints l, u.oneCell' = true := by
  intro u hu
  obtain ⟨n, _, rfl⟩ := List.mem_map.1 hu
  rfl
theorem edVs_one (l : List Ed) : ∀ u ∈ edVs l, u.oneCell' = true := by
  intro u hu
  obtain ⟨e, _, hu⟩ := List.mem_flatMap.1 hu
  simp only [Ed.vals, List.mem_cons, List.not_mem_nil, or_false] at hu
  rcases hu with rfl | rfl | rfl | rfl | rfl | rfl | rfl | rfl | rfl <;> rfl
theorem edVs_append (a b : List Ed) : edVs (a ++ b) = edVs a ++ edVs b := by simp [edVs]
theorem ints_append (a b : List Int) : ints (a ++ b) = ints a ++ ints b := by simp [ints]
theorem edVs_at : ∀ (l : List Ed) (j f : Nat) (h : j < l.length), f < 9 → (edVs l)[j * 9 + f]? = l[j].vals[f]?
  | e :: l, 0, f, h, hf => by
    have : (e.vals).length = 9 := rfl
    unfold edVs
    rw [List.flatMap_cons, List.getElem?_append_left (by omega)]; simp
  | e :: l, j + 1, f, h, hf => by
    have h9 : (e.vals).length = 9 := rfl
    unfold edVs
    rw [List.flatMap_cons, List.getElem?_append_right (by omega)]
    have := edVs_at l j f (by simpa using h) hf
    unfold edVs at this
    rw [show (j + 1) * 9 + f - e.vals.length = j * 9 + f from by omega, this]; simp
/-- A number of a row: where it lies. -/
theorem RepI.cell {w : World} {S : Nat → Prop} {own : Bool} {l : List Int} {ad : Option Addr} {cap : Nat} (h : RepI w S own l (.slice ad l.length cap)) (hn : 0 < l.length) :
    ∃ bl off, ad = some ⟨bl, off, none⟩ ∧ S bl ∧ bl < w.heap.size ∧ ∀ j (h : j < l.length), w.cell? ⟨bl, off + j, none⟩ = some (.int .i64 l[j]) ∧ (own = true → w.frozen? ⟨bl, off + j, none⟩ = false) := by
  obtain ⟨bl, off, ha, hS, hc⟩ := Sl.cells h hn
  have hc0 := hc 0 (by rw [ints_length]; exact hn)
  refine ⟨bl, off, ha, hS, World.block_lt_of_cell? w _ hc0.1, fun j hj => ?_⟩
  have := hc j (by rw [ints_length]; exact hj)
  simpa [ints] using this
/-- An edge of a row: where its cells lie. -/
theorem RepW.cell {w : World} {S : Nat → Prop} {own : Bool} {l : List Ed} {ad : Option Addr} {cap : Nat} (h : RepW w S own l (.slice ad l.length cap)) (hn : 0 < l.length) :
    ∃ bl off, ad = some ⟨bl, off, none⟩ ∧ S bl ∧ bl < w.heap.size ∧ ∀ j (h : j < l.length), (w.cell? ⟨bl, off + j * 9, none⟩ = some (.int .i64 l[j].a) ∧ w.cell? ⟨bl, off + j * 9 + 1, none⟩ = some (.int .i64 l[j].b) ∧ w.cell? ⟨bl, off + j * 9 + 2, none⟩ = some (.int .i64 l[j].k) ∧
      w.cell? ⟨bl, off + j * 9 + 3, none⟩ = some (.int .u64 (l[j].x : Nat)) ∧ w.cell? ⟨bl, off + j * 9 + 4, none⟩ = some (.int .u64 (l[j].sw : Nat)) ∧ w.cell? ⟨bl, off + j * 9 + 5, none⟩ = some (.int .u64 (l[j].sn : Nat)) ∧
      w.cell? ⟨bl, off + j * 9 + 6, none⟩ = some (.int .u64 (l[j].mw : Nat)) ∧ w.cell? ⟨bl, off + j * 9 + 7, none⟩ = some (.int .u64 (l[j].mn : Nat)) ∧ w.cell? ⟨bl, off + j * 9 + 8, none⟩ = some (.int .i64 l[j].p)) ∧ (own = true → ∀ f, f < 9 → w.frozen? ⟨bl, off + j * 9 + f, none⟩ = false) := by
  obtain ⟨bl, off, ha, hS, hc⟩ := Sl.cells h hn
  have hlen := edVs_length l
  have key : ∀ j (hj : j < l.length) f, f < 9 → w.cell? ⟨bl, off + j * 9 + f, none⟩ = l[j].vals[f]? := fun j hj f hf => by
    have hjl : j * 9 + f < (edVs l).length := by omega
    have := (hc (j * 9 + f) hjl).1
    rw [← List.getElem?_eq_getElem hjl, edVs_at l j f hj hf] at this
    rw [Nat.add_assoc]; exact this
  refine ⟨bl, off, ha, hS, ?_, fun j hj => ⟨⟨key j hj 0 (by omega), key j hj 1 (by omega), key j hj 2 (by omega), key j hj 3 (by omega), key j hj 4 (by omega), key j hj 5 (by omega), key j hj 6 (by omega), key j hj 7 (by omega), key j hj 8 (by omega)⟩, fun ho f hf => ?_⟩⟩
  · exact World.block_lt_of_cell? w ⟨bl, off + 0 * 9 + 0, none⟩ (key 0 hn 0 (by omega))
  · have := (hc (j * 9 + f) (by omega)).2 ho
    rw [Nat.add_assoc]; exact this
/-- Rows of a call's own. -/
theorem RepI.of_owns {w : World} {base : Nat} {T : TypeId} {v : Value} {l : List Int} (h : w.ownsRow base T 1 v l.length (ints l)) : RepI w (fun b => base ≤ b) true l v := (Sl.of_owns h (by omega)).keep (by omega) (fun _ _ _ => rfl) fun _ _ h => h.2
theorem RepW.of_owns {w : World} {base : Nat} {T : TypeId} {v : Value} {l : List Ed} (h : w.ownsRow base T 9 v l.length (edVs l)) : RepW w (fun b => base ≤ b) true l v := (Sl.of_owns h (by omega)).keep (by omega) (fun _ _ _ => rfl) fun _ _ h => h.2
theorem RepI.nil (w : World) (S : Nat → Prop) (own : Bool) : RepI w S own [] (.slice none 0 0) := Sl.nil _ _ _ _
theorem RepW.nil (w : World) (S : Nat → Prop) (own : Bool) : RepW w S own [] (.slice none 0 0) := Sl.nil _ _ _ _
/-- A contract that hands back a certificate in new memory. -/
def GivesC (w : World) (c : Crt) (r : Ending) (w' : World) : Prop := ∃ v, r = .returned v ∧ RepC w' (fun b => w.heap.size ≤ b) true c v ∧ Below w.heap.size w w'
end Go.Proofs.YtagnalfkmdjajaaGreatDoor
namespace Go.Proofs.YtagnalfkmdjajaaGreatDoor
open Go.RowKit Go
set_option linter.unusedVariables false
set_option linter.unusedSimpArgs false
section
variable {P : Program} (w : World)
theorem run_append_make (t tx ty e : TypeId) (i : TypeInfo) (z : Value) (size bytes : Nat) (k : IntKind) (ht : P.underlying t = some (.slice e)) (htx : P.underlying tx = some (.int k)) (hi : P.info? e = some i) (hz : i.zero = some z)
    (hsize : i.size = size) (hby : i.bytes = bytes) (hzs : z.cells.size = size) (h0 : 0 < size) (m : Nat) (h63 : m ≤ maxLen) (hbytes : m * bytes ≤ 140737488355328) (hm : 0 < m) :
    ∃ cap cur w', (Builtin.append_ #[t, tx] ty #[.slice none 0 0, .int .i64 (m : Int)]).run P w = .ok (.slice (some ⟨w.heap.size, 0, none⟩) m cap) w' ∧ w' = w.drew.alloc (.cells cur e) ∧ m ≤ cap ∧ cap ≤ maxLen ∧ cur.size = cap * size ∧ cur.toList.take (m * size) = (Builtin.zeroCells z.cells m).toList := by
  subst hby
  have hsmall : m ≤ 9223372036854775807 := by simp only [maxLen] at h63; omega
  have hwr : IntKind.i64.wrap (m : Int) = (m : Int) := by simp only [IntKind.wrap, IntKind.signed, IntKind.bits]; simp; omega
  have hneg : ¬ ((m : Int) < 0) := by omega
  have hbig : ¬ (281474976710656 < (m : Int) * (i.bytes : Int)) := by
    have : ((m * i.bytes : Nat) : Int) = (m : Int) * (i.bytes : Int) := by simp
    omega
  have hge := grownCap_ge w m 0 e
  have hcm : grownCap w m 0 e ≤ maxLen := grownCap_le_maxLen w m 0 e h63
  have hz0 : ¬ (m = 0) := by omega
  have hs0 : ¬ (size = 0) := by omega
  have hfit := growslice_fits (old := 0) (need := m) (by omega) hbytes
  have h63' : ¬ (9223372036854775807 < (m : Int)) := by omega
  have h48' : ¬ (281474976710656 < Builtin.nextslicecap m 0 * i.bytes) := by omega
  refine ⟨grownCap w m 0 e, Builtin.zeroCells z.cells m ++ Builtin.zeroCells z.cells (grownCap w m 0 e - m), _, ?_, rfl, hge, hcm, ?_, ?_⟩
  · simp [Builtin.append_, run_underlying ht, run_underlying htx, sizeOf, typeInfo, zeroValue, hi, hz, hsize, asInt, asIntOf, hwr, hneg, hbig, hz0, hs0, h63', h48', Question.forced, newRow, grownCap, Builtin.firstCells]
    exact fun h => absurd h (Nat.ne_of_gt (Nat.mul_pos hm h0))
  · rw [Array.size_append, size_zeroCells, size_zeroCells, hzs, ← Nat.add_mul, Nat.add_sub_cancel' hge]
  · rw [Array.toList_append, List.take_append_of_le_length (by simp [size_zeroCells, hzs]), List.take_of_length_le (by simp [size_zeroCells, hzs])]
theorem wp_append_make {o : Oper} {a : Act} {K : Act → World → Prop} {Q : Exit → Act → World → Prop} (s x : Operand) (t tx : TypeId) (ho : o.op = .call { callee := .builtin .append, args := #[s, x], argTypes := #[t, tx] })
    (e : TypeId) (i : TypeInfo) (z : Value) (size bytes : Nat) (k : IntKind) (ht : P.underlying t = some (.slice e)) (htx : P.underlying tx = some (.int k)) (hi : P.info? e = some i) (hz : i.zero = some z)
    (hsize : i.size = size) (hby : i.bytes = bytes) (hzs : z.cells.size = size) (h0 : 0 < size) (m : Nat) (h63 : m ≤ maxLen) (hbytes : m * bytes ≤ 140737488355328) (hm : 0 < m) (hs : a.eval s = .slice none 0 0) (hx : a.eval x = .int .i64 (m : Int))
    (h : ∀ cap cur, m ≤ cap → cap ≤ maxLen → cur.size = cap * size → cur.toList.take (m * size) = (Builtin.zeroCells z.cells m).toList → K (a.put o.dst (.slice (some ⟨w.heap.size, 0, none⟩) m cap)) (w.drew.alloc (.cells cur e))) : Oper.wp P o a w K Q := by
  obtain ⟨cap, cur, w', hr, rfl, h1, h2, h3, h4⟩ := run_append_make (P := P) w t tx o.type e i z size bytes k ht htx hi hz hsize hby hzs h0 m h63 hbytes hm
  unfold Oper.wp execOp
  simp only [ho, resolve, invoke, builtin, Sem.run_bind, Sem.run_pure, Result.andThen_ok, List.map_toArray, List.map_cons, List.map_nil, hs, hx, hr]
  exact h cap cur h1 h2 h3 h4
end
theorem zeroCells_row (cs : Array Value) (m : Nat) : (Builtin.zeroCells cs m).toList = rowL (m * cs.size) (fun p => cs[p % cs.size]!) := by
  unfold Builtin.zeroCells rowL
  simp
/-- A new row of so many elements. -/
def pMade (T : TypeId) (sz n : Nat) (xs : List Value) (S : Nat → Prop) (v : Value) (w : World) : Prop := ∃ g cap cur, v = .slice (some ⟨g, 0, none⟩) n cap ∧ S g ∧ w.heap[g]? = some (.cells cur T (0, 0)) ∧ n ≤ cap ∧ cap ≤ maxLen ∧ cur.size = cap * sz ∧ cur.toList.take (n * sz) = xs ∧ xs.length = n * sz
theorem steadyMade (T : TypeId) (sz n : Nat) (xs : List Value) : Steady (pMade T sz n xs) := by
  rintro S S' v w w' hk hs hS ⟨g, cap, cur, h1, h2, h3, h4⟩
  have hlt := (Array.getElem?_eq_some_iff.1 h3).1
  exact ⟨g, cap, cur, h1, hS g hlt h2, (hk g h2 hlt).trans h3, h4⟩
theorem pMade.owns {T : TypeId} {sz n : Nat} {xs : List Value} {S : Nat → Prop} {v : Value} {w : World} {base : Nat} (h : pMade T sz n xs S v w) (hS : ∀ b, S b → base ≤ b) : ∃ g cap, v = .slice (some ⟨g, 0, none⟩) n cap ∧ S g ∧ w.ownsRow base T sz v n xs := by
  obtain ⟨g, cap, cur, h1, h2, h3, h4, h5, h6, h7, h8⟩ := h
  exact ⟨g, cap, h1, h2, h8, .inr ⟨g, cap, cur, h1, hS g h2, h3, h4, h5, h6, h7⟩⟩
theorem heap_setCell_congr {w w' : World} {b o : Nat} (v : Value) (h : w'.heap[b]? = w.heap[b]?) : (w'.setCell ⟨b, o, none⟩ v).heap[b]? = (w.setCell ⟨b, o, none⟩ v).heap[b]? := by
  simp only [World.setCell, Array.getElem?_modify, if_true, h]
/-- A cell of an own row is written, told by its block. -/
theorem owns_put {w w' : World} {base : Nat} {e : TypeId} {g n cap sz : Nat} {xs : List Value} (i : Nat) (v : Value) (h : w.ownsRow base e sz (.slice (some ⟨g, 0, none⟩) n cap) n xs) (hk : w'.heap[g]? = (w.setCell ⟨g, i, none⟩ v).heap[g]?) :
    w'.ownsRow base e sz (.slice (some ⟨g, 0, none⟩) n cap) n (xs.set i v) := by
  obtain ⟨hl, h⟩ := h
  rcases h with ⟨h, _⟩ | ⟨g', cap', cur, hv, hb, hg, hn, hm, hs, ht⟩
  · cases h
  · simp only [Value.slice.injEq, Option.some.injEq, Addr.mk.injEq, and_true, true_and] at hv
    obtain ⟨rfl, rfl⟩ := hv
    refine ⟨by simpa using hl, .inr ⟨g, cap, cur.setIfInBounds i v, rfl, hb, hk.trans (heap_set_at hg rfl), hn, hm, by simpa using hs, ?_⟩⟩
    rw [Array.toList_setIfInBounds, List.take_set, ht]
theorem owns_cell {w : World} {base g n cap sz : Nat} {T : TypeId} {xs : List Value} (h : w.ownsRow base T sz (.slice (some ⟨g, 0, none⟩) n cap) n xs) (i : Nat) (hi : i < n * sz) : w.cell? ⟨g, i, none⟩ = xs[i]? ∧ w.frozen? ⟨g, i, none⟩ = false ∧ g < w.heap.size ∧ base ≤ g := by
  obtain ⟨hl, h⟩ := h
  rcases h with ⟨h, _⟩ | ⟨g', cap', cur, hv, hb, hg, hn, hm, hs, ht⟩
  · cases h
  · simp only [Value.slice.injEq, Option.some.injEq, Addr.mk.injEq, and_true, true_and] at hv
    obtain ⟨rfl, rfl⟩ := hv
    refine ⟨?_, frozen_of_row w g i _ _ hg, (Array.getElem?_eq_some_iff.1 hg).1, hb⟩
    rw [cell_of_row w g i _ _ _ hg, ← Array.getElem?_toList, ← ht, List.getElem?_take, if_pos hi]
theorem owns_block {w w' : World} {base : Nat} {e : TypeId} {sz n : Nat} {v : Value} {xs : List Value} (h : w.ownsRow base e sz v n xs) (hk : ∀ g, v.ownBlock = some g → w'.heap[g]? = w.heap[g]?) : w'.ownsRow base e sz v n xs := by
  obtain ⟨hl, h⟩ := h
  refine ⟨hl, ?_⟩
  rcases h with h | ⟨g, cap, cur, rfl, hb, hg, r⟩
  · exact .inl h
  · exact .inr ⟨g, cap, cur, rfl, hb, (hk g rfl).trans hg, r⟩
/-- All blocks but those of X stay as they were. -/
structure Kx (X : Nat → Prop) (w w' : World) : Prop where
  os : w'.os = w.os
  tape : w'.tape = w.tape
  output : w'.output = w.output
  size : w.heap.size ≤ w'.heap.size
  keep : ∀ b, b < w.heap.size → ¬ X b → w'.heap[b]? = w.heap[b]?
theorem Kx.refl (X : Nat → Prop) (w : World) : Kx X w w := ⟨rfl, rfl, rfl, Nat.le_refl _, fun _ _ _ => rfl⟩
theorem Kx.trans {X : Nat → Prop} {a b c : World} (h : Kx X a b) (k : Kx X b c) : Kx X a c :=
  ⟨k.os.trans h.os, k.tape.trans h.tape, k.output.trans h.output, Nat.le_trans h.size k.size, fun i hi hn => (k.keep i (by have := h.size; omega) hn).trans (h.keep i hi hn)⟩
/-- Behind the beginning, what is new may be written too. -/
theorem Kx.trans' {X Y : Nat → Prop} {a b c : World} (h : Kx X a b) (k : Kx Y b c) (hY : ∀ i, Y i → i < a.heap.size → X i) : Kx X a c :=
  ⟨k.os.trans h.os, k.tape.trans h.tape, k.output.trans h.output, Nat.le_trans h.size k.size, fun i hi hn => (k.keep i (by have := h.size; omega) (fun hy => hn (hY i hy hi))).trans (h.keep i hi hn)⟩
theorem Kx.of_below {X : Nat → Prop} {w w' : World} (h : Below w.heap.size w w') : Kx X w w' := ⟨h.os, h.tape, h.output, h.size, fun b hb _ => h.block b hb⟩
theorem Kx.setCell {X : Nat → Prop} {w w' : World} (h : Kx X w w') {b o : Nat} (hX : X b) (v : Value) : Kx X w (w'.setCell ⟨b, o, none⟩ v) :=
  h.trans ⟨rfl, rfl, rfl, by simp, fun c _ hn => Below.heap_setCell _ _ _ _ (fun e => hn (by rw [e]; exact hX))⟩
theorem Kx.one (w : World) (b o : Nat) (v : Value) : Kx (fun c => c = b) w (w.setCell ⟨b, o, none⟩ v) := Kx.setCell (X := fun c => c = b) (Kx.refl _ _) rfl v
theorem Kx.wider {X Y : Nat → Prop} {w w' : World} (h : Kx X w w') (hY : ∀ b, b < w.heap.size → X b → Y b) : Kx Y w w' := ⟨h.os, h.tape, h.output, h.size, fun b hb hn => h.keep b hb (fun hx => hn (hY b hb hx))⟩
theorem Kx.below {X : Nat → Prop} {w w' : World} {B : Nat} (h : Kx X w w') (hB : B ≤ w.heap.size) (hX : ∀ b, X b → B ≤ b) : Below B w w' := ⟨h.os, h.tape, h.output, h.size, fun b hb => h.keep b (by omega) (fun hx => by have := hX b hx; omega)⟩
theorem Kx.cellOf {X : Nat → Prop} {w w' : World} (h : Kx X w w') {b : Nat} (hb : b < w.heap.size) (hn : ¬ X b) (o : Nat) : w'.cell? ⟨b, o, none⟩ = w.cell? ⟨b, o, none⟩ := World.cell?_of_block (w := w) (a := ⟨b, o, none⟩) (h.keep b hb hn)
theorem Kx.frozenOf {X : Nat → Prop} {w w' : World} (h : Kx X w w') {b : Nat} (hb : b < w.heap.size) (hn : ¬ X b) (o : Nat) : w'.frozen? ⟨b, o, none⟩ = w.frozen? ⟨b, o, none⟩ := World.frozen?_of_block (w := w) (a := ⟨b, o, none⟩) (h.keep b hb hn)
end Go.Proofs.YtagnalfkmdjajaaGreatDoor
namespace Go.Proofs.YtagnalfkmdjajaaGreatDoor
open Go.RowKit Go
set_option linter.unusedVariables false
set_option linter.unusedSimpArgs false
/-- The certificate under way: its box c; a row behind base; what lies below c is as it was in W. -/
structure CB (TX : TypeId) (c base : Nat) (row : Array Value) (T : TypeId) (sz : Nat) (v : Value) (n : Nat) (xs : List Value) (W wr : World) : Prop where
  old : Below c W wr
  cb : c < base
  size : base ≤ wr.heap.size
  row : wr.heap[c]? = some (.cells row TX (0, 0))
  own : wr.ownsRow base T sz v n xs
section
variable {TX : TypeId} {W wr wx w2 : World} {c base : Nat} {row : Array Value} {T : TypeId} {sz n n' : Nat} {v v' : Value} {xs xs' : List Value}
theorem CB.below (h : CB TX c base row T sz v n xs W wr) (hb : Below wr.heap.size wr w2) : CB TX c base row T sz v n xs W w2 := by
  have h2 := h.cb; have h3 := h.size
  exact ⟨h.old.trans (hb.mono (by omega)), h2, by have := hb.size; omega, (hb.block _ (by omega)).trans h.row, ownsRow_below h.own hb (Nat.le_refl _)⟩
theorem CB.append (h : CB TX c base row T sz v n xs W wr) (hb : Below wr.heap.size wr wx) (hg : wx.grownBy w2 v.ownBlock) (ho : w2.ownsRow base T sz v' n' xs') : CB TX c base row T sz v' n' xs' W w2 := by
  have h1 := h.below hb
  have h4 := h.cb
  have h2 := h1.size
  have hlt := h1.own.lt
  have hne : ∀ b, b < base → some b ≠ v.ownBlock := fun b hb e => by have := (hlt b e.symm).1; omega
  exact ⟨h1.old.grown hg (by omega) (fun k hk => by have := (hlt k hk).1; omega), h4, by have := hg.size; omega, (hg.block _ (by omega) (hne _ (by omega))).trans h1.row, ho⟩
theorem CB.store (h : CB TX c base row T sz v n xs W wr) (o : Nat) (u : Value) : CB TX c base (row.setIfInBounds o u) T sz v n xs W (wr.setCell ⟨c, o, none⟩ u) := by
  have h4 := h.cb; have h2 := h.size
  have hlt := h.own.lt
  exact ⟨h.old.setCell (by simp) _, h4, by simpa using h2, heap_set_at h.row rfl, owns_block h.own fun g hg => Below.heap_setCell _ _ _ _ (by have := (hlt g hg).1; simp; omega)⟩
theorem CB.put {g cap : Nat} (h : CB TX c base row T sz (.slice (some ⟨g, 0, none⟩) n cap) n xs W wr) (i : Nat) (u : Value) : CB TX c base row T sz (.slice (some ⟨g, 0, none⟩) n cap) n (xs.set i u) W (wr.setCell ⟨g, i, none⟩ u) := by
  have h4 := h.cb; have h2 := h.size
  have hlt := (h.own.lt g rfl).1
  exact ⟨h.old.setCell (by simp; omega) _, h4, by simpa using h2, (Below.heap_setCell _ _ _ _ (by simp; omega)).trans h.row, owns_put i u h.own rfl⟩
/-- Another row takes its place. -/
theorem CB.row' (h : CB TX c base row T sz v n xs W wr) {T' : TypeId} {sz' : Nat} (ho : wr.ownsRow base T' sz' v' n' xs') : CB TX c base row T' sz' v' n' xs' W wr :=
  ⟨h.old, h.cb, h.size, h.row, ho⟩
theorem CB.cells {a0 a1 a2 a3 a4 : Value} (h : CB TX c base #[a0, a1, a2, a3, a4] T sz v n xs W wr) : wr.cell? ⟨c, 0, none⟩ = some a0 ∧ wr.cell? ⟨c, 1, none⟩ = some a1 ∧ wr.cell? ⟨c, 2, none⟩ = some a2 ∧ wr.cell? ⟨c, 3, none⟩ = some a3 ∧ wr.cell? ⟨c, 4, none⟩ = some a4 ∧ ∀ o, wr.frozen? ⟨c, o, none⟩ = false := by
  refine ⟨?_, ?_, ?_, ?_, ?_, fun o => by rw [frozen_of_row wr _ o _ _ h.row]⟩
  all_goals (rw [cell_of_row wr _ _ _ _ _ h.row]; rfl)
theorem CB.oldCell (h : CB TX c base row T sz v n xs W wr) {b o : Nat} (hb : b < c) : wr.cell? ⟨b, o, none⟩ = W.cell? ⟨b, o, none⟩ := World.cell?_of_block (w := W) (a := ⟨b, o, none⟩) (h.old.block b hb)
theorem CB.lt (h : CB TX c base row T sz v n xs W wr) : c < wr.heap.size := (Array.getElem?_eq_some_iff.1 h.row).1
end
end Go.Proofs.YtagnalfkmdjajaaGreatDoor
