/- A writer: a row of bytes behind a cell, both of the call's own. Plain lemmas. Ahead of it: Rows of trees that a call makes, one tree a round. Plain lemmas, no program. Bytes that a call makes; append of whatever slice onto a row of the call's own. Plain lemmas. Numbers as bytes: plain Lean. -/
import Derived.Test.YtagnalfkmdjajaaGreatDoorVLib
import Derived.Deep.AppendLies
import Derived.OneCell
import Derived.Maps.AppendAt
import Derived.RegionTactic
import Derived.OwnWalk
namespace Go.Proofs.YtagnalfkmdjajaaGreatDoor
open Go.RowKit Go
set_option linter.unusedVariables false
set_option linter.unusedSimpArgs false
/-- What a slice value looks like. -/
theorem owns_slice {w : World} {base : Nat} {e : TypeId} {size n : Nat} {v : Value} {xs : List Value} (h : w.ownsRow base e size v n xs) : ∃ ad cap, v = .slice ad n cap := by
  rcases h.2 with ⟨rfl, rfl⟩ | ⟨g, cap, cur, rfl, _⟩
  · exact ⟨_, _, rfl⟩
  · exact ⟨_, _, rfl⟩
/-- The row that is being made: some trees so far, in blocks from base on, none in the row itself. -/
def Making (w : World) (base : Nat) (T : TypeId) (sv : Value) (es : List Ex) : Prop :=
  ∃ ys, w.ownsRow base T 4 sv es.length ys ∧ RepEs w (fun b => base ≤ b ∧ sv.ownBlock ≠ some b) true es ys
theorem Making.nil (w : World) (base : Nat) (T : TypeId) : Making w base T (.slice none 0 0) [] := ⟨[], World.ownsRow_nil _ _ _ _, by simp [RepEs]⟩
theorem Making.push {wr w1 w2 : World} {base B : Nat} {T : TypeId} {sv : Value} {es : List Ex} {ys : List Value} {e : Ex} {c0 c1 c2 c3 : Value} {gg gcap : Nat} {o : Obj}
    (hown : wr.ownsRow base T 4 sv es.length ys) (hey : RepEs wr (fun b => base ≤ b ∧ sv.ownBlock ≠ some b) true es ys) (hbase : base ≤ wr.heap.size)
    (hb1 : Below B wr w1) (hB : wr.heap.size ≤ B) (hv : RepE w1 (fun b => wr.heap.size ≤ b) true e (.agg #[c0, c1, c2, c3])) (hgrow : (w1.alloc o).grownBy w2 sv.ownBlock)
    (hown2 : w2.ownsRow base T 4 (.slice (some ⟨gg, 0, none⟩) (es.length + 1) gcap) (es.length + 1) (ys ++ [c0, c1, c2, c3])) (hat : sv.ownBlock = some gg ∨ gg = w1.heap.size + 1) :
    Making w2 base T (.slice (some ⟨gg, 0, none⟩) (es.length + 1) gcap) (es ++ [e]) := by
  have hlt := hown.lt
  have hs := hb1.size
  refine ⟨ys ++ [c0, c1, c2, c3], by simpa using hown2, RepEs.append ?_ (RepEs.one ?_)⟩
  · refine RepEs.keep (w := wr) ?_ ?_ hey
    · rintro b ⟨hb, hne⟩ hbl
      rw [hgrow.block b (by simp; omega) (fun h => hne h.symm), Below.heap_alloc _ _ _ (by omega), hb1.block b (by omega)]
    · rintro b hbl ⟨hb, hne⟩
      refine ⟨hb, ?_⟩
      simp only [Value.ownBlock, ne_eq, Option.some.injEq]
      intro h
      subst h
      rcases hat with h | h
      · exact hne h
      · omega
  · refine RepE.keep (w := w1) ?_ ?_ hv
    · rintro b hb hbl
      rw [hgrow.block b (by simp; omega) (fun h => by have := hlt b h.symm; omega), Below.heap_alloc _ _ _ (by omega)]
    · rintro b hbl hb
      refine ⟨by omega, ?_⟩
      simp only [Value.ownBlock, ne_eq, Option.some.injEq]
      intro h
      subst h
      rcases hat with h | h
      · have := hlt _ h; omega
      · omega
theorem Making.setCell {w : World} {base : Nat} {T : TypeId} {sv : Value} {es : List Ex} (h : Making w base T sv es) (a : Addr) (ha : a.block < base) (v : Value) : Making (w.setCell a v) base T sv es := by
  obtain ⟨ys, h1, h2⟩ := h
  refine ⟨ys, ownsRow_setCell_below h1 ha v, RepEs.keep (w := w) ?_ (fun _ _ h => h) h2⟩
  rintro b ⟨hb, _⟩ _
  exact Below.heap_setCell _ _ _ _ (by omega)
theorem Making.below {w w' : World} {base B : Nat} {T : TypeId} {sv : Value} {es : List Ex} (h : Making w base T sv es) (hb : Below B w w') (hB : w.heap.size ≤ B) : Making w' base T sv es := by
  obtain ⟨ys, h1, h2⟩ := h
  exact ⟨ys, ownsRow_below h1 hb hB, h2.below hb hB⟩
/-- The row, as a slice of trees. -/
theorem Making.sl {w : World} {base : Nat} {T : TypeId} {sv : Value} {es : List Ex} (h : Making w base T sv es) : ∃ ys, Sl w (fun b => base ≤ b) true 4 es.length ys sv ∧ RepEs w (fun b => base ≤ b) true es ys := by
  obtain ⟨ys, h1, h2⟩ := h
  exact ⟨ys, (Sl.of_owns h1 (by omega)).keep (by omega) (fun _ _ _ => rfl) (fun _ _ h => h.2), h2.wider fun _ _ h => h.1⟩
theorem heap_set_at {w : World} {b o : Nat} {cs cs' : Array Value} {t : TypeId} {v : Value} (h : w.heap[b]? = some (.cells cs t (0, 0))) (hcs : cs' = cs.setIfInBounds o v) : (w.setCell ⟨b, o, none⟩ v).heap[b]? = some (.cells cs' t (0, 0)) := by
  rw [hcs]; exact heap_setCell_same w b o cs t v h
end Go.Proofs.YtagnalfkmdjajaaGreatDoor
namespace Go.Proofs.YtagnalfkmdjajaaGreatDoor
open Go.RowKit Go
set_option linter.unusedVariables false
set_option linter.unusedSimpArgs false
section
variable {P : Program} (w : World)
theorem run_append_empty (base : Nat) (t ty e : TypeId) (i : TypeInfo) (size : Nat) (ht : P.underlying t = some (.slice e)) (hi : P.info? e = some i)
    (v : Value) (n : Nat) (xs : List Value) (hown : w.ownsRow base e size v n xs) (c : Nat) : (Builtin.append_ #[t, t] ty #[v, .slice none 0 c]).run P w = .ok v w := by
  rcases hown.2 with ⟨rfl, rfl⟩ | ⟨g, cap, cur, rfl, _, _, hnc, _⟩
  · simp [Builtin.append_, run_underlying ht, sizeOf, typeInfo, hi, Builtin.lenOf, Builtin.firstCells]
  · simp [Builtin.append_, run_underlying ht, sizeOf, typeInfo, hi, Builtin.lenOf, Builtin.firstCells, hnc, storeCells]
/-- Append of m elements, wherever they lie, onto a row of the call's own. -/
theorem run_append_sl (base : Nat) (t ty e : TypeId) (i : TypeInfo) (z : Value) (size bytes : Nat) (ht : P.underlying t = some (.slice e)) (hi : P.info? e = some i) (hz : i.zero = some z)
    (hsize : i.size = size) (hby : i.bytes = bytes) (hzs : z.cells.size = size) (hsz : 0 < size)
    (v : Value) (n : Nat) (xs : List Value) (hown : w.ownsRow base e size v n xs)
    (S : Nat → Prop) (own : Bool) (m : Nat) (news : List Value) (v2 : Value) (hr : Sl w S own size m news v2) (h1 : ∀ u ∈ news, u.oneCell' = true)
    (h63 : n + m ≤ maxLen) (hbytes : (n + m) * bytes ≤ 140737488355328) (hbase : base ≤ w.heap.size) :
    ∃ v' w', (Builtin.append_ #[t, t] ty #[v, v2]).run P w = .ok v' w' ∧ w'.ownsRow base e size v' (n + m) (xs ++ news) ∧ w.grownBy w' v.ownBlock ∧
      (v'.ownBlock = v.ownBlock ∨ v'.ownBlock = some w.heap.size) := by
  obtain ⟨hl, _, ad, cap, rfl, _, hc⟩ := hr
  rcases ad with _ | ad
  · have hm : m = 0 := by
      rcases Nat.eq_zero_or_pos m with h0 | h0
      · exact h0
      · obtain ⟨bl, off, h, _⟩ := hc h0
        cases h
    subst hm
    have hn : news = [] := List.eq_nil_of_length_eq_zero (by simpa using hl)
    subst hn
    exact ⟨v, w, run_append_empty w base t ty e i size ht hi v n xs hown cap, by simpa using hown, World.grownBy.refl w _, .inl rfl⟩
  · have hcells : ∀ j u, news[j]? = some u → w.cell? (ad.add j) = some u := by
      intro j u hu
      have hj : j < news.length := (List.getElem?_eq_some_iff.1 hu).1
      have hp : 0 < m := by
        rcases Nat.eq_zero_or_pos m with h0 | h0
        · subst h0; omega
        · exact h0
      obtain ⟨bl, off, h, _, hcc⟩ := hc hp
      injection h with h
      subst h
      rw [List.getElem?_eq_getElem hj] at hu
      have hadd : (⟨bl, off, none⟩ : Addr).add j = ⟨bl, off + j, none⟩ := by unfold Addr.add; split <;> simp_all
      rw [hadd, (hcc j hj).1]; exact hu
    obtain ⟨v', w', hrun, h2, h3, _, h5⟩ := run_append_own_at (P := P) w base t ty e i z size bytes ht hi hz hsize hby hzs hsz v n xs hown ad m cap news hl hcells h1 h63 hbytes hbase
    exact ⟨v', w', hrun, h2, h3, h5⟩
theorem wp_append_sl {o : Oper} {a : Act} {K : Act → World → Prop} {Q : Exit → Act → World → Prop} (s x : Operand) (t : TypeId)
    (ho : o.op = .call { callee := .builtin .append, args := #[s, x], argTypes := #[t, t] })
    (base : Nat) (e : TypeId) (i : TypeInfo) (z : Value) (size bytes : Nat) (ht : P.underlying t = some (.slice e)) (hi : P.info? e = some i) (hz : i.zero = some z)
    (hsize : i.size = size) (hby : i.bytes = bytes) (hzs : z.cells.size = size) (hsz : 0 < size)
    (v : Value) (n : Nat) (xs : List Value) (hs : a.eval s = v) (hown : w.ownsRow base e size v n xs)
    (S : Nat → Prop) (own : Bool) (m : Nat) (news : List Value) (v2 : Value) (hx : a.eval x = v2) (hr : Sl w S own size m news v2) (h1 : ∀ u ∈ news, u.oneCell' = true)
    (h63 : n + m ≤ maxLen) (hbytes : (n + m) * bytes ≤ 140737488355328) (hbase : base ≤ w.heap.size)
    (h : ∀ v' w', w'.ownsRow base e size v' (n + m) (xs ++ news) → w.grownBy w' v.ownBlock → (v'.ownBlock = v.ownBlock ∨ v'.ownBlock = some w.heap.size) → K (a.put o.dst v') w') : o.wp P a w K Q := by
  obtain ⟨v', w', hrun, h2, h3, h4⟩ := run_append_sl (P := P) w base t o.type e i z size bytes ht hi hz hsize hby hzs hsz v n xs hown S own m news v2 hr h1 h63 hbytes hbase
  unfold Oper.wp execOp
  simp only [ho, resolve, invoke, builtin, Sem.run_bind, Sem.run_pure, Result.andThen_ok, List.map_toArray, List.map_cons, List.map_nil, hs, hx, hrun]
  exact h v' w' h2 h3 h4
theorem wpList_append_sl {ops : Array Oper} {rest : List Oper} {o : Oper} {a : Act} {Q : Exit → Act → World → Prop} (hgd : o.guard = none) (s x : Operand) (t : TypeId)
    (ho : o.op = .call { callee := .builtin .append, args := #[s, x], argTypes := #[t, t] })
    (base : Nat) (e : TypeId) (i : TypeInfo) (z : Value) (size bytes : Nat) (ht : P.underlying t = some (.slice e)) (hi : P.info? e = some i) (hz : i.zero = some z)
    (hsize : i.size = size) (hby : i.bytes = bytes) (hzs : z.cells.size = size) (hsz : 0 < size)
    (v : Value) (n : Nat) (xs : List Value) (hs : a.eval s = v) (hown : w.ownsRow base e size v n xs)
    (S : Nat → Prop) (own : Bool) (m : Nat) (news : List Value) (v2 : Value) (hx : a.eval x = v2) (hr : Sl w S own size m news v2) (h1 : ∀ u ∈ news, u.oneCell' = true)
    (h63 : n + m ≤ maxLen) (hbytes : (n + m) * bytes ≤ 140737488355328) (hbase : base ≤ w.heap.size)
    (h : ∀ v' w', w'.ownsRow base e size v' (n + m) (xs ++ news) → w.grownBy w' v.ownBlock → (v'.ownBlock = v.ownBlock ∨ v'.ownBlock = some w.heap.size) → wpList P ops Q rest (a.put o.dst v') w') : wpList P ops Q (o :: rest) a w :=
  wpList_plain hgd fun _ hK => wp_append_sl w s x t ho base e i z size bytes ht hi hz hsize hby hzs hsz v n xs hs hown S own m news v2 hx hr h1 h63 hbytes hbase fun v' w' h2 h3 h4 => hK _ _ (h v' w' h2 h3 h4)
theorem step_append_sl {ops : Array Oper} {o : Oper} {a : Act} {K : Act → World → Prop} {Q : Exit → Act → World → Prop} {E : Prop} (hgd : o.guard = none) (s x : Operand) (t : TypeId)
    (ho : o.op = .call { callee := .builtin .append, args := #[s, x], argTypes := #[t, t] })
    (base : Nat) (e : TypeId) (i : TypeInfo) (z : Value) (size bytes : Nat) (ht : P.underlying t = some (.slice e)) (hi : P.info? e = some i) (hz : i.zero = some z)
    (hsize : i.size = size) (hby : i.bytes = bytes) (hzs : z.cells.size = size) (hsz : 0 < size)
    (v : Value) (n : Nat) (xs : List Value) (hs : a.eval s = v) (hown : w.ownsRow base e size v n xs)
    (S : Nat → Prop) (own : Bool) (m : Nat) (news : List Value) (v2 : Value) (hx : a.eval x = v2) (hr : Sl w S own size m news v2) (h1 : ∀ u ∈ news, u.oneCell' = true)
    (h63 : n + m ≤ maxLen) (hbytes : (n + m) * bytes ≤ 140737488355328) (hbase : base ≤ w.heap.size)
    (h : ∀ v' w', w'.ownsRow base e size v' (n + m) (xs ++ news) → w.grownBy w' v.ownBlock → (v'.ownBlock = v.ownBlock ∨ v'.ownBlock = some w.heap.size) → K (a.put o.dst v') w') :
    if Region.wanted o (yielded ops a.tmps) = true then Oper.wp P o a w K Q else E := by
  have hw : Region.wanted o (yielded ops a.tmps) = true := by simp [Region.wanted, hgd]
  rw [if_pos hw]
  exact wp_append_sl w s x t ho base e i z size bytes ht hi hz hsize hby hzs hsz v n xs hs hown S own m news v2 hx hr h1 h63 hbytes hbase h
end
/-- A contract that hands back bytes in a row of its own (T: the type byte). -/
def GivesB (T : TypeId) (w : World) (l : List UInt8) (r : Ending) (w' : World) : Prop := ∃ v, r = .returned v ∧ w'.ownsRow w.heap.size T 1 v l.length (bytes l) ∧ Below w.heap.size w w'
theorem bytes_one (l : List UInt8) : ∀ u ∈ bytes l, u.oneCell' = true := by
  intro u hu
  simp only [bytes, List.mem_map] at hu
  obtain ⟨b, _, rfl⟩ := hu
  rfl
theorem ownsRow_mono {w : World} {base base' : Nat} {e : TypeId} {size n : Nat} {v : Value} {xs : List Value} (h : w.ownsRow base e size v n xs) (hb : base' ≤ base) : w.ownsRow base' e size v n xs := by
  obtain ⟨h1, h2⟩ := h
  refine ⟨h1, ?_⟩
  rcases h2 with h2 | ⟨g, cap, cur, hv, hg, r⟩
  · exact Or.inl h2
  · exact Or.inr ⟨g, cap, cur, hv, by omega, r⟩
theorem RepB.of_owns {w : World} {base : Nat} {T : TypeId} {v : Value} {l : List UInt8} (h : w.ownsRow base T 1 v l.length (bytes l)) : RepB w (fun b => v.ownBlock = some b ∧ base ≤ b) true l v := Sl.of_owns h (by omega)
/-- Bytes of numbers below 256. -/
theorem u8_toNat {n : Nat} (h : n < 256) : n.toUInt8.toNat = n := by simp [Nat.toUInt8]; omega
end Go.Proofs.YtagnalfkmdjajaaGreatDoor
namespace Go.Proofs.YtagnalfkmdjajaaGreatDoor
open Go.RowKit Go
set_option linter.unusedVariables false
set_option linter.unusedSimpArgs false
/-- The digits to the base 128, the lowest first (f more bytes than one, at most). -/
def putF : Nat → Nat → List UInt8
  | 0, n => [n.toUInt8]
  | f + 1, n => if n < 128 then [n.toUInt8] else (n % 128 + 128).toUInt8 :: putF f (n / 128)
def putV (n : Nat) : List UInt8 := putF 9 n
theorem putF_more (f : Nat) : ∀ n, n < 128 ^ (f + 1) → putF (f + 1) n = putF f n := by
  induction f with
  | zero => intro n h; simp at h; simp [putF, h]
  | succ f ih =>
    intro n h
    rw [putF]
    by_cases hn : n < 128
    · rw [if_pos hn]; simp [putF, hn]
    · rw [if_neg hn, ih _ (by rw [Nat.pow_succ] at h; omega)]; simp [putF, hn]
theorem putV_small (n : Nat) (h : n < 128) : putV n = [n.toUInt8] := by simp [putV, putF, h]
theorem putV_big (n : Nat) (h : ¬ n < 128) (h64 : n < 18446744073709551616) : putV n = (n % 128 + 128).toUInt8 :: putV (n / 128) := by
  have e : putF 8 (n / 128) = putF 9 (n / 128) := (putF_more 8 _ (by omega)).symm
  unfold putV
  rw [show putF 9 n = (n % 128 + 128).toUInt8 :: putF 8 (n / 128) from by simp [putF, h], e]
theorem putF_length (f n : Nat) : (putF f n).length ≤ f + 1 ∧ 0 < (putF f n).length := by
  induction f generalizing n with
  | zero => simp [putF]
  | succ f ih =>
    rw [putF]; split
    · simp
    · have := ih (n / 128); simp; omega
theorem putV_length (n : Nat) : (putV n).length ≤ 10 ∧ 0 < (putV n).length := putF_length 9 n
end Go.Proofs.YtagnalfkmdjajaaGreatDoor
namespace Go.Proofs.YtagnalfkmdjajaaGreatDoor
open Go.RowKit Go
set_option linter.unusedVariables false
set_option linter.unusedSimpArgs false
/-- The block wb is a struct of one cell, a slice of bytes l in a row behind wb. -/
def Wr (TW TB : TypeId) (w : World) (wb : Nat) (sv : Value) (l : List UInt8) : Prop := w.heap[wb]? = some (.cells #[sv] TW (0, 0)) ∧ w.ownsRow (wb + 1) TB 1 sv l.length (bytes l)
/-- What a write leaves. -/
structure Wrote (wb : Nat) (sv sv' : Value) (w w' : World) : Prop where
  os : w'.os = w.os
  tape : w'.tape = w.tape
  output : w'.output = w.output
  size : w.heap.size ≤ w'.heap.size
  keep : ∀ b, b < w.heap.size → b ≠ wb → sv.ownBlock ≠ some b → w'.heap[b]? = w.heap[b]?
  row : sv'.ownBlock = sv.ownBlock ∨ ∃ b, sv'.ownBlock = some b ∧ w.heap.size ≤ b
theorem Wrote.refl (wb : Nat) (sv : Value) (w : World) : Wrote wb sv sv w w := ⟨rfl, rfl, rfl, Nat.le_refl _, fun _ _ _ _ => rfl, .inl rfl⟩
theorem Wrote.trans {wb : Nat} {sv sv' sv'' : Value} {w w' w'' : World} (h : Wrote wb sv sv' w w') (k : Wrote wb sv' sv'' w' w'') : Wrote wb sv sv'' w w'' := by
  refine ⟨k.os.trans h.os, k.tape.trans h.tape, k.output.trans h.output, Nat.le_trans h.size k.size, fun b hb h1 h2 => ?_, ?_⟩
  · have hs := h.size
    rw [k.keep b (by omega) h1 (fun e => ?_), h.keep b hb h1 h2]
    rcases h.row with hr | ⟨b', hr, hl⟩
    · exact h2 (by rw [← hr]; exact e)
    · rw [hr] at e; injection e with e; omega
  · rcases k.row with hr | ⟨b, hr, hl⟩
    · rw [hr]; exact h.row
    · exact .inr ⟨b, hr, by have := h.size; omega⟩
/-- New memory alone. -/
theorem Wrote.of_below {wb : Nat} {sv : Value} {w w' : World} (h : Below w.heap.size w w') : Wrote wb sv sv w w' := ⟨h.os, h.tape, h.output, h.size, fun b hb _ _ => h.block b hb, .inl rfl⟩
theorem Wr.lt {TW TB : TypeId} {w : World} {wb : Nat} {sv : Value} {l : List UInt8} (h : Wr TW TB w wb sv l) : wb < w.heap.size ∧ ∀ k, sv.ownBlock = some k → wb + 1 ≤ k ∧ k < w.heap.size := ⟨(Array.getElem?_eq_some_iff.1 h.1).1, h.2.lt⟩
theorem Wrote.below {TW TB : TypeId} {wb : Nat} {sv sv' : Value} {w w' : World} {l : List UInt8} (h : Wrote wb sv sv' w w') (hw : Wr TW TB w wb sv l) : Below wb w w' :=
  ⟨h.os, h.tape, h.output, h.size, fun b hb => h.keep b (by have := hw.lt.1; omega) (by omega) (fun e => by have := (hw.lt.2 b e).1; omega)⟩
theorem Wr.below {TW TB : TypeId} {w w' : World} {wb : Nat} {sv : Value} {l : List UInt8} (h : Wr TW TB w wb sv l) (hb : Below w.heap.size w w') : Wr TW TB w' wb sv l :=
  ⟨by rw [hb.block _ h.lt.1]; exact h.1, ownsRow_below h.2 hb (Nat.le_refl _)⟩
theorem Wr.cell {TW TB : TypeId} {w : World} {wb : Nat} {sv : Value} {l : List UInt8} (h : Wr TW TB w wb sv l) : w.cell? ⟨wb, 0, none⟩ = some sv ∧ w.frozen? ⟨wb, 0, none⟩ = false :=
  ⟨by rw [cell_of_row w _ 0 _ _ _ h.1]; rfl, by rw [frozen_of_row w _ 0 _ _ h.1]⟩
/-- An append to the row, and its store behind the cell. -/
theorem Wr.push {TW TB : TypeId} {w w1 w2 : World} {wb : Nat} {sv v' : Value} {l m : List UInt8} (h : Wr TW TB w wb sv l) (hb : Below w.heap.size w w1) (hown : w2.ownsRow (wb + 1) TB 1 v' (l.length + m.length) (bytes l ++ bytes m)) (hg : w1.grownBy w2 sv.ownBlock)
    (hat : v'.ownBlock = sv.ownBlock ∨ v'.ownBlock = some w1.heap.size) : Wr TW TB (w2.setCell ⟨wb, 0, none⟩ v') wb v' (l ++ m) ∧ Wrote wb sv v' w (w2.setCell ⟨wb, 0, none⟩ v') := by
  have hl := h.lt
  have hs := hb.size
  have hne : some wb ≠ sv.ownBlock := fun e => by have := (hl.2 _ e.symm).1; omega
  have h2 : w2.heap[wb]? = some (.cells #[sv] TW (0, 0)) := by rw [hg.block _ (by omega) hne, hb.block _ hl.1]; exact h.1
  refine ⟨⟨heap_set_at h2 (by simp), ?_⟩, ?_⟩
  · refine ownsRow_setCell_below ?_ (by simp) v'
    simpa [bytes] using hown
  · refine ⟨hg.os.trans hb.os, hg.tape.trans hb.tape, hg.output.trans hb.output, ?_, fun b hb' h1 h3 => ?_, ?_⟩
    · have := hg.size; simp; omega
    · rw [Below.heap_setCell _ _ _ _ (by simpa using h1), hg.block _ (by omega) (fun e => h3 e.symm), hb.block _ hb']
    · rcases hat with h1 | h1
      · exact .inl h1
      · exact .inr ⟨_, h1, by omega⟩
/-- A contract that writes bytes. -/
def Wg (TW TB : TypeId) (w : World) (wb : Nat) (sv : Value) (l : List UInt8) (r : Value) (e : Ending) (w' : World) : Prop := e = .returned r ∧ ∃ sv', Wr TW TB w' wb sv' l ∧ Wrote wb sv sv' w w'
def nums (l : List Nat) : List Value := l.map fun (n : Nat) => .int .u64 (n : Int)
@[simp] theorem nums_length (l : List Nat) : (nums l).length = l.length := by simp [nums]
def putVs (l : List Nat) : List UInt8 := l.flatMap putV
theorem putVs_take (l : List Nat) (k : Nat) (h : k < l.length) : putVs (l.take (k + 1)) = putVs (l.take k) ++ putV l[k] := by
  unfold putVs; rw [List.take_succ_eq_append_getElem h, List.flatMap_append]; simp
theorem putVs_length (l : List Nat) : (putVs l).length ≤ 10 * l.length := by
  unfold putVs
  induction l with
  | nil => simp
  | cons n l ih => have := putV_length n; simp at ih ⊢; omega
end Go.Proofs.YtagnalfkmdjajaaGreatDoor
