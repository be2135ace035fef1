/- Append onto a row of the call's own. -/
import Derived.Test.YtagnalfkmdjajaaGreatDoorYLib
import Derived.Deep.AppendLies
import Derived.OneCell
import Derived.Maps.AppendAt
import Derived.RegionTactic
import Derived.OwnWalk
namespace Go.Proofs.YtagnalfkmdjajaaGreatDoor
open Go.RowKit Go
set_option linter.unusedVariables false
set_option linter.unusedSimpArgs false
theorem ag {w : World} {base : Nat} {e : TypeId} {size n : Nat} {v : Value} {xs : List Value} (h : w.ownsRow base e size v n xs) : ∃ ad cap, v = .slice ad n cap := by
 rcases h.2 with ⟨rfl, rfl⟩ | ⟨g, cap, cur, rfl, _⟩
 ·exact ⟨_, _, rfl⟩
 ·exact ⟨_, _, rfl⟩
def Making (w : World) (base : Nat) (T : TypeId) (sv : Value) (es : List Ex) : Prop :=
 ∃ ys, w.ownsRow base T 4 sv es.length ys ∧ dD w (fun b => base ≤ b ∧ sv.ownBlock ≠ some b) true es ys
theorem aQ {w : World} {b o : Nat} {cs cs' : Array Value} {t : TypeId} {v : Value} (h : w.heap[b]? = some (.cells cs t (0, 0))) (hcs : cs' = cs.setIfInBounds o v) : (w.setCell ⟨b, o, none⟩ v).heap[b]? = some (.cells cs' t (0, 0)) := by
 rw [hcs]; exact heap_setCell_same w b o cs t v h
theorem Below.grown' {B base : Nat} {w w1 w2 : World} {o : Obj} {sv : Value} (h : Below B w w1) (hg : (w1.alloc o).grownBy w2 sv.ownBlock) (hob : ∀ k, sv.ownBlock = some k → base ≤ k ∧ k < w1.heap.size) (hB : B ≤ w1.heap.size) (hbb : B ≤ base) : Below B w w2 :=
 (h.alloc hB _).grown hg (by simp; omega) (fun k hk => by have := (hob k hk).1; omega)
section
variable {P : Program} (w : World)
theorem nu (base : Nat) (t ty e : TypeId) (i : TypeInfo) (size : Nat) (ht : P.underlying t = some (.slice e)) (hi : P.info? e = some i)
  (v : Value) (n : Nat) (xs : List Value) (hown : w.ownsRow base e size v n xs) (c : Nat) : (Builtin.append_ #[t, t] ty #[v, .slice none 0 c]).run P w = .ok v w := by
 rcases hown.2 with ⟨rfl, rfl⟩ | ⟨g, cap, cur, rfl, _, _, hnc, _⟩
 ·simp [Builtin.append_, run_underlying ht, sizeOf, typeInfo, hi, Builtin.lenOf, Builtin.firstCells]
 ·simp [Builtin.append_, run_underlying ht, sizeOf, typeInfo, hi, Builtin.lenOf, Builtin.firstCells, hnc, storeCells]
theorem sF (base : Nat) (t ty e : TypeId) (i : TypeInfo) (z : Value) (size bytes : Nat) (ht : P.underlying t = some (.slice e)) (hi : P.info? e = some i) (hz : i.zero = some z)
  (hsize : i.size = size) (hby : i.bytes = bytes) (hzs : z.cells.size = size) (hsz : 0 < size)
  (v : Value) (n : Nat) (xs : List Value) (hown : w.ownsRow base e size v n xs)
  (S : Nat → Prop) (own : Bool) (m : Nat) (news : List Value) (v2 : Value) (hr : Sl w S own size m news v2) (h1 : ∀ u ∈ news, u.oneCell' = true)
  (h63 : n + m ≤ maxLen) (hbytes : (n + m) * bytes ≤ 140737488355328) (hbase : base ≤ w.heap.size) :
  ∃ v' w', (Builtin.append_ #[t, t] ty #[v, v2]).run P w = .ok v' w' ∧ w'.ownsRow base e size v' (n + m) (xs ++ news) ∧ w.grownBy w' v.ownBlock ∧
   (v'.ownBlock = v.ownBlock ∨ v'.ownBlock = some w.heap.size) := by
 obtain ⟨hl, _, ad, cap, rfl, _, hc⟩ := hr
 rcases ad with _ | ad
 ·have hm : m = 0 := by
   rcases Nat.eq_zero_or_pos m with h0 | h0
   ·exact h0
   ·obtain ⟨bl, off, h, _⟩ := hc h0
    cases h
  subst hm
  have hn : news = [] := List.eq_nil_of_length_eq_zero (by simpa using hl)
  subst hn
  exact ⟨v, w, nu w base t ty e i size ht hi v n xs hown cap, by simpa using hown, World.grownBy.refl w _, .inl rfl⟩
 ·have hcells : ∀ j u, news[j]? = some u → w.cell? (ad.add j) = some u := by
   intro j u hu
   have hj : j < news.length := (List.getElem?_eq_some_iff.1 hu).1
   have hp : 0 < m := by
    rcases Nat.eq_zero_or_pos m with h0 | h0
    ·subst h0; omega
    ·exact h0
   obtain ⟨bl, off, h, _, hcc⟩ := hc hp
   injection h with h
   subst h
   rw [List.getElem?_eq_getElem hj] at hu
   have hadd : (⟨bl, off, none⟩ : Addr).add j = ⟨bl, off + j, none⟩ := by unfold Addr.add; split <;> simp_all
   rw [hadd, (hcc j hj).1]; exact hu
  obtain ⟨v', w', hrun, h2, h3, _, h5⟩ := run_append_own_at (P := P) w base t ty e i z size bytes ht hi hz hsize hby hzs hsz v n xs hown ad m cap news hl hcells h1 h63 hbytes hbase
  exact ⟨v', w', hrun, h2, h3, h5⟩
theorem fJ {o : Oper} {a : Act} {K : Act → World → Prop} {Q : Exit → Act → World → Prop} (s x : Operand) (t : TypeId)
  (ho : o.op = .call { callee := .builtin .append, args := #[s, x], argTypes := #[t, t] })
  (base : Nat) (e : TypeId) (i : TypeInfo) (z : Value) (size bytes : Nat) (ht : P.underlying t = some (.slice e)) (hi : P.info? e = some i) (hz : i.zero = some z)
  (hsize : i.size = size) (hby : i.bytes = bytes) (hzs : z.cells.size = size) (hsz : 0 < size)
  (v : Value) (n : Nat) (xs : List Value) (hs : a.eval s = v) (hown : w.ownsRow base e size v n xs)
  (S : Nat → Prop) (own : Bool) (m : Nat) (news : List Value) (v2 : Value) (hx : a.eval x = v2) (hr : Sl w S own size m news v2) (h1 : ∀ u ∈ news, u.oneCell' = true)
  (h63 : n + m ≤ maxLen) (hbytes : (n + m) * bytes ≤ 140737488355328) (hbase : base ≤ w.heap.size)
  (h : ∀ v' w', w'.ownsRow base e size v' (n + m) (xs ++ news) → w.grownBy w' v.ownBlock → (v'.ownBlock = v.ownBlock ∨ v'.ownBlock = some w.heap.size) → K (a.put o.dst v') w') : o.wp P a w K Q := by
 obtain ⟨v', w', hrun, h2, h3, h4⟩ := sF (P := P) w base t o.type e i z size bytes ht hi hz hsize hby hzs hsz v n xs hown S own m news v2 hr h1 h63 hbytes hbase
 unfold Oper.wp execOp
 simp only [ho, resolve, invoke, builtin, Sem.run_bind, Sem.run_pure, Result.andThen_ok, List.map_toArray, List.map_cons, List.map_nil, hs, hx, hrun]
 exact h v' w' h2 h3 h4
theorem af {ops : Array Oper} {rest : List Oper} {o : Oper} {a : Act} {Q : Exit → Act → World → Prop} (hgd : o.guard = none) (s x : Operand) (t : TypeId)
  (ho : o.op = .call { callee := .builtin .append, args := #[s, x], argTypes := #[t, t] })
  (base : Nat) (e : TypeId) (i : TypeInfo) (z : Value) (size bytes : Nat) (ht : P.underlying t = some (.slice e)) (hi : P.info? e = some i) (hz : i.zero = some z)
  (hsize : i.size = size) (hby : i.bytes = bytes) (hzs : z.cells.size = size) (hsz : 0 < size)
  (v : Value) (n : Nat) (xs : List Value) (hs : a.eval s = v) (hown : w.ownsRow base e size v n xs)
  (S : Nat → Prop) (own : Bool) (m : Nat) (news : List Value) (v2 : Value) (hx : a.eval x = v2) (hr : Sl w S own size m news v2) (h1 : ∀ u ∈ news, u.oneCell' = true)
  (h63 : n + m ≤ maxLen) (hbytes : (n + m) * bytes ≤ 140737488355328) (hbase : base ≤ w.heap.size)
  (h : ∀ v' w', w'.ownsRow base e size v' (n + m) (xs ++ news) → w.grownBy w' v.ownBlock → (v'.ownBlock = v.ownBlock ∨ v'.ownBlock = some w.heap.size) → wpList P ops Q rest (a.put o.dst v') w') : wpList P ops Q (o :: rest) a w :=
 wpList_plain hgd fun _ hK => fJ w s x t ho base e i z size bytes ht hi hz hsize hby hzs hsz v n xs hs hown S own m news v2 hx hr h1 h63 hbytes hbase fun v' w' h2 h3 h4 => hK _ _ (h v' w' h2 h3 h4)
theorem iC {ops : Array Oper} {o : Oper} {a : Act} {K : Act → World → Prop} {Q : Exit → Act → World → Prop} {E : Prop} (hgd : o.guard = none) (s x : Operand) (t : TypeId)
  (ho : o.op = .call { callee := .builtin .append, args := #[s, x], argTypes := #[t, t] })
  (base : Nat) (e : TypeId) (i : TypeInfo) (z : Value) (size bytes : Nat) (ht : P.underlying t = some (.slice e)) (hi : P.info? e = some i) (hz : i.zero = some z)
  (hsize : i.size = size) (hby : i.bytes = bytes) (hzs : z.cells.size = size) (hsz : 0 < size)
  (v : Value) (n : Nat) (xs : List Value) (hs : a.eval s = v) (hown : w.ownsRow base e size v n xs)
  (S : Nat → Prop) (own : Bool) (m : Nat) (news : List Value) (v2 : Value) (hx : a.eval x = v2) (hr : Sl w S own size m news v2) (h1 : ∀ u ∈ news, u.oneCell' = true)
  (h63 : n + m ≤ maxLen) (hbytes : (n + m) * bytes ≤ 140737488355328) (hbase : base ≤ w.heap.size)
  (h : ∀ v' w', w'.ownsRow base e size v' (n + m) (xs ++ news) → w.grownBy w' v.ownBlock → (v'.ownBlock = v.ownBlock ∨ v'.ownBlock = some w.heap.size) → K (a.put o.dst v') w') :
  if Region.wanted o (yielded ops a.tmps) = true then Oper.wp P o a w K Q else E := by
 have hw : Region.wanted o (yielded ops a.tmps) = true := by simp [Region.wanted, hgd]
 rw [if_pos hw]
 exact fJ w s x t ho base e i z size bytes ht hi hz hsize hby hzs hsz v n xs hs hown S own m news v2 hx hr h1 h63 hbytes hbase h
end
def jo (T : TypeId) (w : World) (l : List UInt8) (r : Ending) (w' : World) : Prop := ∃ v, r = .returned v ∧ w'.ownsRow w.heap.size T 1 v l.length (bytes l) ∧ Below w.heap.size w w'
theorem dU (l : List UInt8) : ∀ u ∈ bytes l, u.oneCell' = true := by
 intro u hu
 simp only [bytes, List.mem_map] at hu
 obtain ⟨b, _, rfl⟩ := hu
 rfl
theorem bH {w : World} {base base' : Nat} {e : TypeId} {size n : Nat} {v : Value} {xs : List Value} (h : w.ownsRow base e size v n xs) (hb : base' ≤ base) : w.ownsRow base' e size v n xs := by
 obtain ⟨h1, h2⟩ := h
 refine ⟨h1, ?_⟩
 rcases h2 with h2 | ⟨g, cap, cur, hv, hg, r⟩
 ·exact Or.inl h2
 ·exact Or.inr ⟨g, cap, cur, hv, by omega, r⟩
theorem au.of_owns {w : World} {base : Nat} {T : TypeId} {v : Value} {l : List UInt8} (h : w.ownsRow base T 1 v l.length (bytes l)) : au w (fun b => v.ownBlock = some b ∧ base ≤ b) true l v := Sl.of_owns h (by omega)
theorem cZ {n : Nat} (h : n < 256) : n.toUInt8.toNat = n := by simp [Nat.toUInt8]; omega
def gK : Nat → Nat → List UInt8
 | 0, n => [n.toUInt8]
 | f + 1, n => if n < 128 then [n.toUInt8] else (n % 128 + 128).toUInt8 :: gK f (n / 128)
def bi (n : Nat) : List UInt8 := gK 9 n
theorem AB (f : Nat) : ∀ n, n < 128 ^ (f + 1) → gK (f + 1) n = gK f n := by
 induction f with
 | zero => intro n h; simp at h; simp [gK, h]
 | succ f ih =>
  intro n h
  rw [gK]
  by_cases hn : n < 128
  ·rw [if_pos hn]; simp [gK, hn]
  ·rw [if_neg hn, ih _ (by rw [Nat.pow_succ] at h; omega)]; simp [gK, hn]
theorem lN (n : Nat) (h : n < 128) : bi n = [n.toUInt8] := by simp [bi, gK, h]
theorem vW (n : Nat) (h : ¬ n < 128) (h64 : n < 18446744073709551616) : bi n = (n % 128 + 128).toUInt8 :: bi (n / 128) := by
 have e : gK 8 (n / 128) = gK 9 (n / 128) := (AB 8 _ (by omega)).symm
 unfold bi
 rw [show gK 9 n = (n % 128 + 128).toUInt8 :: gK 8 (n / 128) from by simp [gK, h], e]
theorem vX (f n : Nat) : (gK f n).length ≤ f + 1 ∧ 0 < (gK f n).length := by
 induction f generalizing n with
 | zero => simp [gK]
 | succ f ih =>
  rw [gK]; split
  ·simp
  ·have := ih (n / 128); simp; omega
theorem bO (n : Nat) : (bi n).length ≤ 10 ∧ 0 < (bi n).length := vX 9 n
def Wr (TW TB : TypeId) (w : World) (wb : Nat) (sv : Value) (l : List UInt8) : Prop := w.heap[wb]? = some (.cells #[sv] TW (0, 0)) ∧ w.ownsRow (wb + 1) TB 1 sv l.length (bytes l)
structure Wrote (wb : Nat) (sv sv' : Value) (w w' : World) : Prop where
 os : w'.os = w.os
 tape : w'.tape = w.tape
 output : w'.output = w.output
 size : w.heap.size ≤ w'.heap.size
 keep : ∀ b, b < w.heap.size → b ≠ wb → sv.ownBlock ≠ some b → w'.heap[b]? = w.heap[b]?
 row : sv'.ownBlock = sv.ownBlock ∨ ∃ b, sv'.ownBlock = some b ∧ w.heap.size ≤ b
theorem Wrote.refl (wb : Nat) (sv : Value) (w : World) : Wrote wb sv sv w w := ⟨rfl, rfl, rfl, Nat.le_refl _, fun _ _ _ _ => rfl, .inl rfl⟩
theorem Wrote.trans {wb : Nat} {sv sv' sv'' : Value} {w w' w'' : World} (h : Wrote wb sv sv' w w') (k : Wrote wb sv' sv'' w' w'') : Wrote wb sv sv'' w w'' := by
 refine ⟨k.os.trans h.os, k.tape.trans h.tape, k.output.trans h.output, Nat.le_trans h.size k.size, fun b hb h1 h2 => ?_, ?_⟩
 ·have hs := h.size
  rw [k.keep b (by omega) h1 (fun e => ?_), h.keep b hb h1 h2]
  rcases h.row with hr | ⟨b', hr, hl⟩
  ·exact h2 (by rw [← hr]; exact e)
  ·rw [hr] at e; injection e with e; omega
 ·rcases k.row with hr | ⟨b, hr, hl⟩
  ·rw [hr]; exact h.row
  ·exact .inr ⟨b, hr, by have := h.size; omega⟩
theorem Wrote.of_below {wb : Nat} {sv : Value} {w w' : World} (h : Below w.heap.size w w') : Wrote wb sv sv w w' := ⟨h.os, h.tape, h.output, h.size, fun b hb _ _ => h.block b hb, .inl rfl⟩
theorem Wr.lt {TW TB : TypeId} {w : World} {wb : Nat} {sv : Value} {l : List UInt8} (h : Wr TW TB w wb sv l) : wb < w.heap.size ∧ ∀ k, sv.ownBlock = some k → wb + 1 ≤ k ∧ k < w.heap.size := ⟨(Array.getElem?_eq_some_iff.1 h.1).1, h.2.lt⟩
theorem Wrote.below {TW TB : TypeId} {wb : Nat} {sv sv' : Value} {w w' : World} {l : List UInt8} (h : Wrote wb sv sv' w w') (hw : Wr TW TB w wb sv l) : Below wb w w' :=
 ⟨h.os, h.tape, h.output, h.size, fun b hb => h.keep b (by have := hw.lt.1; omega) (by omega) (fun e => by have := (hw.lt.2 b e).1; omega)⟩
theorem Wr.below {TW TB : TypeId} {w w' : World} {wb : Nat} {sv : Value} {l : List UInt8} (h : Wr TW TB w wb sv l) (hb : Below w.heap.size w w') : Wr TW TB w' wb sv l :=
 ⟨by rw [hb.block _ h.lt.1]; exact h.1, ownsRow_below h.2 hb nl⟩
theorem Wr.cell {TW TB : TypeId} {w : World} {wb : Nat} {sv : Value} {l : List UInt8} (h : Wr TW TB w wb sv l) : w.cell? ⟨wb, 0, none⟩ = some sv ∧ w.frozen? ⟨wb, 0, none⟩ = false :=
 ⟨by rw [cell_of_row w _ 0 _ _ _ h.1]; rfl, by rw [frozen_of_row w _ 0 _ _ h.1]⟩
theorem Wr.push {TW TB : TypeId} {w w1 w2 : World} {wb : Nat} {sv v' : Value} {l m : List UInt8} (h : Wr TW TB w wb sv l) (hb : Below w.heap.size w w1) (hown : w2.ownsRow (wb + 1) TB 1 v' (l.length + m.length) (bytes l ++ bytes m)) (hg : w1.grownBy w2 sv.ownBlock)
  (hat : v'.ownBlock = sv.ownBlock ∨ v'.ownBlock = some w1.heap.size) : Wr TW TB (w2.setCell ⟨wb, 0, none⟩ v') wb v' (l ++ m) ∧ Wrote wb sv v' w (w2.setCell ⟨wb, 0, none⟩ v') := by
 have hl := h.lt
 have hs := hb.size
 have hne : some wb ≠ sv.ownBlock := fun e => by have := (hl.2 _ e.symm).1; omega
 have h2 : w2.heap[wb]? = some (.cells #[sv] TW (0, 0)) := by rw [hg.block _ (by omega) hne, hb.block _ hl.1]; exact h.1
 refine ⟨⟨aQ h2 (by simp), ?_⟩, ?_⟩
 ·refine ownsRow_setCell_below ?_ (by simp) v'
  simpa [bytes] using hown
 ·refine ⟨hg.os.trans hb.os, hg.tape.trans hb.tape, hg.output.trans hb.output, ?_, fun b hb' h1 h3 => ?_, ?_⟩
  ·have := hg.size; simp; omega
  ·rw [Below.heap_setCell _ _ _ _ (by simpa using h1), hg.block _ (by omega) (fun e => h3 e.symm), hb.block _ hb']
  ·rcases hat with h1 | h1
   ·exact .inl h1
   ·exact .inr ⟨_, h1, by omega⟩
def Wg (TW TB : TypeId) (w : World) (wb : Nat) (sv : Value) (l : List UInt8) (r : Value) (e : Ending) (w' : World) : Prop := e = .returned r ∧ ∃ sv', Wr TW TB w' wb sv' l ∧ Wrote wb sv sv' w w'
def nums (l : List Nat) : List Value := l.map fun (n : Nat) => .int .u64 (n : Int)
@[simp] theorem nums_length (l : List Nat) : (nums l).length = l.length := by simp [nums]
def ae (l : List Nat) : List UInt8 := l.flatMap bi
theorem pX (l : List Nat) (k : Nat) (h : k < l.length) : ae (l.take (k + 1)) = ae (l.take k) ++ bi l[k] := by
 unfold ae; rw [List.take_succ_eq_append_getElem h, List.flatMap_append]; simp
theorem aJ (l : List Nat) : (ae l).length ≤ 10 * l.length := by
 unfold ae
 induction l with
 | nil => simp
 | cons n l ih => have := bO n; simp at ih ⊢; omega
theorem Sl.front {w : World} {S : Nat → Prop} {own : Bool} {size n m cap : Nat} {xs news : List Value} {ad : Option Addr} (hl : xs.length = n * size) (hsz : 0 < size) (hc : n ≤ cap) (h : Sl w S own size (n + m) (xs ++ news) (.slice ad (n + m) cap)) :
  Sl w (fun b => (Value.slice ad n cap).ownBlock = some b) false size n xs (.slice ad n cap) := by
 obtain ⟨h1, h2, ad', cap', h3, h4, h5⟩ := h
 simp only [Value.slice.injEq] at h3
 obtain ⟨rfl, _, rfl⟩ := h3
 refine ⟨hl, by omega, ad, cap, rfl, hc, fun hn => ?_⟩
 obtain ⟨bl, off, ha, _, hcc⟩ := h5 (by omega)
 refine ⟨bl, off, ha, by rw [ha]; rfl, fun j hj => ⟨?_, fun h => by cases h⟩⟩
 rw [(hcc j (by rw [List.length_append]; omega)).1, List.getElem_append_left hj]
section
variable {P : Program} (w : World)
theorem oW (base : Nat) (t ty e : TypeId) (i : TypeInfo) (z : Value) (size bytes : Nat) (ht : P.underlying t = some (.slice e)) (hi : P.info? e = some i) (hz : i.zero = some z)
  (hsize : i.size = size) (hby : i.bytes = bytes) (hzs : z.cells.size = size) (hsz : 0 < size)
  (v : Value) (n : Nat) (xs : List Value) (hown : w.ownsRow base e size v n xs)
  (a : Addr) (m c : Nat) (news : List Value) (hl : news.length = m * size) (hnews : ∀ j u, news[j]? = some u → w.cell? (a.add j) = some u) (h1 : ∀ u ∈ news, u.oneCell' = true)
  (h63 : n + m ≤ maxLen) (hbytes : (n + m) * bytes ≤ 140737488355328) (hbase : base ≤ w.heap.size) :
  ∃ v' w', (Builtin.append_ #[t, t] ty #[v, .slice (some a) m c]).run P w = .ok v' w' ∧ w'.ownsRow base e size v' (n + m) (xs ++ news) ∧ w.grownBy w' v.ownBlock ∧
   (v'.ownBlock = v.ownBlock ∨ v'.ownBlock = some w.heap.size) ∧ Sl w' (fun b => v.ownBlock = some b) false size n xs v := by
 obtain ⟨v', w', hrun, h2, h3, _, h5⟩ := run_append_own_at (P := P) w base t ty e i z size bytes ht hi hz hsize hby hzs hsz v n xs hown a m c news hl hnews h1 h63 hbytes hbase
 refine ⟨v', w', hrun, h2, h3, h5, ?_⟩
 have hsmall : n + m ≤ 9223372036854775807 := by simp only [maxLen] at h63; omega
 subst hsize
 subst hby
 have hown0 := hown
 rcases hown.2 with ⟨rfl, rfl⟩ | ⟨g, cap, cur, rfl, hbg, hg, hnc, hcm, hcs, htake⟩
 ·have hx : xs = [] := List.eq_nil_of_length_eq_zero (by simpa using hown.1)
  subst hx
  exact ⟨by simp, by omega, none, 0, rfl, by omega, fun h => by omega⟩
 ·by_cases hroom : n + m ≤ cap
  ·have hfit : n * i.size + news.length ≤ cur.size := by rw [hl, hcs, ← Nat.add_mul]; exact Nat.mul_le_mul_right _ hroom
   have hr := run_append_room (P := P) w t ty e i ht hi g n cap cur hg a m c news hl hnews h1 hroom hfit
   rw [hr] at hrun
   injection hrun with e1 e2
   subst e1
   exact Sl.front hown.1 hsz hnc (Sl.of_owns h2 hsz)
  ·have holds : ∀ j u, xs[j]? = some u → w.cell? ((⟨g, 0, none⟩ : Addr).add j) = some u := hown.cells (g := g) rfl
   have hr := run_append_grow (P := P) w t ty e i z ht hi hz ⟨g, 0, none⟩ n cap xs hown.1 holds a m c news hl hnews (by omega) (by omega) (growslice_fits (by omega) hbytes)
   rw [hr] at hrun
   injection hrun with e1 e2
   subst e2
   exact Sl.keep (Sl.unown (Sl.of_owns hown hsz)) hsz (fun k _ hk => heap_alloc_old w.drew _ hk) (fun _ _ h => h.1)
theorem pY {o : Oper} {a : Act} {K : Act → World → Prop} {Q : Exit → Act → World → Prop} (s x : Operand) (t : TypeId)
  (ho : o.op = .call { callee := .builtin .append, args := #[s, x], argTypes := #[t, t] })
  (base : Nat) (e : TypeId) (i : TypeInfo) (z : Value) (size bytes : Nat) (ht : P.underlying t = some (.slice e)) (hi : P.info? e = some i) (hz : i.zero = some z)
  (hsize : i.size = size) (hby : i.bytes = bytes) (hzs : z.cells.size = size) (hsz : 0 < size)
  (v : Value) (n : Nat) (xs : List Value) (hs : a.eval s = v) (hown : w.ownsRow base e size v n xs)
  (ad : Addr) (m c : Nat) (news : List Value) (hx : a.eval x = .slice (some ad) m c) (hl : news.length = m * size) (hnews : ∀ j u, news[j]? = some u → w.cell? (ad.add j) = some u) (h1 : ∀ u ∈ news, u.oneCell' = true)
  (h63 : n + m ≤ maxLen) (hbytes : (n + m) * bytes ≤ 140737488355328) (hbase : base ≤ w.heap.size)
  (h : ∀ v' w', w'.ownsRow base e size v' (n + m) (xs ++ news) → w.grownBy w' v.ownBlock → (v'.ownBlock = v.ownBlock ∨ v'.ownBlock = some w.heap.size) → Sl w' (fun b => v.ownBlock = some b) false size n xs v → K (a.put o.dst v') w') : o.wp P a w K Q := by
 obtain ⟨v', w', hrun, h2, h3, h4, h5⟩ := oW (P := P) w base t o.type e i z size bytes ht hi hz hsize hby hzs hsz v n xs hown ad m c news hl hnews h1 h63 hbytes hbase
 unfold Oper.wp execOp
 simp only [ho, resolve, invoke, builtin, Sem.run_bind, Sem.run_pure, Result.andThen_ok, List.map_toArray, List.map_cons, List.map_nil, hs, hx, hrun]
 exact h v' w' h2 h3 h4 h5
theorem iD {ops : Array Oper} {rest : List Oper} {o : Oper} {a : Act} {Q : Exit → Act → World → Prop} (hgd : o.guard = none) (s x : Operand) (t : TypeId)
  (ho : o.op = .call { callee := .builtin .append, args := #[s, x], argTypes := #[t, t] })
  (base : Nat) (e : TypeId) (i : TypeInfo) (z : Value) (size bytes : Nat) (ht : P.underlying t = some (.slice e)) (hi : P.info? e = some i) (hz : i.zero = some z)
  (hsize : i.size = size) (hby : i.bytes = bytes) (hzs : z.cells.size = size) (hsz : 0 < size)
  (v : Value) (n : Nat) (xs : List Value) (hs : a.eval s = v) (hown : w.ownsRow base e size v n xs)
  (ad : Addr) (m c : Nat) (news : List Value) (hx : a.eval x = .slice (some ad) m c) (hl : news.length = m * size) (hnews : ∀ j u, news[j]? = some u → w.cell? (ad.add j) = some u) (h1 : ∀ u ∈ news, u.oneCell' = true)
  (h63 : n + m ≤ maxLen) (hbytes : (n + m) * bytes ≤ 140737488355328) (hbase : base ≤ w.heap.size)
  (h : ∀ v' w', w'.ownsRow base e size v' (n + m) (xs ++ news) → w.grownBy w' v.ownBlock → (v'.ownBlock = v.ownBlock ∨ v'.ownBlock = some w.heap.size) → Sl w' (fun b => v.ownBlock = some b) false size n xs v → wpList P ops Q rest (a.put o.dst v') w') : wpList P ops Q (o :: rest) a w :=
 wpList_plain hgd fun _ hK => pY w s x t ho base e i z size bytes ht hi hz hsize hby hzs hsz v n xs hs hown ad m c news hx hl hnews h1 h63 hbytes hbase fun v' w' h2 h3 h4 h5 => hK _ _ (h v' w' h2 h3 h4 h5)
end
end Go.Proofs.YtagnalfkmdjajaaGreatDoor
