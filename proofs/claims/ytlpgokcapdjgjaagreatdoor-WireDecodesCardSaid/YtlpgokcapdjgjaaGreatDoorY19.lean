/- Bytes that a call makes; append of whatever slice onto a row of the call's own. -/
import Derived.Test.YtlpgokcapdjgjaaGreatDoorYLib
import Derived.Deep.AppendLies
import Derived.OneCell
import Derived.Maps.AppendAt
import Derived.RegionTactic
import Derived.OwnWalk
namespace Go.Proofs.YtlpgokcapdjgjaaGreatDoor
open Go.RowKit Go
set_option linter.unusedVariables false
set_option linter.unusedSimpArgs false
theorem aQ {w : World} {base : Nat} {e : TypeId} {size n : Nat} {v : Value} {xs : List Value} (h : w.ownsRow base e size v n xs) : ∃ ad cap, v = .slice ad n cap := by
 rcases h.2 with ⟨rfl, rfl⟩ | ⟨g, cap, cur, rfl, _⟩
 ·exact ⟨_, _, rfl⟩
 ·exact ⟨_, _, rfl⟩
def Making (w : World) (base : Nat) (T : TypeId) (sv : Value) (es : List Ex) : Prop :=
 ∃ ys, w.ownsRow base T 4 sv es.length ys ∧ aX w (fun b => base ≤ b ∧ sv.ownBlock ≠ some b) true es ys
theorem Making.nil (w : World) (base : Nat) (T : TypeId) : Making w base T (.slice none 0 0) [] := ⟨[], World.ownsRow_nil _ _ _ _, by simp [aX]⟩
theorem Making.push {wr w1 w2 : World} {base B : Nat} {T : TypeId} {sv : Value} {es : List Ex} {ys : List Value} {e : Ex} {c0 c1 c2 c3 : Value} {gg gcap : Nat} {o : Obj}
  (hown : wr.ownsRow base T 4 sv es.length ys) (hey : aX wr (fun b => base ≤ b ∧ sv.ownBlock ≠ some b) true es ys) (hbase : base ≤ wr.1.size)
  (hb1 : Below B wr w1) (hB : wr.1.size ≤ B) (hv : aT w1 (fun b => wr.1.size ≤ b) true e (.agg #[c0, c1, c2, c3])) (hgrow : (w1.alloc o).grownBy w2 sv.ownBlock)
  (hown2 : w2.ownsRow base T 4 (.slice (some ⟨gg, 0, none⟩) (es.length + 1) gcap) (es.length + 1) (ys ++ [c0, c1, c2, c3])) (hat : sv.ownBlock = some gg ∨ gg = w1.1.size + 1) :
  Making w2 base T (.slice (some ⟨gg, 0, none⟩) (es.length + 1) gcap) (es ++ [e]) := by
 have hlt := hown.lt;have hs := hb1.size;refine ⟨ys ++ [c0, c1, c2, c3], by simpa using hown2, aX.append ?_ (aX.one ?_)⟩
 ·refine aX.keep (w := wr) ?_ ?_ hey
  ·rintro b ⟨hb, hne⟩ hbl
   rw [hgrow.block b (by simp; omega) (fun h => hne h.symm), az _ _ _ (by omega), hb1.block b (by omega)]
  ·rintro b hbl ⟨hb, hne⟩
   refine ⟨hb, ?_⟩;simp only [Value.ownBlock, ne_eq, Option.some.injEq];intro h;subst h;rcases hat with h | h
   ·exact hne h
   ·omega
 ·refine aT.keep (w := w1) ?_ ?_ hv
  ·rintro b hb hbl
   rw [hgrow.block b (by simp; omega) (fun h => by have := hlt b h.symm; omega), az _ _ _ (by omega)]
  ·rintro b hbl hb
   refine ⟨by omega, ?_⟩;simp only [Value.ownBlock, ne_eq, Option.some.injEq];intro h;subst h;rcases hat with h | h
   ·have := hlt _ h; omega
   ·omega
theorem Making.setCell {w : World} {base : Nat} {T : TypeId} {sv : Value} {es : List Ex} (h : Making w base T sv es) (a : Addr) (ha : a.block < base) (v : Value) : Making (w.setCell a v) base T sv es := by
 obtain ⟨ys, h1, h2⟩ := h;refine ⟨ys, ownsRow_setCell_below h1 ha v, aX.keep (w := w) ?_ (fun _ _ h => h) h2⟩;rintro b ⟨hb, _⟩ _;exact ay _ _ _ _ (by omega)
theorem Making.sl {w : World} {base : Nat} {T : TypeId} {sv : Value} {es : List Ex} (h : Making w base T sv es) : ∃ ys, Sl w (fun b => base ≤ b) true 4 es.length ys sv ∧ aX w (fun b => base ≤ b) true es ys := by
 obtain ⟨ys, h1, h2⟩ := h;exact ⟨ys, (Sl.of_owns h1 (by omega)).keep (by omega) (fun _ _ _ => rfl) (fun _ _ h => h.2), h2.wider fun _ _ h => h.1⟩
theorem aM {w : World} {b o : Nat} {cs cs' : Array Value} {t : TypeId} {v : Value} (h : w.1[b]? = some (.cells cs t (0, 0))) (hcs : cs' = cs.setIfInBounds o v) : (w.setCell ⟨b, o, none⟩ v).1[b]? = some (.cells cs' t (0, 0)) := by
 rw [hcs]; exact heap_setCell_same w b o cs t v h
theorem nD {wr w1 w2 : World} {B b : Nat} {o : Obj} {row : Option Nat} (hb1 : Below B wr w1) (hbB : b < B) (hbw : b < wr.1.size) (hgrow : (w1.alloc o).grownBy w2 row) (hne : some b ≠ row) : w2.1[b]? = wr.1[b]? := by
 have hs := hb1.size;rw [hgrow.block b (by simp; omega) hne, az _ _ _ (by omega), hb1.block b hbB]
theorem Below.grown' {B base : Nat} {w w1 w2 : World} {o : Obj} {sv : Value} (h : Below B w w1) (hg : (w1.alloc o).grownBy w2 sv.ownBlock) (hob : ∀ k, sv.ownBlock = some k → base ≤ k ∧ k < w1.1.size) (hB : B ≤ w1.1.size) (hbb : B ≤ base) : Below B w w2 :=
 (h.alloc hB _).grown hg (by simp; omega) (fun k hk => by have := (hob k hk).1; omega)
section
variable {P : Program} (w : World)
theorem oM (base : Nat) (t ty e : TypeId) (i : TypeInfo) (size : Nat) (ht : P.underlying t = some (.slice e)) (hi : P.info? e = some i)
  (v : Value) (n : Nat) (xs : List Value) (hown : w.ownsRow base e size v n xs) (c : Nat) : (Builtin.append_ #[t, t] ty #[v, .slice none 0 c]).run P w = .ok v w := by
 rcases hown.2 with ⟨rfl, rfl⟩ | ⟨g, cap, cur, rfl, _, _, hnc, _⟩
 ·simp [Builtin.append_, run_underlying ht, sizeOf, typeInfo, hi, Builtin.lenOf, Builtin.firstCells]
 ·simp [Builtin.append_, run_underlying ht, sizeOf, typeInfo, hi, Builtin.lenOf, Builtin.firstCells, hnc, storeCells]
theorem ui (base : Nat) (t ty e : TypeId) (i : TypeInfo) (z : Value) (size bytes : Nat) (ht : P.underlying t = some (.slice e)) (hi : P.info? e = some i) (hz : i.zero = some z)
  (hsize : i.size = size) (hby : i.bytes = bytes) (hzs : z.cells.size = size) (hsz : 0 < size)
  (v : Value) (n : Nat) (xs : List Value) (hown : w.ownsRow base e size v n xs)
  (S : Nat → Prop) (own : Bool) (m : Nat) (news : List Value) (v2 : Value) (hr : Sl w S own size m news v2) (h1 : ∀ u ∈ news, u.oneCell' = true)
  (h63 : n + m ≤ maxLen) (hbytes : (n + m) * bytes ≤ 140737488355328) (hbase : base ≤ w.1.size) :
  ∃ v' w', (Builtin.append_ #[t, t] ty #[v, v2]).run P w = .ok v' w' ∧ w'.ownsRow base e size v' (n + m) (xs ++ news) ∧ w.grownBy w' v.ownBlock ∧
   (v'.ownBlock = v.ownBlock ∨ v'.ownBlock = some w.1.size) := by
 obtain ⟨hl, _, ad, cap, rfl, _, hc⟩ := hr;rcases ad with _ | ad
 ·have hm : m = 0 := by
   rcases Nat.eq_zero_or_pos m with h0 | h0
   ·exact h0
   ·obtain ⟨bl, off, h, _⟩ := hc h0
    cases h
  subst hm;have hn : news = [] := List.eq_nil_of_length_eq_zero (by simpa using hl);subst hn;exact ⟨v, w, oM w base t ty e i size ht hi v n xs hown cap, by simpa using hown, World.grownBy.refl w _, .inl rfl⟩
 ·have hcells : ∀ j u, news[j]? = some u → w.cell? (ad.add j) = some u := by
   intro j u hu;have hj : j < news.length := (List.getElem?_eq_some_iff.1 hu).1;have hp : 0 < m := by
    rcases Nat.eq_zero_or_pos m with h0 | h0
    ·subst h0; omega
    ·exact h0
   obtain ⟨bl, off, h, _, hcc⟩ := hc hp;injection h with h
   subst h;rw [af hj] at hu;have hadd : (⟨bl, off, none⟩ : Addr).add j = ⟨bl, off + j, none⟩ := (by unfold Addr.add; split <;> simp_all);rw [hadd, (hcc j hj).1]; exact hu
  obtain ⟨v', w', hrun, h2, h3, _, h5⟩ := run_append_own_at (P := P) w base t ty e i z size bytes ht hi hz hsize hby hzs hsz v n xs hown ad m cap news hl hcells h1 h63 hbytes hbase;exact ⟨v', w', hrun, h2, h3, h5⟩
theorem nE {o : Oper} {a : Act} {K : Act → World → Prop} {Q : Exit → Act → World → Prop} (s x : Operand) (t : TypeId)
  (ho : o.op = .call { callee := .builtin .append, args := #[s, x], argTypes := #[t, t] })
  (base : Nat) (e : TypeId) (i : TypeInfo) (z : Value) (size bytes : Nat) (ht : P.underlying t = some (.slice e)) (hi : P.info? e = some i) (hz : i.zero = some z)
  (hsize : i.size = size) (hby : i.bytes = bytes) (hzs : z.cells.size = size) (hsz : 0 < size)
  (v : Value) (n : Nat) (xs : List Value) (hs : a.eval s = v) (hown : w.ownsRow base e size v n xs)
  (S : Nat → Prop) (own : Bool) (m : Nat) (news : List Value) (v2 : Value) (hx : a.eval x = v2) (hr : Sl w S own size m news v2) (h1 : ∀ u ∈ news, u.oneCell' = true)
  (h63 : n + m ≤ maxLen) (hbytes : (n + m) * bytes ≤ 140737488355328) (hbase : base ≤ w.1.size)
  (h : ∀ v' w', w'.ownsRow base e size v' (n + m) (xs ++ news) → w.grownBy w' v.ownBlock → (v'.ownBlock = v.ownBlock ∨ v'.ownBlock = some w.1.size) → K (a.put o.dst v') w') : o.wp P a w K Q := by
 obtain ⟨v', w', hrun, h2, h3, h4⟩ := ui (P := P) w base t o.type e i z size bytes ht hi hz hsize hby hzs hsz v n xs hown S own m news v2 hr h1 h63 hbytes hbase;unfold Oper.wp execOp;simp only [ho, resolve, invoke, builtin, Sem.run_bind, Sem.run_pure, Result.andThen_ok, List.map_toArray, List.map_cons, List.map_nil, hs, hx, hrun];exact h v' w' h2 h3 h4
theorem bg {ops : Array Oper} {rest : List Oper} {o : Oper} {a : Act} {Q : Exit → Act → World → Prop} (hgd : o.guard = none) (s x : Operand) (t : TypeId)
  (ho : o.op = .call { callee := .builtin .append, args := #[s, x], argTypes := #[t, t] })
  (base : Nat) (e : TypeId) (i : TypeInfo) (z : Value) (size bytes : Nat) (ht : P.underlying t = some (.slice e)) (hi : P.info? e = some i) (hz : i.zero = some z)
  (hsize : i.size = size) (hby : i.bytes = bytes) (hzs : z.cells.size = size) (hsz : 0 < size)
  (v : Value) (n : Nat) (xs : List Value) (hs : a.eval s = v) (hown : w.ownsRow base e size v n xs)
  (S : Nat → Prop) (own : Bool) (m : Nat) (news : List Value) (v2 : Value) (hx : a.eval x = v2) (hr : Sl w S own size m news v2) (h1 : ∀ u ∈ news, u.oneCell' = true)
  (h63 : n + m ≤ maxLen) (hbytes : (n + m) * bytes ≤ 140737488355328) (hbase : base ≤ w.1.size)
  (h : ∀ v' w', w'.ownsRow base e size v' (n + m) (xs ++ news) → w.grownBy w' v.ownBlock → (v'.ownBlock = v.ownBlock ∨ v'.ownBlock = some w.1.size) → wpList P ops Q rest (a.put o.dst v') w') : wpList P ops Q (o :: rest) a w :=
 wpList_plain hgd fun _ hK => nE w s x t ho base e i z size bytes ht hi hz hsize hby hzs hsz v n xs hs hown S own m news v2 hx hr h1 h63 hbytes hbase fun v' w' h2 h3 h4 => hK _ _ (h v' w' h2 h3 h4)
theorem kG {ops : Array Oper} {o : Oper} {a : Act} {K : Act → World → Prop} {Q : Exit → Act → World → Prop} {E : Prop} (hgd : o.guard = none) (s x : Operand) (t : TypeId)
  (ho : o.op = .call { callee := .builtin .append, args := #[s, x], argTypes := #[t, t] })
  (base : Nat) (e : TypeId) (i : TypeInfo) (z : Value) (size bytes : Nat) (ht : P.underlying t = some (.slice e)) (hi : P.info? e = some i) (hz : i.zero = some z)
  (hsize : i.size = size) (hby : i.bytes = bytes) (hzs : z.cells.size = size) (hsz : 0 < size)
  (v : Value) (n : Nat) (xs : List Value) (hs : a.eval s = v) (hown : w.ownsRow base e size v n xs)
  (S : Nat → Prop) (own : Bool) (m : Nat) (news : List Value) (v2 : Value) (hx : a.eval x = v2) (hr : Sl w S own size m news v2) (h1 : ∀ u ∈ news, u.oneCell' = true)
  (h63 : n + m ≤ maxLen) (hbytes : (n + m) * bytes ≤ 140737488355328) (hbase : base ≤ w.1.size)
  (h : ∀ v' w', w'.ownsRow base e size v' (n + m) (xs ++ news) → w.grownBy w' v.ownBlock → (v'.ownBlock = v.ownBlock ∨ v'.ownBlock = some w.1.size) → K (a.put o.dst v') w') :
  if Region.wanted o (yielded ops a.tmps) = true then Oper.wp P o a w K Q else E := by
 have hw : Region.wanted o (yielded ops a.tmps) = true := by simp [Region.wanted, hgd]
 rw [if_pos hw];exact nE w s x t ho base e i z size bytes ht hi hz hsize hby hzs hsz v n xs hs hown S own m news v2 hx hr h1 h63 hbytes hbase h
end
def jN (T : TypeId) (w : World) (l : List UInt8) (r : Ending) (w' : World) : Prop := ∃ v, r = .returned v ∧ w'.ownsRow w.1.size T 1 v l.length (bytes l) ∧ Below w.1.size w w'
theorem eF (l : List UInt8) : ∀ u ∈ bytes l, u.oneCell' = true := by
 intro u hu;simp only [bytes, List.mem_map] at hu;obtain ⟨b, _, rfl⟩ := hu;rfl
theorem iD {w : World} {base base' : Nat} {e : TypeId} {size n : Nat} {v : Value} {xs : List Value} (h : w.ownsRow base e size v n xs) (hb : base' ≤ base) : w.ownsRow base' e size v n xs := by
 obtain ⟨h1, h2⟩ := h;refine ⟨h1, ?_⟩;rcases h2 with h2 | ⟨g, cap, cur, hv, hg, r⟩
 ·exact Or.inl h2
 ·exact Or.inr ⟨g, cap, cur, hv, by omega, r⟩
theorem aO.of_owns {w : World} {base : Nat} {T : TypeId} {v : Value} {l : List UInt8} (h : w.ownsRow base T 1 v l.length (bytes l)) : aO w (fun b => v.ownBlock = some b ∧ base ≤ b) true l v := Sl.of_owns h (by omega)
theorem fU {n : Nat} (h : n < 256) : n.toUInt8.toNat = n := by simp [Nat.toUInt8]; omega
end Go.Proofs.YtlpgokcapdjgjaaGreatDoor
