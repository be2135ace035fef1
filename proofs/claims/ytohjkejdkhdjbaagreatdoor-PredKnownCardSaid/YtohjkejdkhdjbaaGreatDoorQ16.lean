/- One cell put behind a row of the call's own, which is read again afterwards: the new row, and the old one as it was. Plain lemmas. Ahead of it: A tree put behind a row of trees, whatever stands between. Plain lemmas. -/
import Derived.Test.YtohjkejdkhdjbaaGreatDoorQ10
import Derived.Test.YtohjkejdkhdjbaaGreatDoorQ19
import Derived.Test.YtohjkejdkhdjbaaGreatDoorQEx04
import Derived.ArgAppend
namespace Go.Proofs.YtohjkejdkhdjbaaGreatDoor
open Go.RowKit Go
set_option linter.unusedVariables false
set_option linter.unusedSimpArgs false
theorem eval_of {a : Act} {s : Nat} {v : Value} (h : a.tmps[s]? = some v) : a.eval (.tmp s) = v := by
  simp only [Act.eval, Array.getD_eq_getD_getElem?, h]; rfl
theorem Making.push2 {wr W w2 : World} {base : Nat} {T : TypeId} {sv : Value} {es : List Ex} {ys : List Value} {e : Ex} {c0 c1 c2 c3 : Value} {gg gcap : Nat}
    (hown : wr.ownsRow base T 4 sv es.length ys) (hey : RepEs wr (fun b => base ≤ b ∧ sv.ownBlock ≠ some b) true es ys) (hbase : base ≤ wr.heap.size)
    (hb : Below wr.heap.size wr W) (hv : RepE W (fun b => wr.heap.size ≤ b) true e (.agg #[c0, c1, c2, c3])) (hgrow : W.grownBy w2 sv.ownBlock)
    (hown2 : w2.ownsRow base T 4 (.slice (some ⟨gg, 0, none⟩) (es.length + 1) gcap) (es.length + 1) (ys ++ [c0, c1, c2, c3])) (hat : sv.ownBlock = some gg ∨ gg = W.heap.size) :
    Making w2 base T (.slice (some ⟨gg, 0, none⟩) (es.length + 1) gcap) (es ++ [e]) := by
  have hlt := hown.lt
  have hs := hb.size
  refine ⟨ys ++ [c0, c1, c2, c3], by simpa using hown2, RepEs.append ?_ (RepEs.one ?_)⟩
  · refine RepEs.keep (w := wr) ?_ ?_ hey
    · rintro b ⟨hb1, hne⟩ hbl
      rw [hgrow.block b (by omega) (fun h => hne h.symm), hb.block b (by omega)]
    · rintro b hbl ⟨hb1, hne⟩
      refine ⟨hb1, ?_⟩
      simp only [Value.ownBlock, ne_eq, Option.some.injEq]
      intro h
      subst h
      rcases hat with h | h
      · exact hne h
      · omega
  · refine RepE.keep (w := W) ?_ ?_ hv
    · rintro b hb1 hbl
      rw [hgrow.block b (by omega) (fun h => by have := hlt b h.symm; omega)]
    · rintro b hbl hb1
      refine ⟨by omega, ?_⟩
      simp only [Value.ownBlock, ne_eq, Option.some.injEq]
      intro h
      subst h
      rcases hat with h | h
      · have := hlt _ h; omega
      · omega
/-- The frame behind an append to a row of the call's own. -/
theorem Below.grown2 {B base : Nat} {w W w2 : World} {sv : Value} (h : Below B w W) (hg : W.grownBy w2 sv.ownBlock) (hob : ∀ k, sv.ownBlock = some k → base ≤ k) (hB : B ≤ W.heap.size) (hbb : B ≤ base) : Below B w w2 :=
  h.grown hg (by omega) (fun k hk => by have := hob k hk; omega)
theorem grown_far {W w2 : World} {row : Option Nat} {b : Nat} (hg : W.grownBy w2 row) (hb : b < W.heap.size) (hne : some b ≠ row) : w2.heap[b]? = W.heap[b]? := hg.block b hb hne
/-- A tree in a block of its own. -/
def pTreeRow (n : Nat) (S : Nat → Prop) (v : Value) (w : World) : Prop := ∃ g T e c0 c1 c2 c3, v = .slice (some ⟨g, 0, none⟩) 1 1 ∧ S g ∧ w.heap[g]? = some (.cells #[c0, c1, c2, c3] T (0, 0)) ∧ e.size ≤ n ∧ RepE w S true e (.agg #[c0, c1, c2, c3])
theorem steadyTreeRow (n : Nat) : Steady (pTreeRow n) := by
  rintro S S' v w w' hk hs hS ⟨g, T, e, c0, c1, c2, c3, h1, h2, h3, h4, h5⟩
  have hlt := (Array.getElem?_eq_some_iff.1 h3).1
  exact ⟨g, T, e, c0, c1, c2, c3, h1, hS g hlt h2, (hk g h2 hlt).trans h3, h4, RepE.keep hk hS h5⟩
def pTreeOf (n : Nat) (S : Nat → Prop) (v : Value) (w : World) : Prop := ∃ e : Ex, e.size ≤ n ∧ RepE w S true e v
theorem steadyTreeOf (n : Nat) : Steady (pTreeOf n) := by
  rintro S S' v w w' hk hs hS ⟨e, h4, h5⟩
  exact ⟨e, h4, RepE.keep hk hS h5⟩
end Go.Proofs.YtohjkejdkhdjbaaGreatDoor
namespace Go.Proofs.YtohjkejdkhdjbaaGreatDoor
open Go.RowKit Go
set_option linter.unusedVariables false
set_option linter.unusedSimpArgs false
theorem heap_setCell_row {w : World} {g o : Nat} {cur : Array Value} {T : TypeId} {v : Value} (h : w.heap[g]? = some (.cells cur T (0, 0))) : (w.setCell ⟨g, o, none⟩ v).heap[g]? = some (.cells (cur.setIfInBounds o v) T (0, 0)) := heap_set_at h rfl
theorem run_append_keep {P : Program} (w : World) (base : Nat) (t ty e : TypeId) (i : TypeInfo) (z : Value) (bytes : Nat) (ht : P.underlying t = some (.slice e)) (hi : P.info? e = some i) (hz : i.zero = some z)
    (hsize : i.size = 1) (hby : i.bytes = bytes) (hzs : z.cells.size = 1) (v : Value) (n : Nat) (xs : List Value) (hown : w.ownsRow base e 1 v n xs)
    (a : Addr) (c : Nat) (x : Value) (hnews : w.cell? a = some x) (h1 : x.oneCell' = true) (h63 : n + 1 ≤ maxLen) (hbytes : (n + 1) * bytes ≤ 140737488355328) (hbase : base ≤ w.heap.size) :
    ∃ v' w', (Builtin.append_ #[t, t] ty #[v, .slice (some a) 1 c]).run P w = .ok v' w' ∧ w'.ownsRow base e 1 v' (n + 1) (xs ++ [x]) ∧ w'.ownsRow base e 1 v n xs ∧ Below base w w' := by
  have hn1 : ∀ j u, [x][j]? = some u → w.cell? (a.add j) = some u := fun j u hj => by
    cases j with
    | zero =>
      simp at hj
      subst hj
      rw [show a.add 0 = a from by unfold Addr.add; cases a with | mk b o s => cases s <;> simp]
      exact hnews
    | succ j => simp at hj
  have h1' : ∀ u ∈ [x], u.oneCell' = true := fun u hu => by simp only [List.mem_singleton] at hu; rw [hu]; exact h1
  have grown : ∀ {v' : Value} {w' : World}, w'.ownsRow w.heap.size e 1 v' (n + 1) (xs ++ [x]) → w.grownBy w' none → w'.ownsRow base e 1 v' (n + 1) (xs ++ [x]) ∧ w'.ownsRow base e 1 v n xs ∧ Below base w w' := fun {v' w'} r1 r2 => by
    have hb : Below w.heap.size w w' := ⟨r2.os, r2.tape, r2.output, r2.size, fun k hk => r2.block k hk (by simp)⟩
    refine ⟨⟨r1.1, ?_⟩, ownsRow_below hown hb (Nat.le_refl _), hb.mono hbase⟩
    rcases r1.2 with r | ⟨g, cap, cur, h1, h2, r⟩
    · exact .inl r
    · exact .inr ⟨g, cap, cur, h1, by omega, r⟩
  rcases hown.2 with ⟨hv, hx⟩ | ⟨g, cap, cur, hv, hgb, hg, hnc, hcm, hcs, htk⟩
  · subst hv hx
    obtain rfl : xs = [] := List.eq_nil_of_length_eq_zero (by have := hown.1; simpa using this)
    obtain ⟨v', w', hr, r1, r2, _⟩ := run_append_own (P := P) w w.heap.size t ty e i z 1 bytes ht hi hz hsize hby hzs (by omega) (.slice none 0 0) 0 [] (World.ownsRow_nil w _ e 1) a 1 c [x] rfl hn1 h1' h63 hbytes (Nat.le_refl _)
    exact ⟨v', w', hr, grown r1 r2⟩
  · subst hv
    have hxl : xs.length = n := by have := hown.1; omega
    by_cases hr : n + 1 ≤ cap
    · have hlt : n < cur.size := by rw [hcs]; omega
      have hc : w.cell? ⟨g, 0 + n * 1 + 0, none⟩ = some cur[n] := by
        rw [cell_of_row w g _ _ _ _ hg]
        simp only [Nat.zero_add, Nat.mul_one, Nat.add_zero]
        exact Array.getElem?_eq_getElem hlt
      have hrun := run_append_room_cells (P := P) w t ty e i ht hi g 0 n cap a 1 c [x] (by rw [hsize]; rfl) hn1 h1' hr (fun j hj => by
        obtain rfl : j = 0 := by simp at hj; omega
        rw [hsize, hc]; rfl) (fun j hj => by rw [frozen_of_row w g _ _ _ hg])
      rw [hsize] at hrun
      simp only [World.setCells, Nat.zero_add, Nat.mul_one] at hrun
      have hh := heap_setCell_row (o := n) (v := x) hg
      have hsz : (cur.setIfInBounds n x).size = cur.size := by simp
      refine ⟨_, _, hrun, ⟨by simp; omega, .inr ⟨g, cap, cur.setIfInBounds n x, rfl, hgb, hh, hr, hcm, by rw [hsz, hcs], ?_⟩⟩, ⟨hown.1, .inr ⟨g, cap, cur.setIfInBounds n x, rfl, hgb, hh, hnc, hcm, by rw [hsz, hcs], ?_⟩⟩, (Below.refl _ _).setCell hgb _⟩
      · rw [← htk, Array.toList_setIfInBounds, Nat.mul_one, Nat.mul_one, List.take_succ_eq_append_getElem (by simp; omega), List.take_set_of_le (Nat.le_refl _), List.getElem_set_self]
      · rw [Array.toList_setIfInBounds, List.take_set_of_le (by omega)]
        exact htk
    · obtain ⟨v', w', hrun, r1, r2⟩ := run_append_arg_grows (P := P) w t ty e i z 1 bytes ht hi hz hsize hby hzs (by omega) ⟨g, 0, none⟩ n cap xs hown.1 (fun j u hj => by
        rw [Addr.add_lit, cell_of_row w g _ _ _ _ hg, Nat.zero_add]
        rw [← htk, List.getElem?_take] at hj
        split at hj
        · simpa using hj
        · cases hj) a 1 c [x] rfl hn1 (by omega) h63 hbytes
      exact ⟨v', w', hrun, grown r1 r2⟩
theorem wpList_append_keep {P : Program} (w : World) {ops : Array Oper} {rest : List Oper} {o : Oper} {a : Act} {Q : Exit → Act → World → Prop} (hg : Region.wanted o (yielded ops a.tmps) = true) (s x : Operand) (t : TypeId)
    (hop : o.op = Op.call { callee := Callee.builtin Builtin.append, args := #[s, x], argTypes := #[t, t] }) (base : Nat) (e : TypeId) (i : TypeInfo) (z : Value) (bytes : Nat) (ht : P.underlying t = some (.slice e)) (hi : P.info? e = some i) (hz : i.zero = some z)
    (hsize : i.size = 1) (hby : i.bytes = bytes) (hzs : z.cells.size = 1) (v : Value) (n : Nat) (xs : List Value) (hs : a.eval s = v) (hown : w.ownsRow base e 1 v n xs)
    (ad : Addr) (c : Nat) (u : Value) (hx : a.eval x = .slice (some ad) 1 c) (hnews : w.cell? ad = some u) (h1 : u.oneCell' = true) (h63 : n + 1 ≤ maxLen) (hbytes : (n + 1) * bytes ≤ 140737488355328) (hbase : base ≤ w.heap.size)
    (h : ∀ v' w', w'.ownsRow base e 1 v' (n + 1) (xs ++ [u]) → w'.ownsRow base e 1 v n xs → Below base w w' → wpList P ops Q rest (a.put o.dst v') w') : wpList P ops Q (o :: rest) a w := by
  obtain ⟨v', w', hr, r1, r2, r3⟩ := run_append_keep (P := P) w base t o.type e i z bytes ht hi hz hsize hby hzs v n xs hown ad c u hnews h1 h63 hbytes hbase
  refine wpList_step fun K hK => ?_
  rw [if_pos hg]
  unfold Oper.wp execOp
  simp only [hop, resolve, invoke, builtin, Sem.run_bind, Sem.run_pure, Result.andThen_ok, List.map_toArray, List.map_cons, List.map_nil, hs, hx, hr]
  exact hK _ _ (h v' w' r1 r2 r3)
end Go.Proofs.YtohjkejdkhdjbaaGreatDoor
