/- A certificate under way in memory. -/
import Derived.Test.YtagnalfkmdjajaaGreatDoorY18
import Derived.Test.YtagnalfkmdjajaaGreatDoorY3
namespace Go.Proofs.YtagnalfkmdjajaaGreatDoor
open Go.RowKit Go
set_option linter.unusedVariables false
set_option linter.unusedSimpArgs false
section
variable {P : Program} (w : World)
theorem gz (z : Value) (m : Nat) : Builtin.zeroCells #[z] m = (List.replicate m z).toArray := by
 apply Array.ext'
 unfold Builtin.zeroCells
 apply List.ext_getElem?
 intro i
 simp [List.getElem?_replicate]
 by_cases h : i < m
 ·simp [h, Nat.mod_one]
 ·simp [h]
theorem nH (base : Nat) (t tx ty e : TypeId) (i : TypeInfo) (z : Value) (bytes : Nat) (k : IntKind) (ht : P.underlying t = some (.slice e)) (htx : P.underlying tx = some (.int k)) (hi : P.info? e = some i) (hz : i.zero = some z)
  (hsize : i.size = 1) (hby : i.bytes = bytes) (hzc : z.cells = #[z]) (hz1 : z.oneCell' = true)
  (v : Value) (n : Nat) (xs : List Value) (hown : w.ownsRow base e 1 v n xs) (m : Nat) (h63 : n + m ≤ maxLen) (hbytes : (n + m) * bytes ≤ 140737488355328) (hbase : base ≤ w.heap.size) (hm : 0 < m) :
  ∃ v' w', (Builtin.append_ #[t, tx] ty #[v, .int .i64 (m : Int)]).run P w = .ok v' w' ∧ w'.ownsRow base e 1 v' (n + m) (xs ++ List.replicate m z) ∧ w.grownBy w' v.ownBlock ∧
   (v'.ownBlock = v.ownBlock ∨ v'.ownBlock = some w.heap.size) := by
 subst hby
 have hsmall : n + m ≤ 9223372036854775807 := by simp only [maxLen] at h63; omega
 have hlen : (xs ++ List.replicate m z).length = (n + m) * 1 := by rw [List.length_append, hown.1, List.length_replicate]; omega
 have hwr : IntKind.i64.wrap (m : Int) = (m : Int) := by simp only [IntKind.wrap, IntKind.signed, IntKind.bits]; simp; omega
 have hneg : ¬ ((m : Int) < 0) := by omega
 have hbig : ¬ (281474976710656 < (m : Int) * (i.bytes : Int)) := by
  have h0 : m * i.bytes ≤ (n + m) * i.bytes := Nat.mul_le_mul_right _ (by omega)
  have : ((m * i.bytes : Nat) : Int) = (m : Int) * (i.bytes : Int) := by simp
  omega
 have grown : ∀ (old : Nat), old < n + m → ∀ (row : Option Nat),
   (w.drew.alloc (.cells (xs.toArray ++ (List.replicate m z).toArray ++ Builtin.zeroCells z.cells (grownCap w (n + m) old e - (n + m))) e)).ownsRow base e 1
    (.slice (some ⟨w.heap.size, 0, none⟩) (n + m) (grownCap w (n + m) old e)) (n + m) (xs ++ List.replicate m z) ∧
   w.grownBy (w.drew.alloc (.cells (xs.toArray ++ (List.replicate m z).toArray ++ Builtin.zeroCells z.cells (grownCap w (n + m) old e - (n + m))) e)) row := by
  intro old ho row
  have hge := grownCap_ge w (n + m) old e
  have hcm : grownCap w (n + m) old e ≤ maxLen := grownCap_le_maxLen w (n + m) old e h63
  refine ⟨⟨hlen, .inr ⟨w.heap.size, _, _, rfl, hbase, heap_alloc_new w.drew _, hge, hcm, ?_, ?_⟩⟩, ⟨rfl, rfl, rfl, by simp, fun k hk _ => Below.heap_alloc w.drew _ k hk⟩⟩
  ·rw [hzc, gz]
   have := hown.1
   simp
   omega
  ·simp only [Array.toList_append, List.append_assoc]
   rw [← List.append_assoc, ← hlen]
   exact List.take_left
 have hz0 : ¬ (m = 0) := by omega
 have hcn : m = 0 → False := hz0
 rcases hown.2 with ⟨rfl, rfl⟩ | ⟨g, cap, cur, rfl, hbg, hg, hnc, hcm, hcs, htake⟩
 ·have hx : xs = [] := List.eq_nil_of_length_eq_zero (by simpa using hown.1)
  subst hx
  have hgr := grown 0 (by omega) (Value.ownBlock (.slice none 0 0))
  simp only [Nat.zero_add, List.nil_append, Array.empty_append] at hgr ⊢
  have hfit := growslice_fits (old := 0) (by omega) hbytes
  have h63' : ¬ (9223372036854775807 < (m : Int)) := by omega
  have h48' : ¬ (281474976710656 < Builtin.nextslicecap m 0 * i.bytes) := by simp only [Nat.zero_add] at hfit; omega
  refine ⟨_, _, ?_, hgr.1, hgr.2, Or.inr rfl⟩
  simp [Builtin.append_, run_underlying ht, run_underlying htx, sizeOf, typeInfo, zeroValue, hi, hz, hsize, asInt, asIntOf, hwr, hneg, hbig, hz0, h63', h48', Question.forced, newRow, grownCap, Builtin.firstCells, hzc, gz]
 ·have h1 : ¬ (9223372036854775807 < ((n : Int) + (m : Int))) := by omega
  by_cases hroom : n + m ≤ cap
  ·have hfit : n + (List.replicate m z).length ≤ cur.size := by rw [hcs, List.length_replicate]; omega
   have hst := run_storeCells_at P g n e (List.replicate m z) 0 cur w hg (by simpa using hfit) (fun u hu => by rw [List.eq_of_mem_replicate hu]; exact hz1)
   simp only [Nat.add_zero] at hst
   refine ⟨.slice (some ⟨g, 0, none⟩) (n + m) cap, _, ?_, ⟨hlen, .inr ⟨g, cap, _, rfl, hbg, setRow_heap w g cur (cur.toList.take n ++ List.replicate m z ++ cur.toList.drop (n + (List.replicate m z).length)).toArray e _ hg, hroom, hcm, ?_, ?_⟩⟩, ⟨rfl, rfl, rfl, by simp, fun k _ hk => setRow_other w g k _ (fun e => hk (by simp [Value.ownBlock, e]))⟩, .inl rfl⟩
   ·simp [Builtin.append_, run_underlying ht, run_underlying htx, sizeOf, typeInfo, zeroValue, hi, hz, hsize, asInt, asIntOf, hwr, hneg, hbig, hz0, hroom, Question.forced, hzc, gz, Addr.add_lit, hst]
   ·simp only [List.size_toArray, List.length_append, List.length_take, List.length_drop, Array.length_toList, List.length_replicate]
    omega
   ·rw [Nat.mul_one] at htake
    rw [htake, ← hlen]
    exact List.take_left
  ·have hfit := growslice_fits (old := cap) (need := n + m) (by omega) hbytes
   have h48' : ¬ (281474976710656 < Builtin.nextslicecap (n + m) cap * i.bytes) := by omega
   have hold : (Builtin.firstCells 1 n (.slice (some ⟨g, 0, none⟩) n cap)).run P w.drew = .ok xs.toArray w.drew := by
    have holds : ∀ j u, xs[j]? = some u → w.cell? ((⟨g, 0, none⟩ : Addr).add j) = some u := hown.cells (g := g) rfl
    exact run_firstCells_some (P := P) w.drew 1 n ⟨g, 0, none⟩ n cap xs hown.1 (fun j u hu => holds j u hu)
   have hgr := grown cap (by omega) (Value.ownBlock (.slice (some ⟨g, 0, none⟩) n cap))
   refine ⟨_, _, ?_, hgr.1, hgr.2, Or.inr rfl⟩
   simp [Builtin.append_, run_underlying ht, run_underlying htx, sizeOf, typeInfo, zeroValue, hi, hz, hsize, asInt, asIntOf, hwr, hneg, hbig, hz0, hroom, h1, h48', Question.forced, newRow, grownCap, hold, hzc, gz]
theorem lm {ops : Array Oper} {rest : List Oper} {o : Oper} {a : Act} {Q : Exit → Act → World → Prop} (hgd : o.guard = none) (s x : Operand) (t tx : TypeId)
  (ho : o.op = .call { callee := .builtin .append, args := #[s, x], argTypes := #[t, tx] })
  (base : Nat) (e : TypeId) (i : TypeInfo) (z : Value) (bytes : Nat) (k : IntKind) (ht : P.underlying t = some (.slice e)) (htx : P.underlying tx = some (.int k)) (hi : P.info? e = some i) (hz : i.zero = some z)
  (hsize : i.size = 1) (hby : i.bytes = bytes) (hzc : z.cells = #[z]) (hz1 : z.oneCell' = true)
  (v : Value) (n : Nat) (xs : List Value) (hs : a.eval s = v) (hown : w.ownsRow base e 1 v n xs) (m : Nat) (hx : a.eval x = .int .i64 (m : Int)) (h63 : n + m ≤ maxLen) (hbytes : (n + m) * bytes ≤ 140737488355328) (hbase : base ≤ w.heap.size) (hm : 0 < m)
  (h : ∀ v' w', w'.ownsRow base e 1 v' (n + m) (xs ++ List.replicate m z) → w.grownBy w' v.ownBlock → (v'.ownBlock = v.ownBlock ∨ v'.ownBlock = some w.heap.size) → wpList P ops Q rest (a.put o.dst v') w') : wpList P ops Q (o :: rest) a w := by
 refine wpList_plain hgd fun K hK => ?_
 obtain ⟨v', w', hr, h2, h3, h5⟩ := nH (P := P) w base t tx o.type e i z bytes k ht htx hi hz hsize hby hzc hz1 v n xs hown m h63 hbytes hbase hm
 unfold Oper.wp execOp
 simp only [ho, resolve, invoke, builtin, Sem.run_bind, Sem.run_pure, Result.andThen_ok, List.map_toArray, List.map_cons, List.map_nil, hs, hx, hr]
 exact hK _ _ (h v' w' h2 h3 h5)
end
def fK {α : Type} (M : Nat) (f : Nat → α) : List α := (List.range M).map f
theorem qo {α : Type} (M : Nat) (f : Nat → α) : (fK M f).length = M := by simp [fK]
theorem uU {α : Type} (M : Nat) (f : Nat → α) (i : Nat) (h : i < M) : (fK M f)[i]? = some (f i) := by simp [fK, h]
theorem wF {α : Type} (M : Nat) (f : Nat → α) (i : Nat) (b : α) : (fK M f).set i b = fK M (fun p => if p = i then b else f p) := by
 apply List.ext_getElem?
 intro p
 rw [List.getElem?_set]
 unfold fK
 by_cases h : i = p
 ·subst h
  by_cases hp : i < M <;> simp [hp]
 ·rw [if_neg h]
  by_cases hp : p < M
  ·simp [hp]
   intro e
   exact absurd e.symm h
  ·simp [hp]
theorem eH {α : Type} (M : Nat) (f g : Nat → α) (h : ∀ p, p < M → f p = g p) : fK M f = fK M g := by
 unfold fK
 exact List.map_congr_left fun p hp => h p (List.mem_range.1 hp)
theorem qp {w : World} {base : Nat} {e : TypeId} {g n cap : Nat} {xs : List Value} (i : Nat) (v : Value) (h : w.ownsRow base e 1 (.slice (some ⟨g, 0, none⟩) n cap) n xs) :
  (w.setCell ⟨g, i, none⟩ v).ownsRow base e 1 (.slice (some ⟨g, 0, none⟩) n cap) n (xs.set i v) := by
 obtain ⟨hl, h⟩ := h
 rcases h with ⟨h, _⟩ | ⟨g', cap', cur, hv, hb, hg, hn, hm, hs, ht⟩
 ·cases h
 ·simp only [Value.slice.injEq, Option.some.injEq, Addr.mk.injEq, and_true, true_and] at hv
  obtain ⟨rfl, rfl⟩ := hv
  refine ⟨by simpa using hl, .inr ⟨g, cap, cur.setIfInBounds i v, rfl, hb, aQ hg rfl, hn, hm, by simpa using hs, ?_⟩⟩
  rw [Array.toList_setIfInBounds, List.take_set, ht]
def bn (w : World) (S : Nat → Prop) (own : Bool) (l : List Int) (v : Value) : Prop := Sl w S own 1 l.length (ints l) v
def aX (w : World) (S : Nat → Prop) (own : Bool) (l : List Ed) (v : Value) : Prop := Sl w S own 9 l.length (bD l) v
def aL (w : World) (S : Nat → Prop) (own : Bool) (c : Crt) (v : Value) : Prop := ∃ ov wv, v = .agg #[.int .i64 c.k, ov, .int .i64 c.p, .int .i64 c.q, wv] ∧ bn w S own c.o ov ∧ aX w S own c.w wv
theorem bn.keep {w w' : World} {S S' : Nat → Prop} {own : Bool} {l : List Int} {v : Value} (h : bn w S own l v) (hk : eu S w w') (hS : ∀ b, b < w.heap.size → S b → S' b) : bn w' S' own l v := Sl.keep h (by omega) hk hS
theorem aX.keep {w w' : World} {S S' : Nat → Prop} {own : Bool} {l : List Ed} {v : Value} (h : aX w S own l v) (hk : eu S w w') (hS : ∀ b, b < w.heap.size → S b → S' b) : aX w' S' own l v := Sl.keep h (by omega) hk hS
theorem bn.below {B : Nat} {w w' : World} {S : Nat → Prop} {own : Bool} {l : List Int} {v : Value} (h : bn w S own l v) (hb : Below B w w') (hB : w.heap.size ≤ B) : bn w' S own l v := Sl.below h (by omega) hb hB
theorem aX.below {B : Nat} {w w' : World} {S : Nat → Prop} {own : Bool} {l : List Ed} {v : Value} (h : aX w S own l v) (hb : Below B w w') (hB : w.heap.size ≤ B) : aX w' S own l v := Sl.below h (by omega) hb hB
theorem aL.keep {w w' : World} {S S' : Nat → Prop} {own : Bool} {c : Crt} {v : Value} (h : aL w S own c v) (hk : eu S w w') (hS : ∀ b, b < w.heap.size → S b → S' b) : aL w' S' own c v := by
 obtain ⟨ov, wv, h1, h2, h3⟩ := h
 exact ⟨ov, wv, h1, h2.keep hk hS, h3.keep hk hS⟩
theorem aL.below {B : Nat} {w w' : World} {S : Nat → Prop} {own : Bool} {c : Crt} {v : Value} (h : aL w S own c v) (hb : Below B w w') (hB : w.heap.size ≤ B) : aL w' S own c v := h.keep (Below.keeps hb hB S) fun _ _ h => h
theorem aL.unown {w : World} {S : Nat → Prop} {own : Bool} {c : Crt} {v : Value} (h : aL w S own c v) : aL w S false c v := by
 obtain ⟨ov, wv, h1, h2, h3⟩ := h
 exact ⟨ov, wv, h1, Sl.unown h2, Sl.unown h3⟩
theorem aL.shape {w : World} {S : Nat → Prop} {own : Bool} {c : Crt} {v : Value} (h : aL w S own c v) : ∃ ad cp ad' cp', v = .agg #[.int .i64 c.k, .slice ad c.o.length cp, .int .i64 c.p, .int .i64 c.q, .slice ad' c.w.length cp'] ∧ bn w S own c.o (.slice ad c.o.length cp) ∧ aX w S own c.w (.slice ad' c.w.length cp') ∧
  c.o.length ≤ 9223372036854775807 ∧ c.w.length ≤ 9223372036854775807 ∧ c.o.length ≤ cp ∧ c.w.length ≤ cp' := by
 obtain ⟨ov, wv, rfl, h2, h3⟩ := h
 obtain ⟨_, l1, ad, cp, rfl, k1⟩ := Sl.shape h2
 obtain ⟨_, l2, ad', cp', rfl, k2⟩ := Sl.shape h3
 exact ⟨ad, cp, ad', cp', rfl, h2, h3, l1, l2, k1, k2⟩
theorem wG (l : List Int) : ∀ u ∈ ints l, u.oneCell' = true := by
 intro u hu
 obtain ⟨n, _, rfl⟩ := List.mem_map.1 hu
 rfl
theorem Ce (l : List Ed) : ∀ u ∈ bD l, u.oneCell' = true := by
 intro u hu
 obtain ⟨e, _, hu⟩ := List.mem_flatMap.1 hu
 simp only [Ed.vals, List.mem_cons, List.not_mem_nil, or_false] at hu
 rcases hu with rfl | rfl | rfl | rfl | rfl | rfl | rfl | rfl | rfl <;> rfl
theorem dG (a b : List Ed) : bD (a ++ b) = bD a ++ bD b := by simp [bD]
theorem fF (a b : List Int) : ints (a ++ b) = ints a ++ ints b := by simp [ints]
theorem uV : ∀ (l : List Ed) (j f : Nat) (h : j < l.length), f < 9 → (bD l)[j * 9 + f]? = l[j].vals[f]?
 | e :: l, 0, f, h, hf => by
  have : (e.vals).length = 9 := rfl
  unfold bD
  rw [List.flatMap_cons, List.getElem?_append_left (by omega)]; simp
 | e :: l, j + 1, f, h, hf => by
  have h9 : (e.vals).length = 9 := rfl
  unfold bD
  rw [List.flatMap_cons, List.getElem?_append_right (by omega)]
  have := uV l j f (by simpa using h) hf
  unfold bD at this
  rw [show (j + 1) * 9 + f - e.vals.length = j * 9 + f from by omega, this]; simp
theorem bn.cell {w : World} {S : Nat → Prop} {own : Bool} {l : List Int} {ad : Option Addr} {cap : Nat} (h : bn w S own l (.slice ad l.length cap)) (hn : 0 < l.length) :
  ∃ bl off, ad = some ⟨bl, off, none⟩ ∧ S bl ∧ bl < w.heap.size ∧ ∀ j (h : j < l.length), w.cell? ⟨bl, off + j, none⟩ = some (.int .i64 l[j]) ∧ (own = true → w.frozen? ⟨bl, off + j, none⟩ = false) := by
 obtain ⟨bl, off, ha, hS, hc⟩ := Sl.cells h hn
 have hc0 := hc 0 (by rw [ol]; exact hn)
 refine ⟨bl, off, ha, hS, World.block_lt_of_cell? w _ hc0.1, fun j hj => ?_⟩
 have := hc j (by rw [ol]; exact hj)
 simpa [ints] using this
theorem aX.cell {w : World} {S : Nat → Prop} {own : Bool} {l : List Ed} {ad : Option Addr} {cap : Nat} (h : aX w S own l (.slice ad l.length cap)) (hn : 0 < l.length) :
  ∃ bl off, ad = some ⟨bl, off, none⟩ ∧ S bl ∧ bl < w.heap.size ∧ ∀ j (h : j < l.length), (w.cell? ⟨bl, off + j * 9, none⟩ = some (.int .i64 l[j].a) ∧ w.cell? ⟨bl, off + j * 9 + 1, none⟩ = some (.int .i64 l[j].b) ∧ w.cell? ⟨bl, off + j * 9 + 2, none⟩ = some (.int .i64 l[j].k) ∧
   w.cell? ⟨bl, off + j * 9 + 3, none⟩ = some (.int .u64 (l[j].x : Nat)) ∧ w.cell? ⟨bl, off + j * 9 + 4, none⟩ = some (.int .u64 (l[j].sw : Nat)) ∧ w.cell? ⟨bl, off + j * 9 + 5, none⟩ = some (.int .u64 (l[j].sn : Nat)) ∧
   w.cell? ⟨bl, off + j * 9 + 6, none⟩ = some (.int .u64 (l[j].mw : Nat)) ∧ w.cell? ⟨bl, off + j * 9 + 7, none⟩ = some (.int .u64 (l[j].mn : Nat)) ∧ w.cell? ⟨bl, off + j * 9 + 8, none⟩ = some (.int .i64 l[j].p)) ∧ (own = true → ∀ f, f < 9 → w.frozen? ⟨bl, off + j * 9 + f, none⟩ = false) := by
 obtain ⟨bl, off, ha, hS, hc⟩ := Sl.cells h hn
 have hlen := jW l
 have key : ∀ j (hj : j < l.length) f, f < 9 → w.cell? ⟨bl, off + j * 9 + f, none⟩ = l[j].vals[f]? := fun j hj f hf => by
  have hjl : j * 9 + f < (bD l).length := by omega
  have := (hc (j * 9 + f) hjl).1
  rw [← List.getElem?_eq_getElem hjl, uV l j f hj hf] at this
  rw [Nat.add_assoc]; exact this
 refine ⟨bl, off, ha, hS, ?_, fun j hj => ⟨⟨key j hj 0 (by omega), key j hj 1 (by omega), key j hj 2 (by omega), key j hj 3 (by omega), key j hj 4 (by omega), key j hj 5 (by omega), key j hj 6 (by omega), key j hj 7 (by omega), key j hj 8 (by omega)⟩, fun ho f hf => ?_⟩⟩
 ·exact World.block_lt_of_cell? w ⟨bl, off + 0 * 9 + 0, none⟩ (key 0 hn 0 (by omega))
 ·have := (hc (j * 9 + f) (by omega)).2 ho
  rw [Nat.add_assoc]; exact this
theorem bn.of_owns {w : World} {base : Nat} {T : TypeId} {v : Value} {l : List Int} (h : w.ownsRow base T 1 v l.length (ints l)) : bn w (fun b => base ≤ b) true l v := (Sl.of_owns h (by omega)).keep (by omega) (fun _ _ _ => rfl) fun _ _ h => h.2
theorem aX.of_owns {w : World} {base : Nat} {T : TypeId} {v : Value} {l : List Ed} (h : w.ownsRow base T 9 v l.length (bD l)) : aX w (fun b => base ≤ b) true l v := (Sl.of_owns h (by omega)).keep (by omega) (fun _ _ _ => rfl) fun _ _ h => h.2
theorem bn.nil (w : World) (S : Nat → Prop) (own : Bool) : bn w S own [] (.slice none 0 0) := Sl.nil _ _ _ _
theorem aX.nil (w : World) (S : Nat → Prop) (own : Bool) : aX w S own [] (.slice none 0 0) := Sl.nil _ _ _ _
def lV (w : World) (c : Crt) (r : Ending) (w' : World) : Prop := ∃ v, r = .returned v ∧ aL w' (fun b => w.heap.size ≤ b) true c v ∧ Below w.heap.size w w'
section
variable {P : Program} (w : World)
theorem oZ (t tx ty e : TypeId) (i : TypeInfo) (z : Value) (size bytes : Nat) (k : IntKind) (ht : P.underlying t = some (.slice e)) (htx : P.underlying tx = some (.int k)) (hi : P.info? e = some i) (hz : i.zero = some z)
  (hsize : i.size = size) (hby : i.bytes = bytes) (hzs : z.cells.size = size) (h0 : 0 < size) (m : Nat) (h63 : m ≤ maxLen) (hbytes : m * bytes ≤ 140737488355328) (hm : 0 < m) :
  ∃ cap cur w', (Builtin.append_ #[t, tx] ty #[.slice none 0 0, .int .i64 (m : Int)]).run P w = .ok (.slice (some ⟨w.heap.size, 0, none⟩) m cap) w' ∧ w' = w.drew.alloc (.cells cur e) ∧ m ≤ cap ∧ cap ≤ maxLen ∧ cur.size = cap * size ∧ cur.toList.take (m * size) = (Builtin.zeroCells z.cells m).toList := by
 subst hby
 have hsmall : m ≤ 9223372036854775807 := by simp only [maxLen] at h63; omega
 have hwr : IntKind.i64.wrap (m : Int) = (m : Int) := by simp only [IntKind.wrap, IntKind.signed, IntKind.bits]; simp; omega
 have hneg : ¬ ((m : Int) < 0) := by omega
 have hbig : ¬ (281474976710656 < (m : Int) * (i.bytes : Int)) := by
  have : ((m * i.bytes : Nat) : Int) = (m : Int) * (i.bytes : Int) := by simp
  omega
 have hge := grownCap_ge w m 0 e
 have hcm : grownCap w m 0 e ≤ maxLen := grownCap_le_maxLen w m 0 e h63
 have hz0 : ¬ (m = 0) := by omega
 have hs0 : ¬ (size = 0) := by omega
 have hfit := growslice_fits (old := 0) (need := m) (by omega) hbytes
 have h63' : ¬ (9223372036854775807 < (m : Int)) := by omega
 have h48' : ¬ (281474976710656 < Builtin.nextslicecap m 0 * i.bytes) := by omega
 refine ⟨grownCap w m 0 e, Builtin.zeroCells z.cells m ++ Builtin.zeroCells z.cells (grownCap w m 0 e - m), _, ?_, rfl, hge, hcm, ?_, ?_⟩
 ·simp [Builtin.append_, run_underlying ht, run_underlying htx, sizeOf, typeInfo, zeroValue, hi, hz, hsize, asInt, asIntOf, hwr, hneg, hbig, hz0, hs0, h63', h48', Question.forced, newRow, grownCap, Builtin.firstCells]
  exact fun h => absurd h (Nat.ne_of_gt (Nat.mul_pos hm h0))
 ·rw [Array.size_append, size_zeroCells, size_zeroCells, hzs, ← Nat.add_mul, Nat.add_sub_cancel' hge]
 ·rw [Array.toList_append, List.take_append_of_le_length (by simp [size_zeroCells, hzs]), List.take_of_length_le (by simp [size_zeroCells, hzs])]
theorem jX {o : Oper} {a : Act} {K : Act → World → Prop} {Q : Exit → Act → World → Prop} (s x : Operand) (t tx : TypeId) (ho : o.op = .call { callee := .builtin .append, args := #[s, x], argTypes := #[t, tx] })
  (e : TypeId) (i : TypeInfo) (z : Value) (size bytes : Nat) (k : IntKind) (ht : P.underlying t = some (.slice e)) (htx : P.underlying tx = some (.int k)) (hi : P.info? e = some i) (hz : i.zero = some z)
  (hsize : i.size = size) (hby : i.bytes = bytes) (hzs : z.cells.size = size) (h0 : 0 < size) (m : Nat) (h63 : m ≤ maxLen) (hbytes : m * bytes ≤ 140737488355328) (hm : 0 < m) (hs : a.eval s = .slice none 0 0) (hx : a.eval x = .int .i64 (m : Int))
  (h : ∀ cap cur, m ≤ cap → cap ≤ maxLen → cur.size = cap * size → cur.toList.take (m * size) = (Builtin.zeroCells z.cells m).toList → K (a.put o.dst (.slice (some ⟨w.heap.size, 0, none⟩) m cap)) (w.drew.alloc (.cells cur e))) : Oper.wp P o a w K Q := by
 obtain ⟨cap, cur, w', hr, rfl, h1, h2, h3, h4⟩ := oZ (P := P) w t tx o.type e i z size bytes k ht htx hi hz hsize hby hzs h0 m h63 hbytes hm
 unfold Oper.wp execOp
 simp only [ho, resolve, invoke, builtin, Sem.run_bind, Sem.run_pure, Result.andThen_ok, List.map_toArray, List.map_cons, List.map_nil, hs, hx, hr]
 exact h cap cur h1 h2 h3 h4
end
theorem lG (cs : Array Value) (m : Nat) : (Builtin.zeroCells cs m).toList = fK (m * cs.size) (fun p => cs[p % cs.size]!) := by
 unfold Builtin.zeroCells fK
 simp
def Ae (T : TypeId) (sz n : Nat) (xs : List Value) (S : Nat → Prop) (v : Value) (w : World) : Prop := ∃ g cap cur, v = .slice (some ⟨g, 0, none⟩) n cap ∧ S g ∧ w.heap[g]? = some (.cells cur T (0, 0)) ∧ n ≤ cap ∧ cap ≤ maxLen ∧ cur.size = cap * sz ∧ cur.toList.take (n * sz) = xs ∧ xs.length = n * sz
theorem yA (T : TypeId) (sz n : Nat) (xs : List Value) : eG (Ae T sz n xs) := by
 rintro S S' v w w' hk hs hS ⟨g, cap, cur, h1, h2, h3, h4⟩
 have hlt := (Array.getElem?_eq_some_iff.1 h3).1
 exact ⟨g, cap, cur, h1, hS g hlt h2, (hk g h2 hlt).trans h3, h4⟩
theorem Ae.owns {T : TypeId} {sz n : Nat} {xs : List Value} {S : Nat → Prop} {v : Value} {w : World} {base : Nat} (h : Ae T sz n xs S v w) (hS : ∀ b, S b → base ≤ b) : ∃ g cap, v = .slice (some ⟨g, 0, none⟩) n cap ∧ S g ∧ w.ownsRow base T sz v n xs := by
 obtain ⟨g, cap, cur, h1, h2, h3, h4, h5, h6, h7, h8⟩ := h
 exact ⟨g, cap, h1, h2, h8, .inr ⟨g, cap, cur, h1, hS g h2, h3, h4, h5, h6, h7⟩⟩
theorem fD {w w' : World} {b o : Nat} (v : Value) (h : w'.heap[b]? = w.heap[b]?) : (w'.setCell ⟨b, o, none⟩ v).heap[b]? = (w.setCell ⟨b, o, none⟩ v).heap[b]? := by
 simp only [World.setCell, Array.getElem?_modify, if_true, h]
theorem qw {w w' : World} {base : Nat} {e : TypeId} {g n cap sz : Nat} {xs : List Value} (i : Nat) (v : Value) (h : w.ownsRow base e sz (.slice (some ⟨g, 0, none⟩) n cap) n xs) (hk : w'.heap[g]? = (w.setCell ⟨g, i, none⟩ v).heap[g]?) :
  w'.ownsRow base e sz (.slice (some ⟨g, 0, none⟩) n cap) n (xs.set i v) := by
 obtain ⟨hl, h⟩ := h
 rcases h with ⟨h, _⟩ | ⟨g', cap', cur, hv, hb, hg, hn, hm, hs, ht⟩
 ·cases h
 ·simp only [Value.slice.injEq, Option.some.injEq, Addr.mk.injEq, and_true, true_and] at hv
  obtain ⟨rfl, rfl⟩ := hv
  refine ⟨by simpa using hl, .inr ⟨g, cap, cur.setIfInBounds i v, rfl, hb, hk.trans (aQ hg rfl), hn, hm, by simpa using hs, ?_⟩⟩
  rw [Array.toList_setIfInBounds, List.take_set, ht]
theorem fG {w : World} {base g n cap sz : Nat} {T : TypeId} {xs : List Value} (h : w.ownsRow base T sz (.slice (some ⟨g, 0, none⟩) n cap) n xs) (i : Nat) (hi : i < n * sz) : w.cell? ⟨g, i, none⟩ = xs[i]? ∧ w.frozen? ⟨g, i, none⟩ = false ∧ g < w.heap.size ∧ base ≤ g := by
 obtain ⟨hl, h⟩ := h
 rcases h with ⟨h, _⟩ | ⟨g', cap', cur, hv, hb, hg, hn, hm, hs, ht⟩
 ·cases h
 ·simp only [Value.slice.injEq, Option.some.injEq, Addr.mk.injEq, and_true, true_and] at hv
  obtain ⟨rfl, rfl⟩ := hv
  refine ⟨?_, frozen_of_row w g i _ _ hg, (Array.getElem?_eq_some_iff.1 hg).1, hb⟩
  rw [cell_of_row w g i _ _ _ hg, ← Array.getElem?_toList, ← ht, List.getElem?_take, if_pos hi]
theorem bZ {w w' : World} {base : Nat} {e : TypeId} {sz n : Nat} {v : Value} {xs : List Value} (h : w.ownsRow base e sz v n xs) (hk : ∀ g, v.ownBlock = some g → w'.heap[g]? = w.heap[g]?) : w'.ownsRow base e sz v n xs := by
 obtain ⟨hl, h⟩ := h
 refine ⟨hl, ?_⟩
 rcases h with h | ⟨g, cap, cur, rfl, hb, hg, r⟩
 ·exact .inl h
 ·exact .inr ⟨g, cap, cur, rfl, hb, (hk g rfl).trans hg, r⟩
structure Kx (X : Nat → Prop) (w w' : World) : Prop where
 os : w'.os = w.os
 tape : w'.tape = w.tape
 output : w'.output = w.output
 size : w.heap.size ≤ w'.heap.size
 keep : ∀ b, b < w.heap.size → ¬ X b → w'.heap[b]? = w.heap[b]?
theorem Kx.refl (X : Nat → Prop) (w : World) : Kx X w w := ⟨rfl, rfl, rfl, Nat.le_refl _, fun _ _ _ => rfl⟩
theorem Kx.trans {X : Nat → Prop} {a b c : World} (h : Kx X a b) (k : Kx X b c) : Kx X a c :=
 ⟨k.os.trans h.os, k.tape.trans h.tape, k.output.trans h.output, Nat.le_trans h.size k.size, fun i hi hn => (k.keep i (by have := h.size; omega) hn).trans (h.keep i hi hn)⟩
theorem Kx.trans' {X Y : Nat → Prop} {a b c : World} (h : Kx X a b) (k : Kx Y b c) (hY : ∀ i, Y i → i < a.heap.size → X i) : Kx X a c :=
 ⟨k.os.trans h.os, k.tape.trans h.tape, k.output.trans h.output, Nat.le_trans h.size k.size, fun i hi hn => (k.keep i (by have := h.size; omega) (fun hy => hn (hY i hy hi))).trans (h.keep i hi hn)⟩
theorem Kx.of_below {X : Nat → Prop} {w w' : World} (h : Below w.heap.size w w') : Kx X w w' := ⟨h.os, h.tape, h.output, h.size, fun b hb _ => h.block b hb⟩
theorem Kx.setCell {X : Nat → Prop} {w w' : World} (h : Kx X w w') {b o : Nat} (hX : X b) (v : Value) : Kx X w (w'.setCell ⟨b, o, none⟩ v) :=
 h.trans ⟨rfl, rfl, rfl, by simp, fun c _ hn => Below.heap_setCell _ _ _ _ (fun e => hn (by rw [e]; exact hX))⟩
theorem Kx.one (w : World) (b o : Nat) (v : Value) : Kx (fun c => c = b) w (w.setCell ⟨b, o, none⟩ v) := Kx.setCell (X := fun c => c = b) (Kx.refl _ _) rfl v
theorem Kx.wider {X Y : Nat → Prop} {w w' : World} (h : Kx X w w') (hY : ∀ b, b < w.heap.size → X b → Y b) : Kx Y w w' := ⟨h.os, h.tape, h.output, h.size, fun b hb hn => h.keep b hb (fun hx => hn (hY b hb hx))⟩
theorem Kx.below {X : Nat → Prop} {w w' : World} {B : Nat} (h : Kx X w w') (hB : B ≤ w.heap.size) (hX : ∀ b, X b → B ≤ b) : Below B w w' := ⟨h.os, h.tape, h.output, h.size, fun b hb => h.keep b (by omega) (fun hx => by have := hX b hx; omega)⟩
structure CB (TX : TypeId) (c base : Nat) (row : Array Value) (T : TypeId) (sz : Nat) (v : Value) (n : Nat) (xs : List Value) (W wr : World) : Prop where
 old : Below c W wr
 cb : c < base
 size : base ≤ wr.heap.size
 row : wr.heap[c]? = some (.cells row TX (0, 0))
 own : wr.ownsRow base T sz v n xs
section
variable {TX : TypeId} {W wr wx w2 : World} {c base : Nat} {row : Array Value} {T : TypeId} {sz n n' : Nat} {v v' : Value} {xs xs' : List Value}
theorem CB.below (h : CB TX c base row T sz v n xs W wr) (hb : Below wr.heap.size wr w2) : CB TX c base row T sz v n xs W w2 := by
 have h2 := h.cb; have h3 := h.size
 exact ⟨h.old.trans (hb.mono (by omega)), h2, by have := hb.size; omega, (hb.block _ (by omega)).trans h.row, ownsRow_below h.own hb nl⟩
theorem CB.append (h : CB TX c base row T sz v n xs W wr) (hb : Below wr.heap.size wr wx) (hg : wx.grownBy w2 v.ownBlock) (ho : w2.ownsRow base T sz v' n' xs') : CB TX c base row T sz v' n' xs' W w2 := by
 have h1 := h.below hb
 have h4 := h.cb
 have h2 := h1.size
 have hlt := h1.own.lt
 have hne : ∀ b, b < base → some b ≠ v.ownBlock := fun b hb e => by have := (hlt b e.symm).1; omega
 exact ⟨h1.old.grown hg (by omega) (fun k hk => by have := (hlt k hk).1; omega), h4, by have := hg.size; omega, (hg.block _ (by omega) (hne _ (by omega))).trans h1.row, ho⟩
theorem CB.store (h : CB TX c base row T sz v n xs W wr) (o : Nat) (u : Value) : CB TX c base (row.setIfInBounds o u) T sz v n xs W (wr.setCell ⟨c, o, none⟩ u) := by
 have h4 := h.cb; have h2 := h.size
 have hlt := h.own.lt
 exact ⟨h.old.setCell (by simp) _, h4, by simpa using h2, aQ h.row rfl, bZ h.own fun g hg => Below.heap_setCell _ _ _ _ (by have := (hlt g hg).1; simp; omega)⟩
theorem CB.row' (h : CB TX c base row T sz v n xs W wr) {T' : TypeId} {sz' : Nat} (ho : wr.ownsRow base T' sz' v' n' xs') : CB TX c base row T' sz' v' n' xs' W wr :=
 ⟨h.old, h.cb, h.size, h.row, ho⟩
theorem CB.cells {a0 a1 a2 a3 a4 : Value} (h : CB TX c base #[a0, a1, a2, a3, a4] T sz v n xs W wr) : wr.cell? ⟨c, 0, none⟩ = some a0 ∧ wr.cell? ⟨c, 1, none⟩ = some a1 ∧ wr.cell? ⟨c, 2, none⟩ = some a2 ∧ wr.cell? ⟨c, 3, none⟩ = some a3 ∧ wr.cell? ⟨c, 4, none⟩ = some a4 ∧ ∀ o, wr.frozen? ⟨c, o, none⟩ = false := by
 refine ⟨?_, ?_, ?_, ?_, ?_, fun o => by rw [frozen_of_row wr _ o _ _ h.row]⟩
 all_goals (rw [cell_of_row wr _ _ _ _ _ h.row]; rfl)
theorem CB.oldCell (h : CB TX c base row T sz v n xs W wr) {b o : Nat} (hb : b < c) : wr.cell? ⟨b, o, none⟩ = W.cell? ⟨b, o, none⟩ := World.cell?_of_block (w := W) (a := ⟨b, o, none⟩) (h.old.block b hb)
theorem CB.lt (h : CB TX c base row T sz v n xs W wr) : c < wr.heap.size := (Array.getElem?_eq_some_iff.1 h.row).1
end
end Go.Proofs.YtagnalfkmdjajaaGreatDoor
