/- The law PredBack, walked. Ahead of it: Texts told and read, what is turned, both: plain Lean. -/
import Derived.Test.YtohjkejdkhdjbaaGreatDoorQ9
import Derived.Test.YtohjkejdkhdjbaaGreatDoorQT03
import Derived.Test.YtohjkejdkhdjbaaGreatDoorQ5
import Derived.Test.YtohjkejdkhdjbaaGreatDoorQW04j
import Derived.Test.YtohjkejdkhdjbaaGreatDoorQW04n
import Derived.Test.YtohjkejdkhdjbaaGreatDoorQ10
import Derived.Deep.DeepFit
import Derived.Deep.CutRange
import Derived.Deep.RegionHeld3
import Derived.Deep.RegionLaw
namespace Go.Proofs.YtohjkejdkhdjbaaGreatDoor
open Go.RowKit Go
set_option linter.unusedVariables false
set_option linter.unusedSimpArgs false
theorem rdText_text {e : Ex} (h : e.right = true) (hn : e.nums) : rdText e.text = some e := by
  obtain ⟨h1, h2, _⟩ := right_parts h
  have ht : e.text = e.told := by unfold Ex.text; rw [if_pos h]
  have := rfE_told e 8 [] h1 hn h2 (by intro c hc; cases hc)
  rw [List.append_nil, ← ht] at this
  rw [rdText_of this, if_pos ⟨rfl, h⟩]
theorem text_inj {p q : Ex} (hp : p.right = true) (hq : q.right = true) (np : p.nums) (nq : q.nums) : decide (p.text = q.text) = p.same q := by
  rw [Ex.same_eq]
  by_cases h : p = q
  · subst h; simp
  · have : p.text ≠ q.text := by
      intro e
      have h1 := rdText_text hp np
      rw [e, rdText_text hq nq] at h1
      injection h1 with h1
      exact h h1.symm
    simp [h, this]
theorem asks_not (a b x v : Nat) (p : Ex) : (Ex.mk 5 a b [p]).asks x v = !(p.asks x v) := by
  have h : ∀ c, askN 5 a b c 1 x v = (c == 0) := fun c => by simp [askN]
  show askN 5 a b (Ex.asked x v [p]) 1 x v = _
  rw [h]
  simp only [Ex.asked]
  cases p.asks x v <;> simp
theorem turn_holds {p : Ex} (hp : p.right = true) (ht : p.turn.right = true) (x v : Nat) : p.turn.holds x v = !(p.holds x v) := by
  obtain ⟨k, a, b, ps⟩ := p
  unfold Ex.holds
  rw [hp, ht, Bool.true_and, Bool.true_and]
  simp only [Ex.turn]
  by_cases h : k = 5 ∧ ps.length = 1
  · obtain ⟨rfl, h1⟩ := h
    rw [turn_pos h1]
    match ps, h1 with
    | [e], _ => rw [asks_not]; simp
  · rw [turn_neg h, asks_not]
theorem both_holds {p q : Ex} (hp : p.right = true) (hq : q.right = true) (hb : (Ex.mk 6 0 0 [p, q]).right = true) (x v : Nat) : (Ex.mk 6 0 0 [p, q]).holds x v = (p.holds x v && q.holds x v) := by
  unfold Ex.holds
  rw [hp, hq, hb]
  simp only [Bool.true_and]
  have h : ∀ c, askN 6 0 0 c 2 x v = (c == 2) := fun c => by simp [askN]
  show askN 6 0 0 (Ex.asked x v [p, q]) 2 x v = _
  rw [h]
  simp only [Ex.asked]
  cases p.asks x v <;> cases q.asks x v <;> simp
theorem not_right {p : Ex} (h : p.right = false) (x v : Nat) : p.put = [] ∧ p.text = [] ∧ p.holds x v = false := by
  refine ⟨by unfold Ex.put; rw [h]; rfl, by unfold Ex.text; rw [h]; rfl, by unfold Ex.holds; rw [h]; rfl⟩
theorem put_len {p : Ex} : p.put.length ≤ 31 * p.size := by
  unfold Ex.put; split
  · exact Ex.st_length p
  · simp
end Go.Proofs.YtohjkejdkhdjbaaGreatDoor
namespace Go.Proofs.YtohjkejdkhdjbaaGreatDoor
open Go.RowKit Go
set_option linter.unusedVariables false
set_option linter.unusedSimpArgs false
/-- Two boxes, one behind the other, with trees; the library's variables. -/
structure Bk (B g : Nat) (S : Nat → Prop) (p q : Ex) (cp cq : Array Value) (w : World) : Prop where
  hp : w.heap[g]? = some (.cells cp 26 (0, 0))
  hq : w.heap[g + 1]? = some (.cells cq 26 (0, 0))
  rp : RepE w S false p (.agg cp)
  rq : RepE w S false q (.agg cq)
  lv : Lv B w
  lb : B ≤ w.heap.size
theorem Bk.below {B g : Nat} {S : Nat → Prop} {p q : Ex} {cp cq : Array Value} {w w' : World} (h : Bk B g S p q cp cq w) (hb : Below w.heap.size w w') : Bk B g S p q cp cq w' :=
  ⟨(hb.block _ (Array.getElem?_eq_some_iff.1 h.hp).1).trans h.hp, (hb.block _ (Array.getElem?_eq_some_iff.1 h.hq).1).trans h.hq, h.rp.below hb (Nat.le_refl _), h.rq.below hb (Nat.le_refl _), h.lv.below (hb.mono h.lb), Nat.le_trans h.lb hb.size⟩
theorem Bk.lt {B g : Nat} {S : Nat → Prop} {p q : Ex} {cp cq : Array Value} {w : World} (h : Bk B g S p q cp cq w) : g < w.heap.size ∧ g + 1 < w.heap.size := ⟨(Array.getElem?_eq_some_iff.1 h.hp).1, (Array.getElem?_eq_some_iff.1 h.hq).1⟩
theorem Bk.cells {B g : Nat} {S : Nat → Prop} {p q : Ex} {a0 a1 a2 a3 b0 b1 b2 b3 : Value} {w : World} (h : Bk B g S p q #[a0, a1, a2, a3] #[b0, b1, b2, b3] w) :
    (w.cell? ⟨g, 0, none⟩ = some a0 ∧ w.cell? ⟨g, 1, none⟩ = some a1 ∧ w.cell? ⟨g, 2, none⟩ = some a2 ∧ w.cell? ⟨g, 3, none⟩ = some a3) ∧
    (w.cell? ⟨g + 1, 0, none⟩ = some b0 ∧ w.cell? ⟨g + 1, 1, none⟩ = some b1 ∧ w.cell? ⟨g + 1, 2, none⟩ = some b2 ∧ w.cell? ⟨g + 1, 3, none⟩ = some b3) := by
  refine ⟨⟨?_, ?_, ?_, ?_⟩, ?_, ?_, ?_, ?_⟩
  · rw [cell_of_row w _ 0 _ _ _ h.hp]; rfl
  · rw [cell_of_row w _ 1 _ _ _ h.hp]; rfl
  · rw [cell_of_row w _ 2 _ _ _ h.hp]; rfl
  · rw [cell_of_row w _ 3 _ _ _ h.hp]; rfl
  · rw [cell_of_row w _ 0 _ _ _ h.hq]; rfl
  · rw [cell_of_row w _ 1 _ _ _ h.hq]; rfl
  · rw [cell_of_row w _ 2 _ _ _ h.hq]; rfl
  · rw [cell_of_row w _ 3 _ _ _ h.hq]; rfl
theorem Bk.lvAt {B g : Nat} {S : Nat → Prop} {p q : Ex} {cp cq : Array Value} {w : World} (h : Bk B g S p q cp cq w) : Lv w.heap.size w := h.lv.mono h.lb
theorem predTake_put (S : Nat → Prop) (own : Bool) (e : Ex) (bh : List UInt8) (v : Value) (w : World) (he : e.right = true) (hn : e.nums) (hr : RepB w S own (e.put ++ bh) v) (hl : bh.length ≤ 40) :
    Calls Tryz.prog 35 #[v, .int .i64 0] w fun r w' => ∃ u, r = .returned (.tuple #[u, .int .i64 (e.put.length : Nat), .int .i64 0]) ∧ RepE w' (fun b => w.heap.size ≤ b) true e u ∧ Below w.heap.size w w' := by
  have h1 := put_len (p := e)
  have h2 := (right_parts he).2.2
  refine (predTakeT_any S own (e.put ++ bh) v 0 w hr (by simp; omega) (by omega) (by omega)).mono ?_
  rintro r w' ⟨u, h3, h4, h5⟩
  rw [tkAt_put he hn bh] at h3 h4
  exact ⟨u, h3, h4, h5⟩
theorem predParse_put (S : Nat → Prop) (own : Bool) (e : Ex) (v : Value) (w : World) (he : e.right = true) (hn : e.nums) (hr : RepB w S own e.put v) :
    Calls Tryz.prog 37 #[v] w fun r w' => ∃ u, r = .returned (.tuple #[u, .int .i64 0]) ∧ RepE w' (fun b => w.heap.size ≤ b) true e u ∧ Below w.heap.size w w' := by
  have h1 := put_len (p := e)
  have h2 := (right_parts he).2.2
  refine (predParse_any S own e.put v w hr (by omega)).mono ?_
  rintro r w' ⟨u, h3, h4, h5⟩
  rw [tkAll_put he hn] at h3 h4
  exact ⟨u, h3, h4, h5⟩
theorem predRead_text (e : Ex) (w : World) (he : e.right = true) (hn : e.nums) (hL : Lv w.heap.size w) :
    Calls Tryz.prog 9 #[.string ⟨e.text.toArray⟩] w fun r w' => ∃ u, r = .returned (.tuple #[u, .int .i64 0]) ∧ RepE w' (fun b => w.heap.size ≤ b) true e u ∧ Below w.heap.size w w' := by
  have h1 := Ex.told_len e hn
  have h2 := (right_parts he).2.2
  have h3 : e.text = e.told := by unfold Ex.text; rw [if_pos he]
  refine (predRead_any ⟨e.text.toArray⟩ w (by show e.text.toArray.size ≤ _; simp; rw [h3]; omega) hL).mono ?_
  rintro r w' ⟨u, h4, h5, h6⟩
  have h7 : (ByteArray.mk e.text.toArray).data.toList = e.text := by simp
  rw [h7, rdText_text he hn] at h4 h5
  exact ⟨u, h4, h5, h6⟩
/-- A box with a tree. -/
structure Bx (g : Nat) (e : Ex) (cs : Array Value) (w : World) : Prop where
  h : w.heap[g]? = some (.cells cs 26 (0, 0))
  r : RepE w (fun _ => True) false e (.agg cs)
theorem Bx.below {g : Nat} {e : Ex} {cs : Array Value} {w w' : World} (h : Bx g e cs w) (hb : Below w.heap.size w w') : Bx g e cs w' := ⟨(hb.block _ (Array.getElem?_eq_some_iff.1 h.h).1).trans h.h, h.r.below hb (Nat.le_refl _)⟩
theorem Bx.lt {g : Nat} {e : Ex} {cs : Array Value} {w : World} (h : Bx g e cs w) : g < w.heap.size := (Array.getElem?_eq_some_iff.1 h.h).1
theorem Bx.cells {g : Nat} {e : Ex} {a0 a1 a2 a3 : Value} {w : World} (h : Bx g e #[a0, a1, a2, a3] w) : w.cell? ⟨g, 0, none⟩ = some a0 ∧ w.cell? ⟨g, 1, none⟩ = some a1 ∧ w.cell? ⟨g, 2, none⟩ = some a2 ∧ w.cell? ⟨g, 3, none⟩ = some a3 := by
  refine ⟨?_, ?_, ?_, ?_⟩
  · rw [cell_of_row w _ 0 _ _ _ h.h]; rfl
  · rw [cell_of_row w _ 1 _ _ _ h.h]; rfl
  · rw [cell_of_row w _ 2 _ _ _ h.h]; rfl
  · rw [cell_of_row w _ 3 _ _ _ h.h]; rfl
theorem Bx.new {w1 : World} {S : Nat → Prop} {e : Ex} {a0 a1 a2 a3 : Value} (h : RepE w1 S true e (.agg #[a0, a1, a2, a3])) : Bx w1.heap.size e #[a0, a1, a2, a3] (w1.alloc (.cells #[a0, a1, a2, a3] 26)) :=
  ⟨heap_alloc_new _ _, ((h.below ((Below.refl _ _).alloc (Nat.le_refl _) _) (Nat.le_refl _)).wider (fun _ _ _ => trivial)).unown⟩
theorem turn_size4 (e : Ex) : e.turn.size ≤ e.size + 1 := by
  obtain ⟨k, a, b, ps⟩ := e
  simp only [Ex.turn, turnN]
  split
  · split
    · simp only [Ex.size, Ex.sizes]; omega
    · simp only [Ex.size, Ex.sizes]; omega
  · simp only [Ex.size, Ex.sizes]; omega
set_option maxHeartbeats 20000000 in
set_option maxRecDepth 100000 in
theorem predBack_law (S : Nat → Prop) (own : Bool) (p q : Ex) (pv qv bv : Value) (bh : List UInt8) (x v : Nat) (w : World) (hp : RepE w S false p pv) (hq : RepE w S false q qv) (hb : RepB w S own bh bv) (hx : x < 18446744073709551616) (hv : v < 18446744073709551616) (hL : Lv w.heap.size w) :
    Calls Tryz.prog 6 #[pv, qv, bv, .int .u64 x, .int .u64 v] w fun e w' => e = .returned (.bool true) ∧ Below w.heap.size w w' := by
  obtain ⟨k0, a0, b0, ad0, n0, cap0, rfl⟩ := hp.conc
  obtain ⟨k1, a1, b1, ad1, n1, cap1, rfl⟩ := hq.conc
  obtain ⟨_, bad, bcap, rfl, _⟩ := hb.shape
  have hnp := hp.nums
  have hnq := hq.nums
  have hbX : Below w.heap.size w ((w.alloc (.cells #[.int .i64 k0, .int .u64 a0, .int .u64 b0, .slice ad0 n0 cap0] 26)).alloc (.cells #[.int .i64 k1, .int .u64 a1, .int .u64 b1, .slice ad1 n1 cap1] 26)) := ((Below.refl _ _).alloc (Nat.le_refl _) _).alloc (by simp) _
  obtain ⟨W, hW⟩ : ∃ W, W = ((w.alloc (.cells #[.int .i64 k0, .int .u64 a0, .int .u64 b0, .slice ad0 n0 cap0] 26)).alloc (.cells #[.int .i64 k1, .int .u64 a1, .int .u64 b1, .slice ad1 n1 cap1] 26)) := ⟨_, rfl⟩
  rw [← hW] at hbX
  have hk : Bk w.heap.size w.heap.size S p q #[.int .i64 k0, .int .u64 a0, .int .u64 b0, .slice ad0 n0 cap0] #[.int .i64 k1, .int .u64 a1, .int .u64 b1, .slice ad1 n1 cap1] W := by
    refine ⟨?_, ?_, hp.below hbX (Nat.le_refl _), hq.below hbX (Nat.le_refl _), hL.below hbX, hbX.size⟩
    · rw [hW]; exact (heap_alloc_lt _ _ _ (by simp)).trans (heap_alloc_at _ _ _ rfl)
    · rw [hW]; exact heap_alloc_at _ _ _ (by simp)
  have HBH := Lib.hid (hb.below hbX (Nat.le_refl _))
  have HK := Lib.hid (And.intro hk hbX)
  have HN := Lib.hid (And.intro hnp hnq)
  obtain ⟨l0, l1⟩ := hk.lt
  obtain ⟨⟨p0, p1, p2, p3⟩, q0, q1, q2, q3⟩ := hk.cells
  clear hp hq hb hL hnp hnq hk hbX
  go_enter Tryz.func6, Tryz.ntmps6
  go_wp2_with fail
  rw [← hW]
  clear hW
  go_wp2_with fail
  refine (docFew_any _ _ p _ _ HK.out.1.rp).mono ?_
  rintro e w1 ⟨rfl, hb1⟩
  have HK1 := Lib.hid (And.intro (HK.out.1.below hb1) (HK.out.2.trans (hb1.mono HK.out.2.size)))
  have HBH1 := Lib.hid (HBH.out.below hb1 (Nat.le_refl _))
  clear hb1 p0 p1 p2 p3 q0 q1 q2 q3 l0 l1
  rcases Nat.lt_or_ge 60 p.size with hfp | hfp
  · rw [decide_eq_false (by omega)]
    go_wp2_with fail
    refine (works_any w1 HK1.out.1.lvAt).mono ?_
    rintro e w2 ⟨rfl, hb2⟩
    go_wp2_with fail
    go_ret
    exact ⟨rfl, HK1.out.2.trans (hb2.mono HK1.out.2.size)⟩
  rw [decide_eq_true hfp]
  obtain ⟨l0, l1⟩ := HK1.out.1.lt
  obtain ⟨⟨p0, p1, p2, p3⟩, q0, q1, q2, q3⟩ := HK1.out.1.cells
  go_wp2_with fail
  refine (docFew_any _ _ q _ _ HK1.out.1.rq).mono ?_
  rintro e w2 ⟨rfl, hb2⟩
  have HK2 := Lib.hid (And.intro (HK1.out.1.below hb2) (HK1.out.2.trans (hb2.mono HK1.out.2.size)))
  have HBH2 := Lib.hid (HBH1.out.below hb2 (Nat.le_refl _))
  clear hb2 p0 p1 p2 p3 q0 q1 q2 q3 l0 l1 HK HBH HK1 HBH1
  rcases Nat.lt_or_ge 60 q.size with hfq | hfq
  · rw [decide_eq_false (by omega)]
    go_wp2_with fail
    refine (works_any w2 HK2.out.1.lvAt).mono ?_
    rintro e w3 ⟨rfl, hb3⟩
    go_wp2_with fail
    go_ret
    exact ⟨rfl, HK2.out.2.trans (hb3.mono HK2.out.2.size)⟩
  rw [decide_eq_true hfq]
  by_cases hbl : 40 < bh.length
  · have t : decide ((40 : Int) < (bh.length : Int)) = true := by simp; omega
    go_wp2_with fail
    refine (works_any w2 HK2.out.1.lvAt).mono ?_
    rintro e w3 ⟨rfl, hb3⟩
    go_wp2_with fail
    go_ret
    exact ⟨rfl, HK2.out.2.trans (hb3.mono HK2.out.2.size)⟩
  have t : decide ((40 : Int) < (bh.length : Int)) = false := by simp; omega
  have hbl' : bh.length ≤ 40 := by omega
  clear hbl
  obtain ⟨l0, l1⟩ := HK2.out.1.lt
  obtain ⟨⟨p0, p1, p2, p3⟩, q0, q1, q2, q3⟩ := HK2.out.1.cells
  go_wp2_with fail
  refine (predRight_any _ _ p _ _ (by omega) HK2.out.1.rp).mono ?_
  rintro e w3 ⟨rfl, hb3⟩
  have HK3 := Lib.hid (And.intro (HK2.out.1.below hb3) (HK2.out.2.trans (hb3.mono HK2.out.2.size)))
  have HBH3 := Lib.hid (HBH2.out.below hb3 (Nat.le_refl _))
  clear hb3 p0 p1 p2 p3 q0 q1 q2 q3 l0 l1 HK2 HBH2
  cases hpr : p.right with
  | false =>
    have HNR := Lib.hid (not_right hpr x v)
    have HPR := Lib.hid hpr
    clear hpr
    obtain ⟨l0, l1⟩ := HK3.out.1.lt
    obtain ⟨⟨p0, p1, p2, p3⟩, q0, q1, q2, q3⟩ := HK3.out.1.cells
    go_wp2_with fail
    refine (predRight_any _ _ p _ _ (by omega) HK3.out.1.rp).mono ?_
    rintro e w4 ⟨rfl, hb4⟩
    rw [HPR.out]
    have HK4 := Lib.hid (And.intro (HK3.out.1.below hb4) (HK3.out.2.trans (hb4.mono HK3.out.2.size)))
    clear hb4 p0 p1 p2 p3 q0 q1 q2 q3 l0 l1
    obtain ⟨l0, l1⟩ := HK4.out.1.lt
    obtain ⟨⟨p0, p1, p2, p3⟩, q0, q1, q2, q3⟩ := HK4.out.1.cells
    go_wp2_with fail
    refine (predPut_any _ _ p _ _ (by omega) HK4.out.1.rp).mono ?_
    rintro e w5 ⟨vb, rfl, hob, hb5⟩
    rw [HNR.out.1] at hob
    obtain ⟨va, vc, rfl⟩ := owns_slice hob
    have HK5 := Lib.hid (And.intro (HK4.out.1.below hb5) (HK4.out.2.trans (hb5.mono HK4.out.2.size)))
    clear hob hb5 p0 p1 p2 p3 q0 q1 q2 q3 l0 l1
    obtain ⟨l0, l1⟩ := HK5.out.1.lt
    obtain ⟨⟨p0, p1, p2, p3⟩, q0, q1, q2, q3⟩ := HK5.out.1.cells
    go_wp2_with fail
    refine (predText_any _ _ p _ _ (by omega) HK5.out.1.rp HK5.out.1.lvAt).mono ?_
    rintro e w6 ⟨rfl, hb6⟩
    rw [HNR.out.2.1]
    have HK6 := Lib.hid (And.intro (HK5.out.1.below hb6) (HK5.out.2.trans (hb6.mono HK5.out.2.size)))
    clear hb6 p0 p1 p2 p3 q0 q1 q2 q3 l0 l1
    obtain ⟨l0, l1⟩ := HK6.out.1.lt
    obtain ⟨⟨p0, p1, p2, p3⟩, q0, q1, q2, q3⟩ := HK6.out.1.cells
    go_wp2_with fail
    refine (predHolds_any _ _ p _ x v _ (by omega) hx hv HK6.out.1.rp).mono ?_
    rintro e w7 ⟨rfl, hb7⟩
    rw [HNR.out.2.2]
    have HK7 := Lib.hid (And.intro (HK6.out.1.below hb7) (HK6.out.2.trans (hb7.mono HK6.out.2.size)))
    clear hb7 p0 p1 p2 p3 q0 q1 q2 q3 l0 l1
    go_wp2_with fail
    refine (works_any w7 HK7.out.1.lvAt).mono ?_
    rintro e w8 ⟨rfl, hb8⟩
    go_wp2_with fail
    go_ret
    exact ⟨rfl, HK7.out.2.trans (hb8.mono HK7.out.2.size)⟩
  | true =>
    have HPR := Lib.hid hpr
    clear hpr
    obtain ⟨l0, l1⟩ := HK3.out.1.lt
    obtain ⟨⟨p0, p1, p2, p3⟩, q0, q1, q2, q3⟩ := HK3.out.1.cells
    go_wp2_with fail
    refine (predRight_any _ _ q _ _ (by omega) HK3.out.1.rq).mono ?_
    rintro e w4 ⟨rfl, hb4⟩
    have HK4 := Lib.hid (And.intro (HK3.out.1.below hb4) (HK3.out.2.trans (hb4.mono HK3.out.2.size)))
    have HBH4 := Lib.hid (HBH3.out.below hb4 (Nat.le_refl _))
    clear hb4 p0 p1 p2 p3 q0 q1 q2 q3 l0 l1 HK3 HBH3
    cases hqr : q.right with
    | false =>
      clear hqr
      obtain ⟨l0, l1⟩ := HK4.out.1.lt
      obtain ⟨⟨p0, p1, p2, p3⟩, q0, q1, q2, q3⟩ := HK4.out.1.cells
      go_wp2_with fail
      refine (predRight_any _ _ p _ _ (by omega) HK4.out.1.rp).mono ?_
      rintro e w5 ⟨rfl, hb5⟩
      rw [HPR.out]
      have HK5 := Lib.hid (And.intro (HK4.out.1.below hb5) (HK4.out.2.trans (hb5.mono HK4.out.2.size)))
      clear hb5 p0 p1 p2 p3 q0 q1 q2 q3 l0 l1
      go_wp2_with fail
      refine (works_any w5 HK5.out.1.lvAt).mono ?_
      rintro e w6 ⟨rfl, hb6⟩
      go_wp2_with fail
      go_ret
      exact ⟨rfl, HK5.out.2.trans (hb6.mono HK5.out.2.size)⟩
    | true =>
      have HQR := Lib.hid hqr
      clear hqr
      obtain ⟨l0, l1⟩ := HK4.out.1.lt
      obtain ⟨⟨p0, p1, p2, p3⟩, q0, q1, q2, q3⟩ := HK4.out.1.cells
      go_wp2_with fail
      have hpl := right_parts HPR.out
      have hql := right_parts HQR.out
      have hbW : Below w4.heap.size w4 w4 := Below.refl _ _
      go_region_held3 (fun w' => w'.cell? ⟨w.heap.size, 0, none⟩ = some (.int .i64 k0) ∧ w'.cell? ⟨w.heap.size, 1, none⟩ = some (.int .u64 a0) ∧ w'.cell? ⟨w.heap.size, 2, none⟩ = some (.int .u64 b0) ∧ w'.cell? ⟨w.heap.size, 3, none⟩ = some (.slice ad0 n0 cap0) ∧
          w'.cell? ⟨w.heap.size + 1, 0, none⟩ = some (.int .i64 k1) ∧ w'.cell? ⟨w.heap.size + 1, 1, none⟩ = some (.int .u64 a1) ∧ w'.cell? ⟨w.heap.size + 1, 2, none⟩ = some (.int .u64 b1) ∧ w'.cell? ⟨w.heap.size + 1, 3, none⟩ = some (.slice ad1 n1 cap1))
        (first
          | exact ⟨(hbW.cell l0).trans p0, (hbW.cell l0).trans p1, (hbW.cell l0).trans p2, (hbW.cell l0).trans p3, (hbW.cell l1).trans q0, (hbW.cell l1).trans q1, (hbW.cell l1).trans q2, (hbW.cell l1).trans q3⟩
          | go_keep)
        (first
          | (go_at_call 14; have _m := hob; go_fit (predPut_any _ _ q _ _ (by omega) (HK4.out.1.rq.below hbW (Nat.le_refl _))); rintro e w' ⟨vc, rfl, hoc, hbx⟩; have hob2 := ownsRow_below hob hbx (Nat.le_refl _); replace hbW := hbW.trans (hbx.mono hbW.size); clear hbx)
          | (go_at_call 14; go_fit (predPut_any _ _ p _ _ (by omega) (HK4.out.1.rp.below (by first | exact hbW | exact hbW.drew) (Nat.le_refl _))); rintro e w' ⟨vb, rfl, hob, hbx⟩; replace hbW := (by first | exact hbW.trans (hbx.mono hbW.size) | exact hbW.drew.trans (hbx.mono hbW.size)); clear hbx))
      have HB : Hid (RepB w' (fun _ => True) false p.put vb) := Lib.hid (((Sl.of_owns hob2 (by omega)).keep (by omega) (fun _ _ _ => rfl) (fun _ _ _ => trivial)).unown)
      have HC : Hid (RepB w' (fun _ => True) false q.put vc) := Lib.hid (((Sl.of_owns hoc (by omega)).keep (by omega) (fun _ _ _ => rfl) (fun _ _ _ => trivial)).unown)
      obtain ⟨vba, vbc, rfl⟩ := owns_slice hob2
      obtain ⟨vca, vcc, rfl⟩ := owns_slice hoc
      have HK5 := Lib.hid (And.intro (HK4.out.1.below hbW) (HK4.out.2.trans (hbW.mono HK4.out.2.size)))
      have HBH5 := Lib.hid (HBH4.out.below hbW (Nat.le_refl _))
      obtain ⟨w5, hw5⟩ : ∃ w5, w5 = w' := ⟨_, rfl⟩
      rw [← hw5] at HB HC HK5 HBH5 ⊢
      clear hw5 hob hob2 hoc hbW p0 p1 p2 p3 q0 q1 q2 q3 l0 l1 HK4 HBH4
      obtain ⟨i0, hi0, hz0, hz1, hz2⟩ := info_parts infoByte
      have hpz := put_len (p := p)
      go_wp2_with fail
      refine (ownBytes_any _ _ p.put _ _ HB.out (by omega)).mono ?_
      rintro e w6 ⟨vo, rfl, ho, hb6⟩
      obtain ⟨voa, voc, rfl⟩ := owns_slice ho
      have HO := Lib.hid (And.intro ho hb6)
      have HBH6 := Lib.hid (HBH5.out.below hb6 (Nat.le_refl _))
      have hz6 := hb6.size
      clear ho hb6
      go_wp2_with (at_builtin; go_loud (refine wpList_append_sl _ rfl (.tmp 73) (.tmp 74) _ rfl w5.heap.size 5 i0 _ 1 1 Tryz.underlying39 hi0 hz0 hz1 hz2 rfl (by omega) _ p.put.length (bytes p.put) rfl HO.out.1 _ _ bh.length (bytes bh) _ rfl HBH6.out (bytes_one _) (by unfold maxLen; omega) (by omega) (by omega) ?_); intro v' w7 hown2 hgrow hat)
      have hbw7 : Below w5.heap.size w5 w7 := HO.out.2.grown hgrow (by omega) (fun k hk => (HO.out.1.lt k hk).1)
      have HT : Hid (RepB w7 (fun _ => True) false (p.put ++ bh) v') := Lib.hid (by
        have h := hown2
        rw [← bytes_append] at h
        have h2 := ((Sl.of_owns h (by omega)).keep (by omega) (fun _ _ _ => rfl) (fun _ _ _ => (trivial : True))).unown
        unfold RepB
        rw [List.length_append]
        exact h2)
      have HK7 := Lib.hid (And.intro (HK5.out.1.below hbw7) (HK5.out.2.trans (hbw7.mono HK5.out.2.size)))
      have HBC7 := Lib.hid (And.intro (HB.out.below hbw7 (Nat.le_refl _)) (HC.out.below hbw7 (Nat.le_refl _)))
      clear hown2 hgrow hat hbw7 HO HB HC HK5 HBH5 HBH6 hz6
      refine (predTake_put _ _ p bh v' w7 HPR.out HN.out.1 HT.out hbl').mono ?_
      rintro e w8 ⟨u8, rfl, hu8, hb8⟩
      obtain ⟨c80, c81, c82, c83, c84, c85, rfl⟩ := hu8.conc
      have hz8 := hb8.size
      have hba8 : Below w7.heap.size w7 (w8.alloc (.cells #[.int .i64 c80, .int .u64 c81, .int .u64 c82, .slice c83 c84 c85] 26)) := hb8.alloc hz8 _
      have HX8 := Lib.hid (Bx.new hu8)
      have HK8 := Lib.hid (And.intro (HK7.out.1.below hba8) (HK7.out.2.trans (hba8.mono HK7.out.2.size)))
      have HBC8 := Lib.hid (And.intro (HBC7.out.1.below hba8 (Nat.le_refl _)) (HBC7.out.2.below hba8 (Nat.le_refl _)))
      clear hu8 hb8 hba8 HK7 HBC7 HT
      go_wp2_with fail
      refine (predParse_put _ _ p _ _ HPR.out HN.out.1 HBC8.out.1).mono ?_
      rintro e w9 ⟨u9, rfl, hu9, hb9⟩
      obtain ⟨c90, c91, c92, c93, c94, c95, rfl⟩ := hu9.conc
      have hz9 := hb9.size
      have hba9 := hb9.alloc hz9 (.cells #[.int .i64 c90, .int .u64 c91, .int .u64 c92, .slice c93 c94 c95] 26)
      have HX9 := Lib.hid (And.intro (Bx.new hu9) (HX8.out.below hba9))
      have HK9 := Lib.hid (And.intro (HK8.out.1.below hba9) (HK8.out.2.trans (hba9.mono HK8.out.2.size)))
      have HBC9 := Lib.hid (And.intro (HBC8.out.1.below hba9 (Nat.le_refl _)) (HBC8.out.2.below hba9 (Nat.le_refl _)))
      obtain ⟨l0, l1⟩ := (HK8.out.1.below hb9).lt
      obtain ⟨⟨p0, p1, p2, p3⟩, q0, q1, q2, q3⟩ := (HK8.out.1.below hb9).cells
      clear hu9 hb9 hba9 HK8 HBC8 HX8
      go_wp2_with fail
      refine (predText_any _ _ p _ _ (by omega) HK9.out.1.rp HK9.out.1.lvAt).mono ?_
      rintro e w10 ⟨rfl, hb10⟩
      have hz10 := hb10.size
      have HX10 := Lib.hid (And.intro (HX9.out.1.below hb10) (HX9.out.2.below hb10))
      have HK10 := Lib.hid (And.intro (HK9.out.1.below hb10) (HK9.out.2.trans (hb10.mono HK9.out.2.size)))
      have HBC10 := Lib.hid (And.intro (HBC9.out.1.below hb10 (Nat.le_refl _)) (HBC9.out.2.below hb10 (Nat.le_refl _)))
      clear hb10 HX9 HK9 HBC9 p0 p1 p2 p3 q0 q1 q2 q3 l0 l1
      go_wp2_with fail
      refine (predRead_text p w10 HPR.out HN.out.1 HK10.out.1.lvAt).mono ?_
      rintro e w11 ⟨u11, rfl, hu11, hb11⟩
      obtain ⟨d0, d1, d2, d3, d4, d5, rfl⟩ := hu11.conc
      have hz11 := hb11.size
      have hba11 := hb11.alloc hz11 (.cells #[.int .i64 d0, .int .u64 d1, .int .u64 d2, .slice d3 d4 d5] 26)
      have HX11 := Lib.hid (And.intro (Bx.new hu11) (And.intro (HX10.out.1.below hba11) (HX10.out.2.below hba11)))
      have HK11 := Lib.hid (And.intro (HK10.out.1.below hba11) (HK10.out.2.trans (hba11.mono HK10.out.2.size)))
      have HBC11 := Lib.hid (And.intro (HBC10.out.1.below hba11 (Nat.le_refl _)) (HBC10.out.2.below hba11 (Nat.le_refl _)))
      obtain ⟨l0, l1⟩ := (HK10.out.1.below hb11).lt
      obtain ⟨⟨p0, p1, p2, p3⟩, q0, q1, q2, q3⟩ := (HK10.out.1.below hb11).cells
      obtain ⟨m0, m1, m2, m3⟩ := (HX10.out.2.below hb11).cells
      have lm := (HX10.out.2.below hb11).lt
      have t9 : ((p.put.length : Int) != (p.put.length : Int)) = false := by simp
      clear hu11 hb11 hba11 HK10 HBC10 HX10
      go_wp2_with fail
      refine (predSame_any p.depth _ _ _ _ p p _ _ _ (Nat.le_refl _) HX11.out.2.2.r HK11.out.1.rp).mono ?_
      rintro e w12 ⟨rfl, hbQ⟩
      rw [Ex.same_refl]
      have HX12 := Lib.hid (And.intro (HX11.out.1.below hbQ) (HX11.out.2.1.below hbQ))
      have HK12 := Lib.hid (And.intro (HK11.out.1.below hbQ) (HK11.out.2.trans (hbQ.mono HK11.out.2.size)))
      have HBC12 := Lib.hid (And.intro (HBC11.out.1.below hbQ (Nat.le_refl _)) (HBC11.out.2.below hbQ (Nat.le_refl _)))
      clear hbQ HX11 HK11 HBC11 p0 p1 p2 p3 q0 q1 q2 q3 l0 l1 m0 m1 m2 m3 lm
      obtain ⟨l0, l1⟩ := HK12.out.1.lt
      obtain ⟨⟨p0, p1, p2, p3⟩, q0, q1, q2, q3⟩ := HK12.out.1.cells
      obtain ⟨m0, m1, m2, m3⟩ := HX12.out.2.cells
      have lm := HX12.out.2.lt
      go_wp2_with fail
      refine (predSame_any p.depth _ _ _ _ p p _ _ _ (Nat.le_refl _) HX12.out.2.r HK12.out.1.rp).mono ?_
      rintro e w13 ⟨rfl, hbQ⟩
      rw [Ex.same_refl]
      have HX13 := Lib.hid (HX12.out.1.below hbQ)
      have HK13 := Lib.hid (And.intro (HK12.out.1.below hbQ) (HK12.out.2.trans (hbQ.mono HK12.out.2.size)))
      have HBC13 := Lib.hid (And.intro (HBC12.out.1.below hbQ (Nat.le_refl _)) (HBC12.out.2.below hbQ (Nat.le_refl _)))
      clear hbQ HX12 HK12 HBC12 p0 p1 p2 p3 q0 q1 q2 q3 l0 l1 m0 m1 m2 m3 lm
      obtain ⟨l0, l1⟩ := HK13.out.1.lt
      obtain ⟨⟨p0, p1, p2, p3⟩, q0, q1, q2, q3⟩ := HK13.out.1.cells
      obtain ⟨m0, m1, m2, m3⟩ := HX13.out.cells
      have lm := HX13.out.lt
      go_wp2_with fail
      refine (predSame_any p.depth _ _ _ _ p p _ _ _ (Nat.le_refl _) HX13.out.r HK13.out.1.rp).mono ?_
      rintro e w14 ⟨rfl, hbQ⟩
      rw [Ex.same_refl]
      have HK14 := Lib.hid (And.intro (HK13.out.1.below hbQ) (HK13.out.2.trans (hbQ.mono HK13.out.2.size)))
      have HBC14 := Lib.hid (And.intro (HBC13.out.1.below hbQ (Nat.le_refl _)) (HBC13.out.2.below hbQ (Nat.le_refl _)))
      clear hbQ HX13 HK13 HBC13 p0 p1 p2 p3 q0 q1 q2 q3 l0 l1 m0 m1 m2 m3 lm hz10 hz11
      obtain ⟨l0, l1⟩ := HK14.out.1.lt
      obtain ⟨⟨p0, p1, p2, p3⟩, q0, q1, q2, q3⟩ := HK14.out.1.cells
      obtain ⟨sm, hsm⟩ : ∃ sm : Bool, sm = p.same q := ⟨_, rfl⟩
      obtain ⟨pt, hpt⟩ : ∃ pt : ByteArray, pt = ⟨p.text.toArray⟩ := ⟨_, rfl⟩
      obtain ⟨qt, hqt⟩ : ∃ qt : ByteArray, qt = ⟨q.text.toArray⟩ := ⟨_, rfl⟩
      have hte : decide (pt = qt) = sm := by
        rw [hpt, hqt, hsm, ← text_inj HPR.out HQR.out HN.out.1 HN.out.2, Bool.eq_iff_iff]
        simp
      have HSM := Lib.hid (And.intro hsm (And.intro hpt hqt))
      rw [← hpt]
      clear hsm hpt hqt
      go_wp2_with fail
      go_cut [142] from 125 to 141 (fun r wx => r = .bool false ∧ Below w14.heap.size w14 wx)
      case first =>
        have HPI := Lib.hid ((put_inj HPR.out HQR.out HN.out.1 HN.out.2).trans HSM.out.1.symm)
        have hbW : Below w14.heap.size w14 w14 := Below.refl _ _
        cases sm with
        | true =>
          have heq : qt = pt := (of_decide_eq_true hte).symm
          have HEQ := Lib.hid heq
          clear heq hte
          go_region_held3 (fun w' => w'.cell? ⟨w.heap.size, 0, none⟩ = some (.int .i64 k0) ∧ w'.cell? ⟨w.heap.size, 1, none⟩ = some (.int .u64 a0) ∧ w'.cell? ⟨w.heap.size, 2, none⟩ = some (.int .u64 b0) ∧ w'.cell? ⟨w.heap.size, 3, none⟩ = some (.slice ad0 n0 cap0) ∧
            w'.cell? ⟨w.heap.size + 1, 0, none⟩ = some (.int .i64 k1) ∧ w'.cell? ⟨w.heap.size + 1, 1, none⟩ = some (.int .u64 a1) ∧ w'.cell? ⟨w.heap.size + 1, 2, none⟩ = some (.int .u64 b1) ∧ w'.cell? ⟨w.heap.size + 1, 3, none⟩ = some (.slice ad1 n1 cap1))
          (first
            | exact ⟨(hbW.cell l0).trans p0, (hbW.cell l0).trans p1, (hbW.cell l0).trans p2, (hbW.cell l0).trans p3, (hbW.cell l1).trans q0, (hbW.cell l1).trans q1, (hbW.cell l1).trans q2, (hbW.cell l1).trans q3⟩
            | go_keep)
            (first
              | (go_at_call 17; go_fit (sameBytes_any _ _ _ _ p.put q.put _ _ _ (HBC14.out.1.below (by first | exact hbW | exact hbW.drew) (Nat.le_refl _)) (HBC14.out.2.below (by first | exact hbW | exact hbW.drew) (Nat.le_refl _))); rintro e w' ⟨rfl, hbx⟩; rw [HPI.out]; replace hbW := (by first | exact hbW.trans (hbx.mono hbW.size) | exact hbW.drew.trans (hbx.mono hbW.size)); clear hbx)
              | (go_at_call 33; go_fit (predSame_any p.depth _ _ _ _ p q _ _ _ (Nat.le_refl _) (HK14.out.1.rp.below (by first | exact hbW | exact hbW.drew) (Nat.le_refl _)) (HK14.out.1.rq.below (by first | exact hbW | exact hbW.drew) (Nat.le_refl _))); rintro e w' ⟨rfl, hbx⟩; rw [← HSM.out.1]; replace hbW := (by first | exact hbW.trans (hbx.mono hbW.size) | exact hbW.drew.trans (hbx.mono hbW.size)); clear hbx)
              | (go_at_call 31; have _m := htx; go_fit (predText_any _ _ q _ _ (by omega) (HK14.out.1.rq.below (by first | exact hbW | exact hbW.drew) (Nat.le_refl _)) (HK14.out.1.below (by first | exact hbW | exact hbW.drew)).lvAt); rintro e w' ⟨rfl, hbx⟩; rw [← HSM.out.2.2, HEQ.out]; replace hbW := (by first | exact hbW.trans (hbx.mono hbW.size) | exact hbW.drew.trans (hbx.mono hbW.size)); clear hbx)
              | (go_at_call 31; go_fit (predText_any _ _ p _ _ (by omega) (HK14.out.1.rp.below (by first | exact hbW | exact hbW.drew) (Nat.le_refl _)) (HK14.out.1.below (by first | exact hbW | exact hbW.drew)).lvAt); rintro e w' ⟨rfl, hbx⟩; rw [← HSM.out.2.1]; have htx := True.intro; replace hbW := (by first | exact hbW.trans (hbx.mono hbW.size) | exact hbW.drew.trans (hbx.mono hbW.size)); clear hbx))
          all_goals
            go_wp2_with fail
            go_meet
            exact ⟨rfl, hbW⟩
        | false =>
          have hne : ¬ pt = qt := of_decide_eq_false hte
          have hne2 : ¬ pt.toList = qt.toList := fun h => hne (by rw [ByteArray.toList_eq, ByteArray.toList_eq] at h; exact ByteArray.ext (Array.ext' h))
          have hne3 : (pt.toList == qt.toList) = false := by simpa using hne2
          clear hte
          go_region_held3 (fun w' => w'.cell? ⟨w.heap.size, 0, none⟩ = some (.int .i64 k0) ∧ w'.cell? ⟨w.heap.size, 1, none⟩ = some (.int .u64 a0) ∧ w'.cell? ⟨w.heap.size, 2, none⟩ = some (.int .u64 b0) ∧ w'.cell? ⟨w.heap.size, 3, none⟩ = some (.slice ad0 n0 cap0) ∧
            w'.cell? ⟨w.heap.size + 1, 0, none⟩ = some (.int .i64 k1) ∧ w'.cell? ⟨w.heap.size + 1, 1, none⟩ = some (.int .u64 a1) ∧ w'.cell? ⟨w.heap.size + 1, 2, none⟩ = some (.int .u64 b1) ∧ w'.cell? ⟨w.heap.size + 1, 3, none⟩ = some (.slice ad1 n1 cap1))
          (first
            | exact ⟨(hbW.cell l0).trans p0, (hbW.cell l0).trans p1, (hbW.cell l0).trans p2, (hbW.cell l0).trans p3, (hbW.cell l1).trans q0, (hbW.cell l1).trans q1, (hbW.cell l1).trans q2, (hbW.cell l1).trans q3⟩
            | go_keep)
            (first
              | (go_at_call 17; go_fit (sameBytes_any _ _ _ _ p.put q.put _ _ _ (HBC14.out.1.below (by first | exact hbW | exact hbW.drew) (Nat.le_refl _)) (HBC14.out.2.below (by first | exact hbW | exact hbW.drew) (Nat.le_refl _))); rintro e w' ⟨rfl, hbx⟩; rw [HPI.out]; replace hbW := (by first | exact hbW.trans (hbx.mono hbW.size) | exact hbW.drew.trans (hbx.mono hbW.size)); clear hbx)
              | (go_at_call 33; go_fit (predSame_any p.depth _ _ _ _ p q _ _ _ (Nat.le_refl _) (HK14.out.1.rp.below (by first | exact hbW | exact hbW.drew) (Nat.le_refl _)) (HK14.out.1.rq.below (by first | exact hbW | exact hbW.drew) (Nat.le_refl _))); rintro e w' ⟨rfl, hbx⟩; rw [← HSM.out.1]; replace hbW := (by first | exact hbW.trans (hbx.mono hbW.size) | exact hbW.drew.trans (hbx.mono hbW.size)); clear hbx)
              | (go_at_call 31; have _m := htx; go_fit (predText_any _ _ q _ _ (by omega) (HK14.out.1.rq.below (by first | exact hbW | exact hbW.drew) (Nat.le_refl _)) (HK14.out.1.below (by first | exact hbW | exact hbW.drew)).lvAt); rintro e w' ⟨rfl, hbx⟩; rw [← HSM.out.2.2]; replace hbW := (by first | exact hbW.trans (hbx.mono hbW.size) | exact hbW.drew.trans (hbx.mono hbW.size)); clear hbx)
              | (go_at_call 31; go_fit (predText_any _ _ p _ _ (by omega) (HK14.out.1.rp.below (by first | exact hbW | exact hbW.drew) (Nat.le_refl _)) (HK14.out.1.below (by first | exact hbW | exact hbW.drew)).lvAt); rintro e w' ⟨rfl, hbx⟩; rw [← HSM.out.2.1]; have htx := True.intro; replace hbW := (by first | exact hbW.trans (hbx.mono hbW.size) | exact hbW.drew.trans (hbx.mono hbW.size)); clear hbx))
          all_goals
            go_wp2_with fail
            go_meet
            exact ⟨rfl, hbW⟩
      case rest =>
        obtain ⟨rfl, hbc⟩ := hcut
        have HK15 := Lib.hid (And.intro (HK14.out.1.below hbc) (HK14.out.2.trans (hbc.mono HK14.out.2.size)))
        clear hbc HK14 HBC14 p0 p1 p2 p3 q0 q1 q2 q3 l0 l1 hte HSM
        go_wp2_with fail
        obtain ⟨l0, l1⟩ := HK15.out.1.lt
        obtain ⟨⟨p0, p1, p2, p3⟩, q0, q1, q2, q3⟩ := HK15.out.1.cells
        have hinf : (Tryz.prog.info? 26).map (·.size) = some 4 := by kernel_rfl
        refine wp_region_prs (w0 := wc) rfl [.eq (.agg #[.int .i64 k0, .int .u64 a0, .int .u64 b0, .slice ad0 n0 cap0]), .of (pTree p.turn), .eq (.agg #[.int .i64 k0, .int .u64 a0, .int .u64 b0, .slice ad0 n0 cap0]), .eq (.agg #[.int .i64 k1, .int .u64 a1, .int .u64 b1, .slice ad1 n1 cap1]), .of (pBlock 2 2 (#[.int .i64 k0, .int .u64 a0, .int .u64 b0, .slice ad0 n0 cap0] ++ #[.int .i64 k1, .int .u64 a1, .int .u64 b1, .slice ad1 n1 cap1])), .of (pTree (.mk 6 0 0 [p, q])), .box 26 #[.int .i64 0, .int .u64 0, .int .u64 0, .slice none 0 0], .box 26 #[.int .i64 0, .int .u64 0, .int .u64 0, .slice none 0 0], .sto 6 1, .sto 7 5] (by kernel_rfl) ⟨?_, ?_, ?_, ?_, ?_, ?_, ?_, ?_, ?_, ?_, ?_, ?_, ?_, trivial⟩ (fun vs => [(143, (.agg #[.int .i64 k0, .int .u64 a0, .int .u64 b0, .slice ad0 n0 cap0])), (144, vs 1), (145, (.agg #[.int .i64 k0, .int .u64 a0, .int .u64 b0, .slice ad0 n0 cap0])), (146, (.agg #[.int .i64 k1, .int .u64 a1, .int .u64 b1, .slice ad1 n1 cap1])), (147, vs 4), (148, vs 5), (20, vs 6), (21, vs 7)]) (fun _ => rfl) ?_
        · refine RStep.mk rfl rfl (fun S a wx K Q hR hK => ?_)
          have t5 : a.tmps[5]? = some (.pointer (some ⟨w.heap.size, 0, none⟩)) := (hR.old 5 (by kernel_rfl)).trans (by kernel_rfl)
          have y0 := (hR.bel.cell l0).trans p0
          have y1 := (hR.bel.cell l0).trans p1
          have y2 := (hR.bel.cell l0).trans p2
          have y3 := (hR.bel.cell l0).trans p3
          go_simp
          exact hK _ _ (Below.refl _ _) rfl
        · exact steadyTree _
        · refine RStep.mk rfl rfl (fun S a wx K Q hR hK => ?_)
          have t143 := hR.eq 0 (by kernel_rfl) rfl rfl
          go_simp
          go_at_call 16
          go_fit (predTurn_any _ _ p _ _ (by omega) (HK15.out.1.rp.below hR.bel (Nat.le_refl _)))
          rintro e w' ⟨⟨vt, rfl, hvt⟩, hbt⟩
          exact hK _ _ hbt (hvt.wider (fun b _ h => hR.new b h))
        · refine RStep.mk rfl rfl (fun S a wx K Q hR hK => ?_)
          have t5 : a.tmps[5]? = some (.pointer (some ⟨w.heap.size, 0, none⟩)) := (hR.old 5 (by kernel_rfl)).trans (by kernel_rfl)
          have y0 := (hR.bel.cell l0).trans p0
          have y1 := (hR.bel.cell l0).trans p1
          have y2 := (hR.bel.cell l0).trans p2
          have y3 := (hR.bel.cell l0).trans p3
          go_simp
          exact hK _ _ (Below.refl _ _) rfl
        · refine RStep.mk rfl rfl (fun S a wx K Q hR hK => ?_)
          have t6 : a.tmps[6]? = some (.pointer (some ⟨w.heap.size + 1, 0, none⟩)) := (hR.old 6 (by kernel_rfl)).trans (by kernel_rfl)
          have y0 := (hR.bel.cell l1).trans q0
          have y1 := (hR.bel.cell l1).trans q1
          have y2 := (hR.bel.cell l1).trans q2
          have y3 := (hR.bel.cell l1).trans q3
          go_simp
          exact hK _ _ (Below.refl _ _) rfl
        · exact steadyBlock _ _ _
        · refine RStep.mk rfl rfl (fun S a wx K Q hR hK => ?_)
          have t145 := hR.eq 2 (by kernel_rfl) rfl rfl
          have t146 := hR.eq 3 (by kernel_rfl) rfl rfl
          go_simp
          exact hK _ _ ((Below.refl _ _).alloc (Nat.le_refl _) _) ⟨_, _, rfl, hR.new _ (Nat.le_refl _), heap_alloc_new _ _⟩
        · exact steadyTree _
        · refine RStep.mk rfl rfl (fun S a wx K Q hR hK => ?_)
          obtain ⟨u147, t147, f147⟩ := hR.of 4 (by kernel_rfl) rfl rfl
          obtain ⟨gb, Tb, rfl, hgS, hgb⟩ := f147
          go_simp
          go_at_call 15
          have hps : RepEs wx (fun _ => True) false [p, q] ((#[.int .i64 k0, .int .u64 a0, .int .u64 b0, .slice ad0 n0 cap0] ++ #[.int .i64 k1, .int .u64 a1, .int .u64 b1, .slice ad1 n1 cap1] : Array Value).toList) := ⟨_, _, _, _, _, rfl, ((HK15.out.1.rp.below hR.bel (Nat.le_refl _)).wider (fun _ _ _ => trivial)), _, _, _, _, _, rfl, ((HK15.out.1.rq.below hR.bel (Nat.le_refl _)).wider (fun _ _ _ => trivial)), rfl⟩
          have hss : Sl wx (fun _ => True) false 4 2 ((#[.int .i64 k0, .int .u64 a0, .int .u64 b0, .slice ad0 n0 cap0] ++ #[.int .i64 k1, .int .u64 a1, .int .u64 b1, .slice ad1 n1 cap1] : Array Value).toList) (.slice (some ⟨gb, 0, none⟩) 2 2) := ((sl_block 2 4 hgb rfl (by omega)).keep (by omega) (fun _ _ _ => rfl) (fun _ _ _ => (trivial : True))).unown
          go_fit (predBoth_any _ _ [p, q] _ _ 2 _ _ rfl (by simp only [Ex.depths]; omega) (by simp only [Ex.sizes]; omega) hss hps)
          rintro e w' ⟨⟨vt, rfl, hvt⟩, hbt⟩
          exact hK _ _ hbt (hvt.wider (fun b _ h => hR.new b h))
        · intro w; kernel_rfl
        · intro w; kernel_rfl
        · exact StoOK.mk rfl rfl rfl hinf pTree_cells
        · exact StoOK.mk rfl rfl rfl hinf pTree_cells
        intro S13 vs wd hD
        obtain ⟨g, cs, e20, _, _, hg3, e144, _⟩ := hD.box 8 6 1 _ _ rfl rfl
        obtain ⟨g', cs', e21, _, _, hg3', e148, _⟩ := hD.box 9 7 5 _ _ rfl rfl
        have r1 : RepE wd S13 true p.turn (vs 1) := hD.ofs 1 _ rfl
        have r5 : RepE wd S13 true (.mk 6 0 0 [p, q]) (vs 5) := hD.ofs 5 _ rfl
        rw [e144] at r1
        rw [e148] at r5
        obtain ⟨c0, c1, c2, c3, ec⟩ := r1.four
        obtain ⟨d0, d1, d2, d3, ed⟩ := r5.four
        injection ec with ec
        injection ed with ed
        subst ec ed
        have e20' : vs 6 = .pointer (some ⟨g, 0, none⟩) := e20
        have e21' : vs 7 = .pointer (some ⟨g', 0, none⟩) := e21
        have HZ : Hid (Bx g p.turn #[c0, c1, c2, c3] wd ∧ Bx g' (.mk 6 0 0 [p, q]) #[d0, d1, d2, d3] wd) := Lib.hid ⟨⟨hg3, (r1.wider (fun _ _ _ => trivial)).unown⟩, ⟨hg3', (r5.wider (fun _ _ _ => trivial)).unown⟩⟩
        have HK16 := Lib.hid (And.intro (HK15.out.1.below hD.bel) (HK15.out.2.trans (hD.bel.mono HK15.out.2.size)))
        simp only [e20', e21', e144, e148, putsL, List.foldl_cons, List.foldl_nil]
        clear hD e20 e21 e20' e21' e144 e148 r1 r5 hg3 hg3' HK15 p0 p1 p2 p3 q0 q1 q2 q3 l0 l1
        have hts := turn_size4 p
        generalize vs 4 = v147
        go_simp
        go_wp2_with fail
        go_cut [161] from 149 to 160 (fun r wx => r = .bool false ∧ Below wd.heap.size wd wx)
        case first =>
          obtain ⟨l0, l1⟩ := HK16.out.1.lt
          obtain ⟨⟨p0, p1, p2, p3⟩, q0, q1, q2, q3⟩ := HK16.out.1.cells
          obtain ⟨m0, m1, m2, m3⟩ := HZ.out.1.cells
          have lm := HZ.out.1.lt
          have HTH := Lib.hid (fun h : p.turn.right = true => turn_holds HPR.out h x v)
          cases htr : p.turn.right with
          | false =>
            refine wp_region_prs (w0 := wd) rfl [.eq (.agg #[c0, c1, c2, c3]), .eq (.bool false), .eq (.bool false), .skip, .skip, .skip, .skip, .skip, .skip, .skip, .skip, .skip, .eq ((Value.bool false))] (by kernel_rfl) ⟨?_, ?_, ?_, ?_, trivial⟩ (fun vs => [(149, (.agg #[c0, c1, c2, c3])), (150, (.bool false)), (151, (.bool false)), (152, undef), (153, undef), (154, undef), (155, undef), (156, undef), (157, undef), (158, undef), (159, undef), (160, undef), (161, ((Value.bool false)))]) (fun _ => rfl) ?_
            · refine RStep.mk rfl rfl (fun S a wx K Q hR hK => ?_)
              have t20 : a.tmps[20]? = some (.pointer (some ⟨g, 0, none⟩)) := (hR.old 20 (by kernel_rfl)).trans (by kernel_rfl)
              have y0 := (hR.bel.cell lm).trans m0
              have y1 := (hR.bel.cell lm).trans m1
              have y2 := (hR.bel.cell lm).trans m2
              have y3 := (hR.bel.cell lm).trans m3
              go_simp
              exact hK _ _ (Below.refl _ _) rfl
            · refine RStep.mk rfl rfl (fun S a wx K Q hR hK => ?_)
              have t149 := hR.eq 0 (by kernel_rfl) rfl rfl
              go_simp
              go_at_call 23
              go_fit (predRight_any _ _ p.turn _ _ (by omega) (HZ.out.1.r.below hR.bel (Nat.le_refl _)))
              rintro e w' ⟨rfl, hbx⟩
              rw [htr]
              exact hK _ _ hbx rfl
            · refine RStep.mk rfl rfl (fun S a wx K Q hR hK => ?_)
              have t150 := hR.eq 1 (by kernel_rfl) rfl rfl
              go_simp
              exact hK _ _ (Below.refl _ _) rfl
            · refine RStep.mk rfl rfl (fun S a wx K Q hR hK => ?_)
              have t151 := hR.eq 2 (by kernel_rfl) rfl rfl
              obtain ⟨u160, t160, f160⟩ := hR.dep 11 _ _ (by kernel_rfl) rfl rfl rfl; replace f160 : u160 = undef := f160; subst f160
              go_simp
              exact hK _ _ (Below.refl _ _) rfl
            intro S14 vs we hD
            have hbW := hD.bel
            simp only [putsL, List.foldl_cons, List.foldl_nil]
            clear hD
            go_simp
            (try (go_wp2_with fail))
            go_meet
            exact ⟨rfl, hbW⟩
          | true =>
            cases hph : p.holds x v with
            | false =>
              refine wp_region_prs (w0 := wd) rfl [.eq (.agg #[c0, c1, c2, c3]), .eq (.bool true), .eq (.bool true), .eq (.agg #[c0, c1, c2, c3]), .eq (.int .u64 ↑x), .eq (.int .u64 ↑v), .eq (.bool true), .eq (.agg #[.int .i64 k0, .int .u64 a0, .int .u64 b0, .slice ad0 n0 cap0]), .eq (.int .u64 ↑x), .eq (.int .u64 ↑v), .eq (.bool false), .eq (.bool false), .eq (.bool false)] (by kernel_rfl) ⟨?_, ?_, ?_, ?_, ?_, ?_, ?_, ?_, ?_, ?_, ?_, ?_, ?_, trivial⟩ (fun vs => [(149, (.agg #[c0, c1, c2, c3])), (150, (.bool true)), (151, (.bool true)), (152, (.agg #[c0, c1, c2, c3])), (153, (.int .u64 ↑x)), (154, (.int .u64 ↑v)), (155, (.bool true)), (156, (.agg #[.int .i64 k0, .int .u64 a0, .int .u64 b0, .slice ad0 n0 cap0])), (157, (.int .u64 ↑x)), (158, (.int .u64 ↑v)), (159, (.bool false)), (160, (.bool false)), (161, (.bool false))]) (fun _ => rfl) ?_
              · refine RStep.mk rfl rfl (fun S a wx K Q hR hK => ?_)
                have t20 : a.tmps[20]? = some (.pointer (some ⟨g, 0, none⟩)) := (hR.old 20 (by kernel_rfl)).trans (by kernel_rfl)
                have y0 := (hR.bel.cell lm).trans m0
                have y1 := (hR.bel.cell lm).trans m1
                have y2 := (hR.bel.cell lm).trans m2
                have y3 := (hR.bel.cell lm).trans m3
                go_simp
                exact hK _ _ (Below.refl _ _) rfl
              · refine RStep.mk rfl rfl (fun S a wx K Q hR hK => ?_)
                have t149 := hR.eq 0 (by kernel_rfl) rfl rfl
                go_simp
                go_at_call 23
                go_fit (predRight_any _ _ p.turn _ _ (by omega) (HZ.out.1.r.below hR.bel (Nat.le_refl _)))
                rintro e w' ⟨rfl, hbx⟩
                rw [htr]
                exact hK _ _ hbx rfl
              · refine RStep.mk rfl rfl (fun S a wx K Q hR hK => ?_)
                have t150 := hR.eq 1 (by kernel_rfl) rfl rfl
                go_simp
                exact hK _ _ (Below.refl _ _) rfl
              · refine RStep.mk rfl rfl (fun S a wx K Q hR hK => ?_)
                have t20 : a.tmps[20]? = some (.pointer (some ⟨g, 0, none⟩)) := (hR.old 20 (by kernel_rfl)).trans (by kernel_rfl)
                have y0 := (hR.bel.cell lm).trans m0
                have y1 := (hR.bel.cell lm).trans m1
                have y2 := (hR.bel.cell lm).trans m2
                have y3 := (hR.bel.cell lm).trans m3
                go_simp
                exact hK _ _ (Below.refl _ _) rfl
              · refine RStep.mk rfl rfl (fun S a wx K Q hR hK => ?_)
                have t3 : a.tmps[3]? = some (.int .u64 ↑x) := (hR.old 3 (by kernel_rfl)).trans (by kernel_rfl)
                go_simp
                exact hK _ _ (Below.refl _ _) rfl
              · refine RStep.mk rfl rfl (fun S a wx K Q hR hK => ?_)
                have t4 : a.tmps[4]? = some (.int .u64 ↑v) := (hR.old 4 (by kernel_rfl)).trans (by kernel_rfl)
                go_simp
                exact hK _ _ (Below.refl _ _) rfl
              · refine RStep.mk rfl rfl (fun S a wx K Q hR hK => ?_)
                have t152 := hR.eq 3 (by kernel_rfl) rfl rfl
                have t153 := hR.eq 4 (by kernel_rfl) rfl rfl
                have t154 := hR.eq 5 (by kernel_rfl) rfl rfl
                go_simp
                go_at_call 29
                go_fit (predHolds_any _ _ p.turn _ _ _ _ (by omega) hx hv (HZ.out.1.r.below hR.bel (Nat.le_refl _)))
                rintro e w' ⟨rfl, hbx⟩
                rw [HTH.out htr, hph]
                exact hK _ _ hbx rfl
              · refine RStep.mk rfl rfl (fun S a wx K Q hR hK => ?_)
                have t5 : a.tmps[5]? = some (.pointer (some ⟨w.heap.size, 0, none⟩)) := (hR.old 5 (by kernel_rfl)).trans (by kernel_rfl)
                have y0 := (hR.bel.cell l0).trans p0
                have y1 := (hR.bel.cell l0).trans p1
                have y2 := (hR.bel.cell l0).trans p2
                have y3 := (hR.bel.cell l0).trans p3
                go_simp
                exact hK _ _ (Below.refl _ _) rfl
              · refine RStep.mk rfl rfl (fun S a wx K Q hR hK => ?_)
                have t3 : a.tmps[3]? = some (.int .u64 ↑x) := (hR.old 3 (by kernel_rfl)).trans (by kernel_rfl)
                go_simp
                exact hK _ _ (Below.refl _ _) rfl
              · refine RStep.mk rfl rfl (fun S a wx K Q hR hK => ?_)
                have t4 : a.tmps[4]? = some (.int .u64 ↑v) := (hR.old 4 (by kernel_rfl)).trans (by kernel_rfl)
                go_simp
                exact hK _ _ (Below.refl _ _) rfl
              · refine RStep.mk rfl rfl (fun S a wx K Q hR hK => ?_)
                have t156 := hR.eq 7 (by kernel_rfl) rfl rfl
                have t157 := hR.eq 8 (by kernel_rfl) rfl rfl
                have t158 := hR.eq 9 (by kernel_rfl) rfl rfl
                go_simp
                go_at_call 29
                go_fit (predHolds_any _ _ p _ _ _ _ (by omega) hx hv (HK16.out.1.rp.below hR.bel (Nat.le_refl _)))
                rintro e w' ⟨rfl, hbx⟩
                rw [hph]
                exact hK _ _ hbx rfl
              · refine RStep.mk rfl rfl (fun S a wx K Q hR hK => ?_)
                have t155 := hR.eq 6 (by kernel_rfl) rfl rfl
                have t159 := hR.eq 10 (by kernel_rfl) rfl rfl
                go_simp
                exact hK _ _ (Below.refl _ _) rfl
              · refine RStep.mk rfl rfl (fun S a wx K Q hR hK => ?_)
                have t151 := hR.eq 2 (by kernel_rfl) rfl rfl
                have t160 := hR.eq 11 (by kernel_rfl) rfl rfl
                go_simp
                exact hK _ _ (Below.refl _ _) rfl
              intro S14 vs we hD
              have hbW := hD.bel
              simp only [putsL, List.foldl_cons, List.foldl_nil]
              clear hD
              go_simp
              (try (go_wp2_with fail))
              go_meet
              exact ⟨rfl, hbW⟩
            | true =>
              refine wp_region_prs (w0 := wd) rfl [.eq (.agg #[c0, c1, c2, c3]), .eq (.bool true), .eq (.bool true), .eq (.agg #[c0, c1, c2, c3]), .eq (.int .u64 ↑x), .eq (.int .u64 ↑v), .eq (.bool false), .eq (.agg #[.int .i64 k0, .int .u64 a0, .int .u64 b0, .slice ad0 n0 cap0]), .eq (.int .u64 ↑x), .eq (.int .u64 ↑v), .eq (.bool true), .eq (.bool false), .eq (.bool false)] (by kernel_rfl) ⟨?_, ?_, ?_, ?_, ?_, ?_, ?_, ?_, ?_, ?_, ?_, ?_, ?_, trivial⟩ (fun vs => [(149, (.agg #[c0, c1, c2, c3])), (150, (.bool true)), (151, (.bool true)), (152, (.agg #[c0, c1, c2, c3])), (153, (.int .u64 ↑x)), (154, (.int .u64 ↑v)), (155, (.bool false)), (156, (.agg #[.int .i64 k0, .int .u64 a0, .int .u64 b0, .slice ad0 n0 cap0])), (157, (.int .u64 ↑x)), (158, (.int .u64 ↑v)), (159, (.bool true)), (160, (.bool false)), (161, (.bool false))]) (fun _ => rfl) ?_
              · refine RStep.mk rfl rfl (fun S a wx K Q hR hK => ?_)
                have t20 : a.tmps[20]? = some (.pointer (some ⟨g, 0, none⟩)) := (hR.old 20 (by kernel_rfl)).trans (by kernel_rfl)
                have y0 := (hR.bel.cell lm).trans m0
                have y1 := (hR.bel.cell lm).trans m1
                have y2 := (hR.bel.cell lm).trans m2
                have y3 := (hR.bel.cell lm).trans m3
                go_simp
                exact hK _ _ (Below.refl _ _) rfl
              · refine RStep.mk rfl rfl (fun S a wx K Q hR hK => ?_)
                have t149 := hR.eq 0 (by kernel_rfl) rfl rfl
                go_simp
                go_at_call 23
                go_fit (predRight_any _ _ p.turn _ _ (by omega) (HZ.out.1.r.below hR.bel (Nat.le_refl _)))
                rintro e w' ⟨rfl, hbx⟩
                rw [htr]
                exact hK _ _ hbx rfl
              · refine RStep.mk rfl rfl (fun S a wx K Q hR hK => ?_)
                have t150 := hR.eq 1 (by kernel_rfl) rfl rfl
                go_simp
                exact hK _ _ (Below.refl _ _) rfl
              · refine RStep.mk rfl rfl (fun S a wx K Q hR hK => ?_)
                have t20 : a.tmps[20]? = some (.pointer (some ⟨g, 0, none⟩)) := (hR.old 20 (by kernel_rfl)).trans (by kernel_rfl)
                have y0 := (hR.bel.cell lm).trans m0
                have y1 := (hR.bel.cell lm).trans m1
                have y2 := (hR.bel.cell lm).trans m2
                have y3 := (hR.bel.cell lm).trans m3
                go_simp
                exact hK _ _ (Below.refl _ _) rfl
              · refine RStep.mk rfl rfl (fun S a wx K Q hR hK => ?_)
                have t3 : a.tmps[3]? = some (.int .u64 ↑x) := (hR.old 3 (by kernel_rfl)).trans (by kernel_rfl)
                go_simp
                exact hK _ _ (Below.refl _ _) rfl
              · refine RStep.mk rfl rfl (fun S a wx K Q hR hK => ?_)
                have t4 : a.tmps[4]? = some (.int .u64 ↑v) := (hR.old 4 (by kernel_rfl)).trans (by kernel_rfl)
                go_simp
                exact hK _ _ (Below.refl _ _) rfl
              · refine RStep.mk rfl rfl (fun S a wx K Q hR hK => ?_)
                have t152 := hR.eq 3 (by kernel_rfl) rfl rfl
                have t153 := hR.eq 4 (by kernel_rfl) rfl rfl
                have t154 := hR.eq 5 (by kernel_rfl) rfl rfl
                go_simp
                go_at_call 29
                go_fit (predHolds_any _ _ p.turn _ _ _ _ (by omega) hx hv (HZ.out.1.r.below hR.bel (Nat.le_refl _)))
                rintro e w' ⟨rfl, hbx⟩
                rw [HTH.out htr, hph]
                exact hK _ _ hbx rfl
              · refine RStep.mk rfl rfl (fun S a wx K Q hR hK => ?_)
                have t5 : a.tmps[5]? = some (.pointer (some ⟨w.heap.size, 0, none⟩)) := (hR.old 5 (by kernel_rfl)).trans (by kernel_rfl)
                have y0 := (hR.bel.cell l0).trans p0
                have y1 := (hR.bel.cell l0).trans p1
                have y2 := (hR.bel.cell l0).trans p2
                have y3 := (hR.bel.cell l0).trans p3
                go_simp
                exact hK _ _ (Below.refl _ _) rfl
              · refine RStep.mk rfl rfl (fun S a wx K Q hR hK => ?_)
                have t3 : a.tmps[3]? = some (.int .u64 ↑x) := (hR.old 3 (by kernel_rfl)).trans (by kernel_rfl)
                go_simp
                exact hK _ _ (Below.refl _ _) rfl
              · refine RStep.mk rfl rfl (fun S a wx K Q hR hK => ?_)
                have t4 : a.tmps[4]? = some (.int .u64 ↑v) := (hR.old 4 (by kernel_rfl)).trans (by kernel_rfl)
                go_simp
                exact hK _ _ (Below.refl _ _) rfl
              · refine RStep.mk rfl rfl (fun S a wx K Q hR hK => ?_)
                have t156 := hR.eq 7 (by kernel_rfl) rfl rfl
                have t157 := hR.eq 8 (by kernel_rfl) rfl rfl
                have t158 := hR.eq 9 (by kernel_rfl) rfl rfl
                go_simp
                go_at_call 29
                go_fit (predHolds_any _ _ p _ _ _ _ (by omega) hx hv (HK16.out.1.rp.below hR.bel (Nat.le_refl _)))
                rintro e w' ⟨rfl, hbx⟩
                rw [hph]
                exact hK _ _ hbx rfl
              · refine RStep.mk rfl rfl (fun S a wx K Q hR hK => ?_)
                have t155 := hR.eq 6 (by kernel_rfl) rfl rfl
                have t159 := hR.eq 10 (by kernel_rfl) rfl rfl
                go_simp
                exact hK _ _ (Below.refl _ _) rfl
              · refine RStep.mk rfl rfl (fun S a wx K Q hR hK => ?_)
                have t151 := hR.eq 2 (by kernel_rfl) rfl rfl
                have t160 := hR.eq 11 (by kernel_rfl) rfl rfl
                go_simp
                exact hK _ _ (Below.refl _ _) rfl
              intro S14 vs we hD
              have hbW := hD.bel
              simp only [putsL, List.foldl_cons, List.foldl_nil]
              clear hD
              go_simp
              (try (go_wp2_with fail))
              go_meet
              exact ⟨rfl, hbW⟩
        case rest =>
          obtain ⟨rfl, hbz⟩ := hcut
          have HZ2 := Lib.hid (HZ.out.2.below hbz)
          have HK17 := Lib.hid (And.intro (HK16.out.1.below hbz) (HK16.out.2.trans (hbz.mono HK16.out.2.size)))
          clear hbz HZ HK16
          go_wp2_with fail
          obtain ⟨we, hwe⟩ : ∃ we, we = wc := ⟨_, rfl⟩
          rw [← hwe] at HZ2 HK17 ⊢
          clear hwe
          obtain ⟨l0, l1⟩ := HK17.out.1.lt
          obtain ⟨⟨p0, p1, p2, p3⟩, q0, q1, q2, q3⟩ := HK17.out.1.cells
          obtain ⟨m0, m1, m2, m3⟩ := HZ2.out.cells
          have lm := HZ2.out.lt
          have HBB := Lib.hid (fun h : (Ex.mk 6 0 0 [p, q]).right = true => both_holds HPR.out HQR.out h x v)
          have hbs : (Ex.mk 6 0 0 [p, q]).size ≤ 122 := by simp only [Ex.size, Ex.sizes]; omega
          cases hbr : (Ex.mk 6 0 0 [p, q]).right with
          | false =>
            refine wp_region_prs (w0 := we) rfl [.eq (.agg #[d0, d1, d2, d3]), .eq (.bool false), .eq (.bool true), .eq (.bool true), .skip, .skip, .skip, .skip, .skip, .skip, .skip, .skip, .skip, .skip, .skip, .skip, .skip, .skip, .skip, .eq ((Value.bool true)), .eq ((Value.bool true)), .eq (.bool true), .eq (.bool true), .eq (.bool true)] (by kernel_rfl) ⟨?_, ?_, ?_, ?_, ?_, ?_, ?_, ?_, ?_, trivial⟩ (fun vs => [(162, (.agg #[d0, d1, d2, d3])), (163, (.bool false)), (164, (.bool true)), (165, (.bool true)), (166, undef), (167, undef), (168, undef), (169, undef), (170, undef), (171, undef), (172, undef), (173, undef), (174, undef), (175, undef), (176, undef), (177, undef), (178, undef), (179, undef), (180, undef), (181, ((Value.bool true))), (182, ((Value.bool true))), (183, (.bool true)), (184, (.bool true)), (10, (.bool true))]) (fun _ => rfl) ?_
            · refine RStep.mk rfl rfl (fun S a wx K Q hR hK => ?_)
              have t21 : a.tmps[21]? = some (.pointer (some ⟨g', 0, none⟩)) := (hR.old 21 (by kernel_rfl)).trans (by kernel_rfl)
              have y0 := (hR.bel.cell lm).trans m0
              have y1 := (hR.bel.cell lm).trans m1
              have y2 := (hR.bel.cell lm).trans m2
              have y3 := (hR.bel.cell lm).trans m3
              go_simp
              exact hK _ _ (Below.refl _ _) rfl
            · refine RStep.mk rfl rfl (fun S a wx K Q hR hK => ?_)
              have t162 := hR.eq 0 (by kernel_rfl) rfl rfl
              go_simp
              go_at_call 23
              go_fit (predRight_any _ _ (.mk 6 0 0 [p, q]) _ _ (by omega) (HZ2.out.r.below hR.bel (Nat.le_refl _)))
              rintro e w' ⟨rfl, hbx⟩
              rw [hbr]
              exact hK _ _ hbx rfl
            · refine RStep.mk rfl rfl (fun S a wx K Q hR hK => ?_)
              have t163 := hR.eq 1 (by kernel_rfl) rfl rfl
              go_simp
              exact hK _ _ (Below.refl _ _) rfl
            · refine RStep.mk rfl rfl (fun S a wx K Q hR hK => ?_)
              have t164 := hR.eq 2 (by kernel_rfl) rfl rfl
              go_simp
              exact hK _ _ (Below.refl _ _) rfl
            · refine RStep.mk rfl rfl (fun S a wx K Q hR hK => ?_)
              have t165 := hR.eq 3 (by kernel_rfl) rfl rfl
              obtain ⟨u180, t180, f180⟩ := hR.dep 18 _ _ (by kernel_rfl) rfl rfl rfl; replace f180 : u180 = undef := f180; subst f180
              go_simp
              exact hK _ _ (Below.refl _ _) rfl
            · refine RStep.mk rfl rfl (fun S a wx K Q hR hK => ?_)
              have t181 := hR.eq 19 (by kernel_rfl) rfl rfl
              go_simp
              exact hK _ _ (Below.refl _ _) rfl
            · refine RStep.mk rfl rfl (fun S a wx K Q hR hK => ?_)
              go_simp
              go_at_call 8
              go_fit (works_any _ (HK17.out.1.below hR.bel).lvAt)
              rintro e w' ⟨rfl, hbx⟩
              exact hK _ _ hbx rfl
            · refine RStep.mk rfl rfl (fun S a wx K Q hR hK => ?_)
              have t182 := hR.eq 20 (by kernel_rfl) rfl rfl
              have t183 := hR.eq 21 (by kernel_rfl) rfl rfl
              go_simp
              exact hK _ _ (Below.refl _ _) rfl
            · refine RStep.mk rfl rfl (fun S a wx K Q hR hK => ?_)
              have t184 := hR.eq 22 (by kernel_rfl) rfl rfl
              go_simp
              exact hK _ _ (Below.refl _ _) rfl
            intro S16 vs wf hD
            have hbW := hD.bel
            simp only [putsL, List.foldl_cons, List.foldl_nil]
            clear hD
            go_simp
            (try (go_wp2_with fail))
            go_ret
            exact ⟨rfl, HK17.out.2.trans (hbW.mono HK17.out.2.size)⟩
          | true =>
            cases hph : p.holds x v with
            | false =>
              refine wp_region_prs (w0 := we) rfl [.eq (.agg #[d0, d1, d2, d3]), .eq (.bool true), .eq (.bool false), .eq (.bool false), .eq (.agg #[d0, d1, d2, d3]), .eq (.int .u64 ↑x), .eq (.int .u64 ↑v), .eq (.bool false), .eq (.agg #[.int .i64 k0, .int .u64 a0, .int .u64 b0, .slice ad0 n0 cap0]), .eq (.int .u64 ↑x), .eq (.int .u64 ↑v), .eq (.bool false), .eq (.bool false), .skip, .skip, .skip, .skip, .eq ((Value.bool false)), .eq (.bool true), .eq (.bool true), .eq (.bool true), .eq (.bool true), .eq (.bool true), .eq (.bool true)] (by kernel_rfl) ⟨?_, ?_, ?_, ?_, ?_, ?_, ?_, ?_, ?_, ?_, ?_, ?_, ?_, ?_, ?_, ?_, ?_, ?_, ?_, ?_, trivial⟩ (fun vs => [(162, (.agg #[d0, d1, d2, d3])), (163, (.bool true)), (164, (.bool false)), (165, (.bool false)), (166, (.agg #[d0, d1, d2, d3])), (167, (.int .u64 ↑x)), (168, (.int .u64 ↑v)), (169, (.bool false)), (170, (.agg #[.int .i64 k0, .int .u64 a0, .int .u64 b0, .slice ad0 n0 cap0])), (171, (.int .u64 ↑x)), (172, (.int .u64 ↑v)), (173, (.bool false)), (174, (.bool false)), (175, undef), (176, undef), (177, undef), (178, undef), (179, ((Value.bool false))), (180, (.bool true)), (181, (.bool true)), (182, (.bool true)), (183, (.bool true)), (184, (.bool true)), (10, (.bool true))]) (fun _ => rfl) ?_
              · refine RStep.mk rfl rfl (fun S a wx K Q hR hK => ?_)
                have t21 : a.tmps[21]? = some (.pointer (some ⟨g', 0, none⟩)) := (hR.old 21 (by kernel_rfl)).trans (by kernel_rfl)
                have y0 := (hR.bel.cell lm).trans m0
                have y1 := (hR.bel.cell lm).trans m1
                have y2 := (hR.bel.cell lm).trans m2
                have y3 := (hR.bel.cell lm).trans m3
                go_simp
                exact hK _ _ (Below.refl _ _) rfl
              · refine RStep.mk rfl rfl (fun S a wx K Q hR hK => ?_)
                have t162 := hR.eq 0 (by kernel_rfl) rfl rfl
                go_simp
                go_at_call 23
                go_fit (predRight_any _ _ (.mk 6 0 0 [p, q]) _ _ (by omega) (HZ2.out.r.below hR.bel (Nat.le_refl _)))
                rintro e w' ⟨rfl, hbx⟩
                rw [hbr]
                exact hK _ _ hbx rfl
              · refine RStep.mk rfl rfl (fun S a wx K Q hR hK => ?_)
                have t163 := hR.eq 1 (by kernel_rfl) rfl rfl
                go_simp
                exact hK _ _ (Below.refl _ _) rfl
              · refine RStep.mk rfl rfl (fun S a wx K Q hR hK => ?_)
                have t164 := hR.eq 2 (by kernel_rfl) rfl rfl
                go_simp
                exact hK _ _ (Below.refl _ _) rfl
              · refine RStep.mk rfl rfl (fun S a wx K Q hR hK => ?_)
                have t21 : a.tmps[21]? = some (.pointer (some ⟨g', 0, none⟩)) := (hR.old 21 (by kernel_rfl)).trans (by kernel_rfl)
                have y0 := (hR.bel.cell lm).trans m0
                have y1 := (hR.bel.cell lm).trans m1
                have y2 := (hR.bel.cell lm).trans m2
                have y3 := (hR.bel.cell lm).trans m3
                go_simp
                exact hK _ _ (Below.refl _ _) rfl
              · refine RStep.mk rfl rfl (fun S a wx K Q hR hK => ?_)
                have t3 : a.tmps[3]? = some (.int .u64 ↑x) := (hR.old 3 (by kernel_rfl)).trans (by kernel_rfl)
                go_simp
                exact hK _ _ (Below.refl _ _) rfl
              · refine RStep.mk rfl rfl (fun S a wx K Q hR hK => ?_)
                have t4 : a.tmps[4]? = some (.int .u64 ↑v) := (hR.old 4 (by kernel_rfl)).trans (by kernel_rfl)
                go_simp
                exact hK _ _ (Below.refl _ _) rfl
              · refine RStep.mk rfl rfl (fun S a wx K Q hR hK => ?_)
                have t166 := hR.eq 4 (by kernel_rfl) rfl rfl
                have t167 := hR.eq 5 (by kernel_rfl) rfl rfl
                have t168 := hR.eq 6 (by kernel_rfl) rfl rfl
                go_simp
                go_at_call 29
                go_fit (predHolds_any _ _ (.mk 6 0 0 [p, q]) _ _ _ _ (by omega) hx hv (HZ2.out.r.below hR.bel (Nat.le_refl _)))
                rintro e w' ⟨rfl, hbx⟩
                rw [HBB.out hbr, hph, Bool.false_and]
                exact hK _ _ hbx rfl
              · refine RStep.mk rfl rfl (fun S a wx K Q hR hK => ?_)
                have t5 : a.tmps[5]? = some (.pointer (some ⟨w.heap.size, 0, none⟩)) := (hR.old 5 (by kernel_rfl)).trans (by kernel_rfl)
                have y0 := (hR.bel.cell l0).trans p0
                have y1 := (hR.bel.cell l0).trans p1
                have y2 := (hR.bel.cell l0).trans p2
                have y3 := (hR.bel.cell l0).trans p3
                go_simp
                exact hK _ _ (Below.refl _ _) rfl
              · refine RStep.mk rfl rfl (fun S a wx K Q hR hK => ?_)
                have t3 : a.tmps[3]? = some (.int .u64 ↑x) := (hR.old 3 (by kernel_rfl)).trans (by kernel_rfl)
                go_simp
                exact hK _ _ (Below.refl _ _) rfl
              · refine RStep.mk rfl rfl (fun S a wx K Q hR hK => ?_)
                have t4 : a.tmps[4]? = some (.int .u64 ↑v) := (hR.old 4 (by kernel_rfl)).trans (by kernel_rfl)
                go_simp
                exact hK _ _ (Below.refl _ _) rfl
              · refine RStep.mk rfl rfl (fun S a wx K Q hR hK => ?_)
                have t170 := hR.eq 8 (by kernel_rfl) rfl rfl
                have t171 := hR.eq 9 (by kernel_rfl) rfl rfl
                have t172 := hR.eq 10 (by kernel_rfl) rfl rfl
                go_simp
                go_at_call 29
                go_fit (predHolds_any _ _ p _ _ _ _ (by omega) hx hv (HK17.out.1.rp.below hR.bel (Nat.le_refl _)))
                rintro e w' ⟨rfl, hbx⟩
                rw [hph]
                exact hK _ _ hbx rfl
              · refine RStep.mk rfl rfl (fun S a wx K Q hR hK => ?_)
                have t173 := hR.eq 11 (by kernel_rfl) rfl rfl
                go_simp
                exact hK _ _ (Below.refl _ _) rfl
              · refine RStep.mk rfl rfl (fun S a wx K Q hR hK => ?_)
                have t174 := hR.eq 12 (by kernel_rfl) rfl rfl
                obtain ⟨u178, t178, f178⟩ := hR.dep 16 _ _ (by kernel_rfl) rfl rfl rfl; replace f178 : u178 = undef := f178; subst f178
                go_simp
                exact hK _ _ (Below.refl _ _) rfl
              · refine RStep.mk rfl rfl (fun S a wx K Q hR hK => ?_)
                have t169 := hR.eq 7 (by kernel_rfl) rfl rfl
                have t179 := hR.eq 17 (by kernel_rfl) rfl rfl
                go_simp
                exact hK _ _ (Below.refl _ _) rfl
              · refine RStep.mk rfl rfl (fun S a wx K Q hR hK => ?_)
                have t165 := hR.eq 3 (by kernel_rfl) rfl rfl
                have t180 := hR.eq 18 (by kernel_rfl) rfl rfl
                go_simp
                exact hK _ _ (Below.refl _ _) rfl
              · refine RStep.mk rfl rfl (fun S a wx K Q hR hK => ?_)
                have t181 := hR.eq 19 (by kernel_rfl) rfl rfl
                go_simp
                exact hK _ _ (Below.refl _ _) rfl
              · refine RStep.mk rfl rfl (fun S a wx K Q hR hK => ?_)
                go_simp
                go_at_call 8
                go_fit (works_any _ (HK17.out.1.below hR.bel).lvAt)
                rintro e w' ⟨rfl, hbx⟩
                exact hK _ _ hbx rfl
              · refine RStep.mk rfl rfl (fun S a wx K Q hR hK => ?_)
                have t182 := hR.eq 20 (by kernel_rfl) rfl rfl
                have t183 := hR.eq 21 (by kernel_rfl) rfl rfl
                go_simp
                exact hK _ _ (Below.refl _ _) rfl
              · refine RStep.mk rfl rfl (fun S a wx K Q hR hK => ?_)
                have t184 := hR.eq 22 (by kernel_rfl) rfl rfl
                go_simp
                exact hK _ _ (Below.refl _ _) rfl
              intro S16 vs wf hD
              have hbW := hD.bel
              simp only [putsL, List.foldl_cons, List.foldl_nil]
              clear hD
              go_simp
              (try (go_wp2_with fail))
              go_ret
              exact ⟨rfl, HK17.out.2.trans (hbW.mono HK17.out.2.size)⟩
            | true =>
              cases hqh : q.holds x v with
              | false =>
                refine wp_region_prs (w0 := we) rfl [.eq (.agg #[d0, d1, d2, d3]), .eq (.bool true), .eq (.bool false), .eq (.bool false), .eq (.agg #[d0, d1, d2, d3]), .eq (.int .u64 ↑x), .eq (.int .u64 ↑v), .eq (.bool false), .eq (.agg #[.int .i64 k0, .int .u64 a0, .int .u64 b0, .slice ad0 n0 cap0]), .eq (.int .u64 ↑x), .eq (.int .u64 ↑v), .eq (.bool true), .eq (.bool true), .eq (.agg #[.int .i64 k1, .int .u64 a1, .int .u64 b1, .slice ad1 n1 cap1]), .eq (.int .u64 ↑x), .eq (.int .u64 ↑v), .eq (.bool false), .eq (.bool false), .eq (.bool true), .eq (.bool true), .eq (.bool true), .eq (.bool true), .eq (.bool true), .eq (.bool true)] (by kernel_rfl) ⟨?_, ?_, ?_, ?_, ?_, ?_, ?_, ?_, ?_, ?_, ?_, ?_, ?_, ?_, ?_, ?_, ?_, ?_, ?_, ?_, ?_, ?_, ?_, ?_, trivial⟩ (fun vs => [(162, (.agg #[d0, d1, d2, d3])), (163, (.bool true)), (164, (.bool false)), (165, (.bool false)), (166, (.agg #[d0, d1, d2, d3])), (167, (.int .u64 ↑x)), (168, (.int .u64 ↑v)), (169, (.bool false)), (170, (.agg #[.int .i64 k0, .int .u64 a0, .int .u64 b0, .slice ad0 n0 cap0])), (171, (.int .u64 ↑x)), (172, (.int .u64 ↑v)), (173, (.bool true)), (174, (.bool true)), (175, (.agg #[.int .i64 k1, .int .u64 a1, .int .u64 b1, .slice ad1 n1 cap1])), (176, (.int .u64 ↑x)), (177, (.int .u64 ↑v)), (178, (.bool false)), (179, (.bool false)), (180, (.bool true)), (181, (.bool true)), (182, (.bool true)), (183, (.bool true)), (184, (.bool true)), (10, (.bool true))]) (fun _ => rfl) ?_
                · refine RStep.mk rfl rfl (fun S a wx K Q hR hK => ?_)
                  have t21 : a.tmps[21]? = some (.pointer (some ⟨g', 0, none⟩)) := (hR.old 21 (by kernel_rfl)).trans (by kernel_rfl)
                  have y0 := (hR.bel.cell lm).trans m0
                  have y1 := (hR.bel.cell lm).trans m1
                  have y2 := (hR.bel.cell lm).trans m2
                  have y3 := (hR.bel.cell lm).trans m3
                  go_simp
                  exact hK _ _ (Below.refl _ _) rfl
                · refine RStep.mk rfl rfl (fun S a wx K Q hR hK => ?_)
                  have t162 := hR.eq 0 (by kernel_rfl) rfl rfl
                  go_simp
                  go_at_call 23
                  go_fit (predRight_any _ _ (.mk 6 0 0 [p, q]) _ _ (by omega) (HZ2.out.r.below hR.bel (Nat.le_refl _)))
                  rintro e w' ⟨rfl, hbx⟩
                  rw [hbr]
                  exact hK _ _ hbx rfl
                · refine RStep.mk rfl rfl (fun S a wx K Q hR hK => ?_)
                  have t163 := hR.eq 1 (by kernel_rfl) rfl rfl
                  go_simp
                  exact hK _ _ (Below.refl _ _) rfl
                · refine RStep.mk rfl rfl (fun S a wx K Q hR hK => ?_)
                  have t164 := hR.eq 2 (by kernel_rfl) rfl rfl
                  go_simp
                  exact hK _ _ (Below.refl _ _) rfl
                · refine RStep.mk rfl rfl (fun S a wx K Q hR hK => ?_)
                  have t21 : a.tmps[21]? = some (.pointer (some ⟨g', 0, none⟩)) := (hR.old 21 (by kernel_rfl)).trans (by kernel_rfl)
                  have y0 := (hR.bel.cell lm).trans m0
                  have y1 := (hR.bel.cell lm).trans m1
                  have y2 := (hR.bel.cell lm).trans m2
                  have y3 := (hR.bel.cell lm).trans m3
                  go_simp
                  exact hK _ _ (Below.refl _ _) rfl
                · refine RStep.mk rfl rfl (fun S a wx K Q hR hK => ?_)
                  have t3 : a.tmps[3]? = some (.int .u64 ↑x) := (hR.old 3 (by kernel_rfl)).trans (by kernel_rfl)
                  go_simp
                  exact hK _ _ (Below.refl _ _) rfl
                · refine RStep.mk rfl rfl (fun S a wx K Q hR hK => ?_)
                  have t4 : a.tmps[4]? = some (.int .u64 ↑v) := (hR.old 4 (by kernel_rfl)).trans (by kernel_rfl)
                  go_simp
                  exact hK _ _ (Below.refl _ _) rfl
                · refine RStep.mk rfl rfl (fun S a wx K Q hR hK => ?_)
                  have t166 := hR.eq 4 (by kernel_rfl) rfl rfl
                  have t167 := hR.eq 5 (by kernel_rfl) rfl rfl
                  have t168 := hR.eq 6 (by kernel_rfl) rfl rfl
                  go_simp
                  go_at_call 29
                  go_fit (predHolds_any _ _ (.mk 6 0 0 [p, q]) _ _ _ _ (by omega) hx hv (HZ2.out.r.below hR.bel (Nat.le_refl _)))
                  rintro e w' ⟨rfl, hbx⟩
                  rw [HBB.out hbr, hph, hqh, Bool.true_and]
                  exact hK _ _ hbx rfl
                · refine RStep.mk rfl rfl (fun S a wx K Q hR hK => ?_)
                  have t5 : a.tmps[5]? = some (.pointer (some ⟨w.heap.size, 0, none⟩)) := (hR.old 5 (by kernel_rfl)).trans (by kernel_rfl)
                  have y0 := (hR.bel.cell l0).trans p0
                  have y1 := (hR.bel.cell l0).trans p1
                  have y2 := (hR.bel.cell l0).trans p2
                  have y3 := (hR.bel.cell l0).trans p3
                  go_simp
                  exact hK _ _ (Below.refl _ _) rfl
                · refine RStep.mk rfl rfl (fun S a wx K Q hR hK => ?_)
                  have t3 : a.tmps[3]? = some (.int .u64 ↑x) := (hR.old 3 (by kernel_rfl)).trans (by kernel_rfl)
                  go_simp
                  exact hK _ _ (Below.refl _ _) rfl
                · refine RStep.mk rfl rfl (fun S a wx K Q hR hK => ?_)
                  have t4 : a.tmps[4]? = some (.int .u64 ↑v) := (hR.old 4 (by kernel_rfl)).trans (by kernel_rfl)
                  go_simp
                  exact hK _ _ (Below.refl _ _) rfl
                · refine RStep.mk rfl rfl (fun S a wx K Q hR hK => ?_)
                  have t170 := hR.eq 8 (by kernel_rfl) rfl rfl
                  have t171 := hR.eq 9 (by kernel_rfl) rfl rfl
                  have t172 := hR.eq 10 (by kernel_rfl) rfl rfl
                  go_simp
                  go_at_call 29
                  go_fit (predHolds_any _ _ p _ _ _ _ (by omega) hx hv (HK17.out.1.rp.below hR.bel (Nat.le_refl _)))
                  rintro e w' ⟨rfl, hbx⟩
                  rw [hph]
                  exact hK _ _ hbx rfl
                · refine RStep.mk rfl rfl (fun S a wx K Q hR hK => ?_)
                  have t173 := hR.eq 11 (by kernel_rfl) rfl rfl
                  go_simp
                  exact hK _ _ (Below.refl _ _) rfl
                · refine RStep.mk rfl rfl (fun S a wx K Q hR hK => ?_)
                  have t6 : a.tmps[6]? = some (.pointer (some ⟨w.heap.size + 1, 0, none⟩)) := (hR.old 6 (by kernel_rfl)).trans (by kernel_rfl)
                  have y0 := (hR.bel.cell l1).trans q0
                  have y1 := (hR.bel.cell l1).trans q1
                  have y2 := (hR.bel.cell l1).trans q2
                  have y3 := (hR.bel.cell l1).trans q3
                  go_simp
                  exact hK _ _ (Below.refl _ _) rfl
                · refine RStep.mk rfl rfl (fun S a wx K Q hR hK => ?_)
                  have t3 : a.tmps[3]? = some (.int .u64 ↑x) := (hR.old 3 (by kernel_rfl)).trans (by kernel_rfl)
                  go_simp
                  exact hK _ _ (Below.refl _ _) rfl
                · refine RStep.mk rfl rfl (fun S a wx K Q hR hK => ?_)
                  have t4 : a.tmps[4]? = some (.int .u64 ↑v) := (hR.old 4 (by kernel_rfl)).trans (by kernel_rfl)
                  go_simp
                  exact hK _ _ (Below.refl _ _) rfl
                · refine RStep.mk rfl rfl (fun S a wx K Q hR hK => ?_)
                  have t175 := hR.eq 13 (by kernel_rfl) rfl rfl
                  have t176 := hR.eq 14 (by kernel_rfl) rfl rfl
                  have t177 := hR.eq 15 (by kernel_rfl) rfl rfl
                  go_simp
                  go_at_call 29
                  go_fit (predHolds_any _ _ q _ _ _ _ (by omega) hx hv (HK17.out.1.rq.below hR.bel (Nat.le_refl _)))
                  rintro e w' ⟨rfl, hbx⟩
                  rw [hqh]
                  exact hK _ _ hbx rfl
                · refine RStep.mk rfl rfl (fun S a wx K Q hR hK => ?_)
                  have t174 := hR.eq 12 (by kernel_rfl) rfl rfl
                  have t178 := hR.eq 16 (by kernel_rfl) rfl rfl
                  go_simp
                  exact hK _ _ (Below.refl _ _) rfl
                · refine RStep.mk rfl rfl (fun S a wx K Q hR hK => ?_)
                  have t169 := hR.eq 7 (by kernel_rfl) rfl rfl
                  have t179 := hR.eq 17 (by kernel_rfl) rfl rfl
                  go_simp
                  exact hK _ _ (Below.refl _ _) rfl
                · refine RStep.mk rfl rfl (fun S a wx K Q hR hK => ?_)
                  have t165 := hR.eq 3 (by kernel_rfl) rfl rfl
                  have t180 := hR.eq 18 (by kernel_rfl) rfl rfl
                  go_simp
                  exact hK _ _ (Below.refl _ _) rfl
                · refine RStep.mk rfl rfl (fun S a wx K Q hR hK => ?_)
                  have t181 := hR.eq 19 (by kernel_rfl) rfl rfl
                  go_simp
                  exact hK _ _ (Below.refl _ _) rfl
                · refine RStep.mk rfl rfl (fun S a wx K Q hR hK => ?_)
                  go_simp
                  go_at_call 8
                  go_fit (works_any _ (HK17.out.1.below hR.bel).lvAt)
                  rintro e w' ⟨rfl, hbx⟩
                  exact hK _ _ hbx rfl
                · refine RStep.mk rfl rfl (fun S a wx K Q hR hK => ?_)
                  have t182 := hR.eq 20 (by kernel_rfl) rfl rfl
                  have t183 := hR.eq 21 (by kernel_rfl) rfl rfl
                  go_simp
                  exact hK _ _ (Below.refl _ _) rfl
                · refine RStep.mk rfl rfl (fun S a wx K Q hR hK => ?_)
                  have t184 := hR.eq 22 (by kernel_rfl) rfl rfl
                  go_simp
                  exact hK _ _ (Below.refl _ _) rfl
                intro S16 vs wf hD
                have hbW := hD.bel
                simp only [putsL, List.foldl_cons, List.foldl_nil]
                clear hD
                go_simp
                (try (go_wp2_with fail))
                go_ret
                exact ⟨rfl, HK17.out.2.trans (hbW.mono HK17.out.2.size)⟩
              | true =>
                refine wp_region_prs (w0 := we) rfl [.eq (.agg #[d0, d1, d2, d3]), .eq (.bool true), .eq (.bool false), .eq (.bool false), .eq (.agg #[d0, d1, d2, d3]), .eq (.int .u64 ↑x), .eq (.int .u64 ↑v), .eq (.bool true), .eq (.agg #[.int .i64 k0, .int .u64 a0, .int .u64 b0, .slice ad0 n0 cap0]), .eq (.int .u64 ↑x), .eq (.int .u64 ↑v), .eq (.bool true), .eq (.bool true), .eq (.agg #[.int .i64 k1, .int .u64 a1, .int .u64 b1, .slice ad1 n1 cap1]), .eq (.int .u64 ↑x), .eq (.int .u64 ↑v), .eq (.bool true), .eq (.bool true), .eq (.bool true), .eq (.bool true), .eq (.bool true), .eq (.bool true), .eq (.bool true), .eq (.bool true)] (by kernel_rfl) ⟨?_, ?_, ?_, ?_, ?_, ?_, ?_, ?_, ?_, ?_, ?_, ?_, ?_, ?_, ?_, ?_, ?_, ?_, ?_, ?_, ?_, ?_, ?_, ?_, trivial⟩ (fun vs => [(162, (.agg #[d0, d1, d2, d3])), (163, (.bool true)), (164, (.bool false)), (165, (.bool false)), (166, (.agg #[d0, d1, d2, d3])), (167, (.int .u64 ↑x)), (168, (.int .u64 ↑v)), (169, (.bool true)), (170, (.agg #[.int .i64 k0, .int .u64 a0, .int .u64 b0, .slice ad0 n0 cap0])), (171, (.int .u64 ↑x)), (172, (.int .u64 ↑v)), (173, (.bool true)), (174, (.bool true)), (175, (.agg #[.int .i64 k1, .int .u64 a1, .int .u64 b1, .slice ad1 n1 cap1])), (176, (.int .u64 ↑x)), (177, (.int .u64 ↑v)), (178, (.bool true)), (179, (.bool true)), (180, (.bool true)), (181, (.bool true)), (182, (.bool true)), (183, (.bool true)), (184, (.bool true)), (10, (.bool true))]) (fun _ => rfl) ?_
                · refine RStep.mk rfl rfl (fun S a wx K Q hR hK => ?_)
                  have t21 : a.tmps[21]? = some (.pointer (some ⟨g', 0, none⟩)) := (hR.old 21 (by kernel_rfl)).trans (by kernel_rfl)
                  have y0 := (hR.bel.cell lm).trans m0
                  have y1 := (hR.bel.cell lm).trans m1
                  have y2 := (hR.bel.cell lm).trans m2
                  have y3 := (hR.bel.cell lm).trans m3
                  go_simp
                  exact hK _ _ (Below.refl _ _) rfl
                · refine RStep.mk rfl rfl (fun S a wx K Q hR hK => ?_)
                  have t162 := hR.eq 0 (by kernel_rfl) rfl rfl
                  go_simp
                  go_at_call 23
                  go_fit (predRight_any _ _ (.mk 6 0 0 [p, q]) _ _ (by omega) (HZ2.out.r.below hR.bel (Nat.le_refl _)))
                  rintro e w' ⟨rfl, hbx⟩
                  rw [hbr]
                  exact hK _ _ hbx rfl
                · refine RStep.mk rfl rfl (fun S a wx K Q hR hK => ?_)
                  have t163 := hR.eq 1 (by kernel_rfl) rfl rfl
                  go_simp
                  exact hK _ _ (Below.refl _ _) rfl
                · refine RStep.mk rfl rfl (fun S a wx K Q hR hK => ?_)
                  have t164 := hR.eq 2 (by kernel_rfl) rfl rfl
                  go_simp
                  exact hK _ _ (Below.refl _ _) rfl
                · refine RStep.mk rfl rfl (fun S a wx K Q hR hK => ?_)
                  have t21 : a.tmps[21]? = some (.pointer (some ⟨g', 0, none⟩)) := (hR.old 21 (by kernel_rfl)).trans (by kernel_rfl)
                  have y0 := (hR.bel.cell lm).trans m0
                  have y1 := (hR.bel.cell lm).trans m1
                  have y2 := (hR.bel.cell lm).trans m2
                  have y3 := (hR.bel.cell lm).trans m3
                  go_simp
                  exact hK _ _ (Below.refl _ _) rfl
                · refine RStep.mk rfl rfl (fun S a wx K Q hR hK => ?_)
                  have t3 : a.tmps[3]? = some (.int .u64 ↑x) := (hR.old 3 (by kernel_rfl)).trans (by kernel_rfl)
                  go_simp
                  exact hK _ _ (Below.refl _ _) rfl
                · refine RStep.mk rfl rfl (fun S a wx K Q hR hK => ?_)
                  have t4 : a.tmps[4]? = some (.int .u64 ↑v) := (hR.old 4 (by kernel_rfl)).trans (by kernel_rfl)
                  go_simp
                  exact hK _ _ (Below.refl _ _) rfl
                · refine RStep.mk rfl rfl (fun S a wx K Q hR hK => ?_)
                  have t166 := hR.eq 4 (by kernel_rfl) rfl rfl
                  have t167 := hR.eq 5 (by kernel_rfl) rfl rfl
                  have t168 := hR.eq 6 (by kernel_rfl) rfl rfl
                  go_simp
                  go_at_call 29
                  go_fit (predHolds_any _ _ (.mk 6 0 0 [p, q]) _ _ _ _ (by omega) hx hv (HZ2.out.r.below hR.bel (Nat.le_refl _)))
                  rintro e w' ⟨rfl, hbx⟩
                  rw [HBB.out hbr, hph, hqh, Bool.true_and]
                  exact hK _ _ hbx rfl
                · refine RStep.mk rfl rfl (fun S a wx K Q hR hK => ?_)
                  have t5 : a.tmps[5]? = some (.pointer (some ⟨w.heap.size, 0, none⟩)) := (hR.old 5 (by kernel_rfl)).trans (by kernel_rfl)
                  have y0 := (hR.bel.cell l0).trans p0
                  have y1 := (hR.bel.cell l0).trans p1
                  have y2 := (hR.bel.cell l0).trans p2
                  have y3 := (hR.bel.cell l0).trans p3
                  go_simp
                  exact hK _ _ (Below.refl _ _) rfl
                · refine RStep.mk rfl rfl (fun S a wx K Q hR hK => ?_)
                  have t3 : a.tmps[3]? = some (.int .u64 ↑x) := (hR.old 3 (by kernel_rfl)).trans (by kernel_rfl)
                  go_simp
                  exact hK _ _ (Below.refl _ _) rfl
                · refine RStep.mk rfl rfl (fun S a wx K Q hR hK => ?_)
                  have t4 : a.tmps[4]? = some (.int .u64 ↑v) := (hR.old 4 (by kernel_rfl)).trans (by kernel_rfl)
                  go_simp
                  exact hK _ _ (Below.refl _ _) rfl
                · refine RStep.mk rfl rfl (fun S a wx K Q hR hK => ?_)
                  have t170 := hR.eq 8 (by kernel_rfl) rfl rfl
                  have t171 := hR.eq 9 (by kernel_rfl) rfl rfl
                  have t172 := hR.eq 10 (by kernel_rfl) rfl rfl
                  go_simp
                  go_at_call 29
                  go_fit (predHolds_any _ _ p _ _ _ _ (by omega) hx hv (HK17.out.1.rp.below hR.bel (Nat.le_refl _)))
                  rintro e w' ⟨rfl, hbx⟩
                  rw [hph]
                  exact hK _ _ hbx rfl
                · refine RStep.mk rfl rfl (fun S a wx K Q hR hK => ?_)
                  have t173 := hR.eq 11 (by kernel_rfl) rfl rfl
                  go_simp
                  exact hK _ _ (Below.refl _ _) rfl
                · refine RStep.mk rfl rfl (fun S a wx K Q hR hK => ?_)
                  have t6 : a.tmps[6]? = some (.pointer (some ⟨w.heap.size + 1, 0, none⟩)) := (hR.old 6 (by kernel_rfl)).trans (by kernel_rfl)
                  have y0 := (hR.bel.cell l1).trans q0
                  have y1 := (hR.bel.cell l1).trans q1
                  have y2 := (hR.bel.cell l1).trans q2
                  have y3 := (hR.bel.cell l1).trans q3
                  go_simp
                  exact hK _ _ (Below.refl _ _) rfl
                · refine RStep.mk rfl rfl (fun S a wx K Q hR hK => ?_)
                  have t3 : a.tmps[3]? = some (.int .u64 ↑x) := (hR.old 3 (by kernel_rfl)).trans (by kernel_rfl)
                  go_simp
                  exact hK _ _ (Below.refl _ _) rfl
                · refine RStep.mk rfl rfl (fun S a wx K Q hR hK => ?_)
                  have t4 : a.tmps[4]? = some (.int .u64 ↑v) := (hR.old 4 (by kernel_rfl)).trans (by kernel_rfl)
                  go_simp
                  exact hK _ _ (Below.refl _ _) rfl
                · refine RStep.mk rfl rfl (fun S a wx K Q hR hK => ?_)
                  have t175 := hR.eq 13 (by kernel_rfl) rfl rfl
                  have t176 := hR.eq 14 (by kernel_rfl) rfl rfl
                  have t177 := hR.eq 15 (by kernel_rfl) rfl rfl
                  go_simp
                  go_at_call 29
                  go_fit (predHolds_any _ _ q _ _ _ _ (by omega) hx hv (HK17.out.1.rq.below hR.bel (Nat.le_refl _)))
                  rintro e w' ⟨rfl, hbx⟩
                  rw [hqh]
                  exact hK _ _ hbx rfl
                · refine RStep.mk rfl rfl (fun S a wx K Q hR hK => ?_)
                  have t174 := hR.eq 12 (by kernel_rfl) rfl rfl
                  have t178 := hR.eq 16 (by kernel_rfl) rfl rfl
                  go_simp
                  exact hK _ _ (Below.refl _ _) rfl
                · refine RStep.mk rfl rfl (fun S a wx K Q hR hK => ?_)
                  have t169 := hR.eq 7 (by kernel_rfl) rfl rfl
                  have t179 := hR.eq 17 (by kernel_rfl) rfl rfl
                  go_simp
                  exact hK _ _ (Below.refl _ _) rfl
                · refine RStep.mk rfl rfl (fun S a wx K Q hR hK => ?_)
                  have t165 := hR.eq 3 (by kernel_rfl) rfl rfl
                  have t180 := hR.eq 18 (by kernel_rfl) rfl rfl
                  go_simp
                  exact hK _ _ (Below.refl _ _) rfl
                · refine RStep.mk rfl rfl (fun S a wx K Q hR hK => ?_)
                  have t181 := hR.eq 19 (by kernel_rfl) rfl rfl
                  go_simp
                  exact hK _ _ (Below.refl _ _) rfl
                · refine RStep.mk rfl rfl (fun S a wx K Q hR hK => ?_)
                  go_simp
                  go_at_call 8
                  go_fit (works_any _ (HK17.out.1.below hR.bel).lvAt)
                  rintro e w' ⟨rfl, hbx⟩
                  exact hK _ _ hbx rfl
                · refine RStep.mk rfl rfl (fun S a wx K Q hR hK => ?_)
                  have t182 := hR.eq 20 (by kernel_rfl) rfl rfl
                  have t183 := hR.eq 21 (by kernel_rfl) rfl rfl
                  go_simp
                  exact hK _ _ (Below.refl _ _) rfl
                · refine RStep.mk rfl rfl (fun S a wx K Q hR hK => ?_)
                  have t184 := hR.eq 22 (by kernel_rfl) rfl rfl
                  go_simp
                  exact hK _ _ (Below.refl _ _) rfl
                intro S16 vs wf hD
                have hbW := hD.bel
                simp only [putsL, List.foldl_cons, List.foldl_nil]
                clear hD
                go_simp
                (try (go_wp2_with fail))
                go_ret
                exact ⟨rfl, HK17.out.2.trans (hbW.mono HK17.out.2.size)⟩
end Go.Proofs.YtohjkejdkhdjbaaGreatDoor
