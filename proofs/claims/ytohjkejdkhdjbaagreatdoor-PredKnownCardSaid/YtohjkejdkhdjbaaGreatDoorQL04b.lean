/- The law PredTells, walked. -/
import Derived.Test.YtohjkejdkhdjbaaGreatDoorQ5
import Derived.Test.YtohjkejdkhdjbaaGreatDoorQT03
import Derived.Test.YtohjkejdkhdjbaaGreatDoorQW04f
import Derived.Test.YtohjkejdkhdjbaaGreatDoorQW04j
import Derived.Test.YtohjkejdkhdjbaaGreatDoorQW04n
import Derived.Deep.DeepFit
import Derived.Deep.CutRange
import Derived.Deep.RegionHeld3
import Derived.Deep.RegionLaw
namespace Go.Proofs.YtohjkejdkhdjbaaGreatDoor
open Go.RowKit Go
set_option linter.unusedVariables false
set_option linter.unusedSimpArgs false
/-- A variable that holds a tree. -/
def Var (w : World) (T : TypeId) (g : Nat) (S : Nat → Prop) (own : Bool) (e : Ex) (v : Value) : Prop := RepE w S own e v ∧ ∃ cs, v = .agg cs ∧ w.heap[g]? = some (.cells cs T (0, 0))
theorem Var.below {w w' : World} {T : TypeId} {g : Nat} {S : Nat → Prop} {own : Bool} {e : Ex} {v : Value} (h : Var w T g S own e v) (hb : Below w.heap.size w w') : Var w' T g S own e v := by
  obtain ⟨h1, cs, h2, h3⟩ := h
  exact ⟨h1.below hb (Nat.le_refl _), cs, h2, (hb.block _ (Array.getElem?_eq_some_iff.1 h3).1).trans h3⟩
theorem hset4 {w : World} {g b : Nat} {c0 c1 c2 c3 : Value} (h : b ≠ g) : ((((w.setCell ⟨g, 0, none⟩ c0).setCell ⟨g, 1, none⟩ c1).setCell ⟨g, 2, none⟩ c2).setCell ⟨g, 3, none⟩ c3).heap[b]? = w.heap[b]? := by
  rw [Below.heap_setCell _ _ _ _ h, Below.heap_setCell _ _ _ _ h, Below.heap_setCell _ _ _ _ h, Below.heap_setCell _ _ _ _ h]
theorem set4 {w : World} {g : Nat} {T : TypeId} {z0 z1 z2 z3 c0 c1 c2 c3 : Value} (h : w.heap[g]? = some (.cells #[z0, z1, z2, z3] T (0, 0))) : ((((w.setCell ⟨g, 0, none⟩ c0).setCell ⟨g, 1, none⟩ c1).setCell ⟨g, 2, none⟩ c2).setCell ⟨g, 3, none⟩ c3).heap[g]? = some (.cells #[c0, c1, c2, c3] T (0, 0)) :=
  heap_set_at (heap_set_at (heap_set_at (heap_set_at h rfl) rfl) rfl) rfl
section
variable {w2 w4 : World} {T : TypeId} {Pp Pq : Nat → Prop} {p q : Ex} {r0 r1 r2 r3 s0 s1 s2 s3 : Value}
/-- Where two variables have come to lie. -/
def Two (rv sv : Value) (w2 wx : World) (T : TypeId) (p q : Ex) : Prop := ∃ rb sb ru su, rv = .pointer (some ⟨rb, 0, none⟩) ∧ sv = .pointer (some ⟨sb, 0, none⟩) ∧ Var wx T rb (fun b => w2.heap.size ≤ b) true p ru ∧ Var wx T sb (fun b => w2.heap.size ≤ b) true q su ∧ Below w2.heap.size w2 wx
theorem two_nn (hb : Below w2.heap.size w2 w4) (hr : RepE w4 Pp true p (.agg #[r0, r1, r2, r3])) (hs : RepE w4 Pq true q (.agg #[s0, s1, s2, s3])) (hp : ∀ b, Pp b → w2.heap.size ≤ b) (hq : ∀ b, Pq b → w2.heap.size ≤ b) :
    Two (.pointer (some ⟨w4.heap.size, 0, none⟩)) (.pointer (some ⟨w4.heap.size + 1, 0, none⟩)) w2 ((w4.alloc (.cells #[r0, r1, r2, r3] T)).alloc (.cells #[s0, s1, s2, s3] T)) T p q :=by
  have h1 : Below w4.heap.size w4 ((w4.alloc (.cells #[r0, r1, r2, r3] T)).alloc (.cells #[s0, s1, s2, s3] T)) := ((Below.refl _ _).alloc (Nat.le_refl _) _).alloc (by simp) _
  exact ⟨_, _, _, _, rfl, rfl, ⟨(hr.below h1 (Nat.le_refl _)).wider (fun b _ h => hp b h), _, rfl, (heap_alloc_lt _ _ _ (by simp)).trans (heap_alloc_new w4 _)⟩, ⟨(hs.below h1 (Nat.le_refl _)).wider (fun b _ h => hq b h), _, rfl, heap_alloc_at _ _ _ (by simp)⟩, hb.trans (h1.mono hb.size)⟩
theorem two_mm (hb : Below w2.heap.size w2 w4) (hr : RepE w4 Pp true p (.agg #[r0, r1, r2, r3])) (hs : RepE w4 Pq true q (.agg #[s0, s1, s2, s3])) (hp : ∀ b, Pp b → w2.heap.size ≤ b) (hq : ∀ b, Pq b → w2.heap.size ≤ b) :
    Two (.pointer (some ⟨w4.heap.size + 1, 0, none⟩)) (.pointer (some ⟨w4.heap.size, 0, none⟩)) w2 ((w4.alloc (.cells #[s0, s1, s2, s3] T)).alloc (.cells #[r0, r1, r2, r3] T)) T p q :=by
  have h1 : Below w4.heap.size w4 ((w4.alloc (.cells #[s0, s1, s2, s3] T)).alloc (.cells #[r0, r1, r2, r3] T)) := ((Below.refl _ _).alloc (Nat.le_refl _) _).alloc (by simp) _
  exact ⟨_, _, _, _, rfl, rfl, ⟨(hr.below h1 (Nat.le_refl _)).wider (fun b _ h => hp b h), _, rfl, heap_alloc_at _ _ _ (by simp)⟩, ⟨(hs.below h1 (Nat.le_refl _)).wider (fun b _ h => hq b h), _, rfl, (heap_alloc_lt _ _ _ (by simp)).trans (heap_alloc_new w4 _)⟩, hb.trans (h1.mono hb.size)⟩
def put4 (w : World) (g : Nat) (a b c d : Value) : World := (((w.setCell ⟨g, 0, none⟩ a).setCell ⟨g, 1, none⟩ b).setCell ⟨g, 2, none⟩ c).setCell ⟨g, 3, none⟩ d
theorem put4_size (w : World) (g : Nat) (a b c d : Value) : (put4 w g a b c d).heap.size = w.heap.size := by simp [put4]
theorem put4_below {B : Nat} {w w' : World} {g : Nat} {a b c d : Value} (h : Below B w w') (hg : B ≤ g) : Below B w (put4 w' g a b c d) := (((h.setCell hg _).setCell hg _).setCell hg _).setCell hg _
theorem rep_put4 {w : World} {g : Nat} {a b c d v : Value} {P : Nat → Prop} {e : Ex} (h : RepE w P true e v) (hg : ∀ b, P b → b ≠ g) : RepE (put4 w g a b c d) P true e v :=
  RepE.keep (fun b hb _ => hset4 (hg b hb)) (fun _ _ h => h) h
variable {z0 z1 z2 z3 y0 y1 y2 y3 : Value} {g g' : Nat}
theorem two_on (hb : Below w2.heap.size w2 w4) (hr : RepE w4 Pp true p (.agg #[r0, r1, r2, r3])) (hs : RepE w4 Pq true q (.agg #[s0, s1, s2, s3])) (hp : ∀ b, Pp b → w2.heap.size ≤ b) (hq : ∀ b, Pq b → w2.heap.size ≤ b)
    (hz : w4.heap[g]? = some (.cells #[z0, z1, z2, z3] T (0, 0))) (hg : w2.heap.size ≤ g) (h1 : ∀ b, Pp b → b ≠ g) (h2 : ∀ b, Pq b → b ≠ g) :
    Two (.pointer (some ⟨g, 0, none⟩)) (.pointer (some ⟨w4.heap.size, 0, none⟩)) w2 ((put4 w4 g r0 r1 r2 r3).alloc (.cells #[s0, s1, s2, s3] T)) T p q :=by
  have hlt : g < w4.heap.size := (Array.getElem?_eq_some_iff.1 hz).1
  have hx : Below (put4 w4 g r0 r1 r2 r3).heap.size (put4 w4 g r0 r1 r2 r3) ((put4 w4 g r0 r1 r2 r3).alloc (.cells #[s0, s1, s2, s3] T)) := (Below.refl _ _).alloc (Nat.le_refl _) _
  have hz4 := put4_size w4 g r0 r1 r2 r3
  exact ⟨_, _, _, _, rfl, rfl, ⟨((rep_put4 hr h1).below hx (Nat.le_refl _)).wider (fun b _ h => hp b h), _, rfl, (heap_alloc_lt _ _ _ (by omega)).trans (set4 hz)⟩, ⟨((rep_put4 hs h2).below hx (Nat.le_refl _)).wider (fun b _ h => hq b h), _, rfl, heap_alloc_at _ _ _ hz4.symm⟩, (put4_below hb hg).trans (hx.mono (by have := hb.size; omega))⟩
theorem two_no (hb : Below w2.heap.size w2 w4) (hr : RepE w4 Pp true p (.agg #[r0, r1, r2, r3])) (hs : RepE w4 Pq true q (.agg #[s0, s1, s2, s3])) (hp : ∀ b, Pp b → w2.heap.size ≤ b) (hq : ∀ b, Pq b → w2.heap.size ≤ b)
    (hz : w4.heap[g]? = some (.cells #[z0, z1, z2, z3] T (0, 0))) (hg : w2.heap.size ≤ g) (h1 : ∀ b, Pp b → b ≠ g) (h2 : ∀ b, Pq b → b ≠ g) :
    Two (.pointer (some ⟨w4.heap.size, 0, none⟩)) (.pointer (some ⟨g, 0, none⟩)) w2 ((put4 w4 g s0 s1 s2 s3).alloc (.cells #[r0, r1, r2, r3] T)) T p q :=by
  have hlt : g < w4.heap.size := (Array.getElem?_eq_some_iff.1 hz).1
  have hx : Below (put4 w4 g s0 s1 s2 s3).heap.size (put4 w4 g s0 s1 s2 s3) ((put4 w4 g s0 s1 s2 s3).alloc (.cells #[r0, r1, r2, r3] T)) := (Below.refl _ _).alloc (Nat.le_refl _) _
  have hz4 := put4_size w4 g s0 s1 s2 s3
  exact ⟨_, _, _, _, rfl, rfl, ⟨((rep_put4 hr h1).below hx (Nat.le_refl _)).wider (fun b _ h => hp b h), _, rfl, heap_alloc_at _ _ _ hz4.symm⟩, ⟨((rep_put4 hs h2).below hx (Nat.le_refl _)).wider (fun b _ h => hq b h), _, rfl, (heap_alloc_lt _ _ _ (by omega)).trans (set4 hz)⟩, (put4_below hb hg).trans (hx.mono (by have := hb.size; omega))⟩
theorem two_oo (hb : Below w2.heap.size w2 w4) (hr : RepE w4 Pp true p (.agg #[r0, r1, r2, r3])) (hs : RepE w4 Pq true q (.agg #[s0, s1, s2, s3])) (hp : ∀ b, Pp b → w2.heap.size ≤ b) (hq : ∀ b, Pq b → w2.heap.size ≤ b)
    (hz : w4.heap[g]? = some (.cells #[z0, z1, z2, z3] T (0, 0))) (hg : w2.heap.size ≤ g) (h1 : ∀ b, Pp b → b ≠ g) (h2 : ∀ b, Pq b → b ≠ g)
    (hy : w4.heap[g']? = some (.cells #[y0, y1, y2, y3] T (0, 0))) (hg' : w2.heap.size ≤ g') (h3 : ∀ b, Pp b → b ≠ g') (h4 : ∀ b, Pq b → b ≠ g') (hne : g ≠ g') :
    Two (.pointer (some ⟨g, 0, none⟩)) (.pointer (some ⟨g', 0, none⟩)) w2 (put4 (put4 w4 g r0 r1 r2 r3) g' s0 s1 s2 s3) T p q :=
  ⟨_, _, _, _, rfl, rfl, ⟨(rep_put4 (rep_put4 hr h1) h3).wider (fun b _ h => hp b h), _, rfl, (hset4 hne).trans (set4 hz)⟩, ⟨(rep_put4 (rep_put4 hs h2) h4).wider (fun b _ h => hq b h), _, rfl, set4 ((hset4 hne.symm).trans hy)⟩, put4_below (put4_below hb hg) hg'⟩
end
theorem turn_size (e : Ex) : e.turn.size ≤ e.size + 1 := by
  obtain ⟨k, a, b, ps⟩ := e
  simp only [Ex.turn, turnN]
  split
  · split
    · simp only [Ex.size, Ex.sizes]; omega
    · simp only [Ex.size, Ex.sizes]; omega
  · simp only [Ex.size, Ex.sizes]; omega
theorem Var.box {w : World} {T : TypeId} {g : Nat} {S : Nat → Prop} {own : Bool} {e : Ex} {cs : Array Value} (h : Var w T g S own e (.agg cs)) : w.heap[g]? = some (.cells cs T (0, 0)) := by
  obtain ⟨_, cs', h1, h2⟩ := h
  injection h1 with h1
  subst h1
  exact h2
set_option maxHeartbeats 20000000 in
set_option maxRecDepth 100000 in
theorem predTells_law (S : Nat → Prop) (p q : Ex) (pv qv : Value) (x v : Nat) (w : World) (hp : RepE w S false p pv) (hq : RepE w S false q qv) (hx : x < 18446744073709551616) (hv : v < 18446744073709551616) (hL : Lv w.heap.size w) :
    Calls Tryz.prog 4 #[pv, qv, .int .u64 x, .int .u64 v] w fun e w' => e = .returned (.bool true) ∧ Below w.heap.size w w' := by
  obtain ⟨k0, a0, b0, ad0, n0, cap0, rfl⟩ := hp.conc
  obtain ⟨k1, a1, b1, ad1, n1, cap1, rfl⟩ := hq.conc
  have hbX : Below w.heap.size w ((w.alloc (.cells #[.int .i64 k0, .int .u64 a0, .int .u64 b0, .slice ad0 n0 cap0] 26)).alloc (.cells #[.int .i64 k1, .int .u64 a1, .int .u64 b1, .slice ad1 n1 cap1] 26)) := ((Below.refl _ _).alloc (Nat.le_refl _) _).alloc (by simp) _
  have HP := Lib.hid (hp.below hbX (Nat.le_refl _))
  have HQ := Lib.hid (hq.below hbX (Nat.le_refl _))
  have HL := Lib.hid ((hL.below hbX).mono hbX.size)
  clear hp hq hL
  obtain ⟨W, hW⟩ : ∃ W, W = ((w.alloc (.cells #[.int .i64 k0, .int .u64 a0, .int .u64 b0, .slice ad0 n0 cap0] 26)).alloc (.cells #[.int .i64 k1, .int .u64 a1, .int .u64 b1, .slice ad1 n1 cap1] 26)) := ⟨_, rfl⟩
  have h0 : W.heap[w.heap.size]? = some (.cells #[.int .i64 k0, .int .u64 a0, .int .u64 b0, .slice ad0 n0 cap0] 26) := by rw [hW]; exact (heap_alloc_lt _ _ _ (by simp)).trans (heap_alloc_at _ _ _ rfl)
  have h1 : W.heap[w.heap.size + 1]? = some (.cells #[.int .i64 k1, .int .u64 a1, .int .u64 b1, .slice ad1 n1 cap1] 26) := by rw [hW]; exact heap_alloc_at _ _ _ (by simp)
  have l1 : w.heap.size + 1 < W.heap.size := (Array.getElem?_eq_some_iff.1 h1).1
  rw [← hW] at HP HQ HL hbX
  go_enter Tryz.func4, Tryz.ntmps4
  go_wp2_with fail
  rw [← hW]
  have f0 : W.cell? ⟨w.heap.size, 0, none⟩ = some (.int .i64 k0) := by rw [cell_of_row W _ 0 _ _ _ h0]; rfl
  have f1 : W.cell? ⟨w.heap.size, 1, none⟩ = some (.int .u64 a0) := by rw [cell_of_row W _ 1 _ _ _ h0]; rfl
  have f2 : W.cell? ⟨w.heap.size, 2, none⟩ = some (.int .u64 b0) := by rw [cell_of_row W _ 2 _ _ _ h0]; rfl
  have f3 : W.cell? ⟨w.heap.size, 3, none⟩ = some (.slice ad0 n0 cap0) := by rw [cell_of_row W _ 3 _ _ _ h0]; rfl
  have HH := Lib.hid (And.intro h0 (And.intro h1 hbX))
  clear hW h0 h1 hbX
  go_wp2_with fail
  refine (docFew_any _ _ p _ _ HP.out).mono ?_
  rintro e w1 ⟨rfl, hb1⟩
  have hz1 := hb1.size
  rcases Nat.lt_or_ge 60 p.size with hfp | hfp
  · rw [decide_eq_false (by omega)]
    have HB := Lib.hid hb1
    clear hb1
    go_wp2_with fail
    refine (works_any w1 ((HL.out.below HB.out).mono HB.out.size)).mono ?_
    rintro e w2 ⟨rfl, hb2⟩
    go_wp2_with fail
    go_ret
    exact ⟨rfl, HH.out.2.2.trans ((HB.out.mono (by omega)).trans (hb2.mono (by omega)))⟩
  rw [decide_eq_true hfp]
  have g1' : w1.heap[w.heap.size + 1]? = some (.cells #[.int .i64 k1, .int .u64 a1, .int .u64 b1, .slice ad1 n1 cap1] 26) := (hb1.block _ l1).trans HH.out.2.1
  have g0 : w1.cell? ⟨w.heap.size + 1, 0, none⟩ = some (.int .i64 k1) := by rw [cell_of_row w1 _ 0 _ _ _ g1']; rfl
  have g1 : w1.cell? ⟨w.heap.size + 1, 1, none⟩ = some (.int .u64 a1) := by rw [cell_of_row w1 _ 1 _ _ _ g1']; rfl
  have g2 : w1.cell? ⟨w.heap.size + 1, 2, none⟩ = some (.int .u64 b1) := by rw [cell_of_row w1 _ 2 _ _ _ g1']; rfl
  have g3 : w1.cell? ⟨w.heap.size + 1, 3, none⟩ = some (.slice ad1 n1 cap1) := by rw [cell_of_row w1 _ 3 _ _ _ g1']; rfl
  have HB := Lib.hid hb1
  clear hb1 f0 f1 f2 f3 g1'
  go_wp2_with fail
  refine (docFew_any _ _ q _ _ (HQ.out.below HB.out (Nat.le_refl _))).mono ?_
  rintro e w2 ⟨rfl, hb2⟩
  have hz2 := hb2.size
  have hb12 : Below W.heap.size W w2 := HB.out.trans (hb2.mono (by omega))
  have hbw2 : Below w.heap.size w w2 := HH.out.2.2.trans (hb12.mono (by omega))
  have HL2 := Lib.hid ((HL.out.below hb12).mono hb12.size)
  rcases Nat.lt_or_ge 60 q.size with hfq | hfq
  · rw [decide_eq_false (by omega)]
    have HB := Lib.hid hbw2
    clear hb12 hb2 hbw2
    go_wp2_with fail
    refine (works_any w2 HL2.out).mono ?_
    rintro e w3 ⟨rfl, hb3⟩
    go_wp2_with fail
    go_ret
    exact ⟨rfl, HB.out.trans (hb3.mono (by omega))⟩
  rw [decide_eq_true hfq]
  have VP := Lib.hid (Var.below (S := S) (own := false) (e := p) (v := .agg #[.int .i64 k0, .int .u64 a0, .int .u64 b0, .slice ad0 n0 cap0]) ⟨HP.out, _, rfl, HH.out.1⟩ hb12)
  have VQ := Lib.hid (Var.below (S := S) (own := false) (e := q) (v := .agg #[.int .i64 k1, .int .u64 a1, .int .u64 b1, .slice ad1 n1 cap1]) ⟨HQ.out, _, rfl, HH.out.2.1⟩ hb12)
  have HB2 := Lib.hid hbw2
  have hdp := p.depth_le_size
  have hdq := q.depth_le_size
  have l2 : w.heap.size + 1 < w2.heap.size := by omega
  have h0 : w2.heap[w.heap.size]? = some (.cells #[.int .i64 k0, .int .u64 a0, .int .u64 b0, .slice ad0 n0 cap0] 26) := (hb12.block _ (by omega)).trans HH.out.1
  have h1 : w2.heap[w.heap.size + 1]? = some (.cells #[.int .i64 k1, .int .u64 a1, .int .u64 b1, .slice ad1 n1 cap1] 26) := (hb12.block _ (by omega)).trans HH.out.2.1
  clear hb2 hb12 hbw2 g0 g1 g2 g3 HB HP HQ HH HL l1 hz1
  go_wp2_with fail
  have f0 : w2.cell? ⟨w.heap.size, 0, none⟩ = some (.int .i64 k0) := by rw [cell_of_row w2 _ 0 _ _ _ h0]; rfl
  have f1 : w2.cell? ⟨w.heap.size, 1, none⟩ = some (.int .u64 a0) := by rw [cell_of_row w2 _ 1 _ _ _ h0]; rfl
  have f2 : w2.cell? ⟨w.heap.size, 2, none⟩ = some (.int .u64 b0) := by rw [cell_of_row w2 _ 2 _ _ _ h0]; rfl
  have f3 : w2.cell? ⟨w.heap.size, 3, none⟩ = some (.slice ad0 n0 cap0) := by rw [cell_of_row w2 _ 3 _ _ _ h0]; rfl
  have g0 : w2.cell? ⟨w.heap.size + 1, 0, none⟩ = some (.int .i64 k1) := by rw [cell_of_row w2 _ 0 _ _ _ h1]; rfl
  have g1 : w2.cell? ⟨w.heap.size + 1, 1, none⟩ = some (.int .u64 a1) := by rw [cell_of_row w2 _ 1 _ _ _ h1]; rfl
  have g2 : w2.cell? ⟨w.heap.size + 1, 2, none⟩ = some (.int .u64 b1) := by rw [cell_of_row w2 _ 2 _ _ _ h1]; rfl
  have g3 : w2.cell? ⟨w.heap.size + 1, 3, none⟩ = some (.slice ad1 n1 cap1) := by rw [cell_of_row w2 _ 3 _ _ _ h1]; rfl
  have l2' : w.heap.size < w2.heap.size := by omega
  have H01 := Lib.hid (And.intro h0 h1)
  clear h0 h1
  go_cut [9, 10] from 25 to 28 (fun rv sv wx => Two rv sv w2 wx 32 p q)
  case first =>
    go_region_law (first
      | (go_simp; go_at_call 13; have _m := hv1; go_fit (docExpr_any q.depth _ _ q _ _ (Nat.le_refl _) (by omega) (by omega) (VQ.out.1.below (B := w2.heap.size) (by first | exact hbx | exact hbx.alloc hbx.size _ | exact (hbx.alloc hbx.size _).alloc (Nat.le_trans hbx.size (by simp)) _) (Nat.le_refl _))); rintro e w4 ⟨⟨v2, rfl, hv2⟩, hb4⟩; obtain ⟨s0, s1, s2, s3, s4, s5, rfl⟩ := hv2.conc; obtain ⟨hc4, hf4⟩ := bcell hb4; have hz4 := hb4.size; have hby : Below w2.heap.size w2 w4 := (by first | exact hbx.trans (hb4.mono hbx.size) | exact (hbx.alloc hbx.size _).trans (hb4.mono (Nat.le_trans hbx.size (by simp))) | exact ((hbx.alloc hbx.size _).alloc (Nat.le_trans hbx.size (by simp)) _).trans (hb4.mono (Nat.le_trans hbx.size (by simp; omega)))); have hzy := hby.size; have hs4 := hv2.wider (S' := fun b => _ ∧ b < w4.heap.size) (fun b hb h => And.intro h hb); have hr4 := hr3.keep (w' := w4) (S' := fun b => _ ∧ b < w3.heap.size) (fun b hb hl => (hb4.block _ (by first | exact hl | (simp; omega))).trans (by first | rfl | exact heap_alloc_lt _ _ _ hl | exact (heap_alloc_lt _ _ _ (by simp; omega)).trans (heap_alloc_lt _ _ _ hl))) (fun b hb h => h); (try (have zA4 : w4.heap[w2.heap.size]? = some (.cells #[.int .i64 0, .int .u64 0, .int .u64 0, .slice none 0 0] 32) := (hb4.block _ (by first | exact zA3l | exact Nat.lt_of_lt_of_le zA3l (by simp) | exact Nat.lt_of_lt_of_le zA3l (by simp; omega))).trans (by first | exact zA3 | exact (heap_alloc_lt _ _ _ zA3l).trans zA3 | exact (heap_alloc_lt _ _ _ (Nat.lt_of_lt_of_le zA3l (by simp))).trans ((heap_alloc_lt _ _ _ zA3l).trans zA3)); have zA4c : ∀ o, w4.cell? ⟨w2.heap.size, o, none⟩ = (#[.int .i64 0, .int .u64 0, .int .u64 0, .slice none 0 0] : Array Value)[o]? := (fun o => cell_of_row w4 _ o _ _ _ zA4); have zA4f : ∀ o, w4.frozen? ⟨w2.heap.size, o, none⟩ = false := (fun o => frozen_of_row w4 _ o _ _ zA4); have zA4l : w2.heap.size < w4.heap.size := (Array.getElem?_eq_some_iff.1 zA4).1)); (try (have zB4 : w4.heap[w2.heap.size + 1]? = some (.cells #[.int .i64 0, .int .u64 0, .int .u64 0, .slice none 0 0] 32) := (hb4.block _ (by first | exact zB3l | exact Nat.lt_of_lt_of_le zB3l (by simp) | exact Nat.lt_of_lt_of_le zB3l (by simp; omega))).trans (by first | exact zB3 | exact (heap_alloc_lt _ _ _ zB3l).trans zB3 | exact (heap_alloc_lt _ _ _ (Nat.lt_of_lt_of_le zB3l (by simp))).trans ((heap_alloc_lt _ _ _ zB3l).trans zB3)); have zB4c : ∀ o, w4.cell? ⟨w2.heap.size + 1, o, none⟩ = (#[.int .i64 0, .int .u64 0, .int .u64 0, .slice none 0 0] : Array Value)[o]? := (fun o => cell_of_row w4 _ o _ _ _ zB4); have zB4f : ∀ o, w4.frozen? ⟨w2.heap.size + 1, o, none⟩ = false := (fun o => frozen_of_row w4 _ o _ _ zB4); have zB4l : w2.heap.size + 1 < w4.heap.size := (Array.getElem?_eq_some_iff.1 zB4).1)); (try (have zC4 : w4.heap[w3.heap.size]? = some (.cells #[.int .i64 0, .int .u64 0, .int .u64 0, .slice none 0 0] 32) := (hb4.block _ (by first | simp; done | (simp; omega) | omega)).trans (by first | exact heap_alloc_at _ _ _ rfl | exact (heap_alloc_lt _ _ _ (by simp)).trans (heap_alloc_at _ _ _ rfl)); have zC4c : ∀ o, w4.cell? ⟨w3.heap.size, o, none⟩ = (#[.int .i64 0, .int .u64 0, .int .u64 0, .slice none 0 0] : Array Value)[o]? := (fun o => cell_of_row w4 _ o _ _ _ zC4); have zC4f : ∀ o, w4.frozen? ⟨w3.heap.size, o, none⟩ = false := (fun o => frozen_of_row w4 _ o _ _ zC4); have zC4l : w3.heap.size < w4.heap.size := (Array.getElem?_eq_some_iff.1 zC4).1)); (try (have zD4 : w4.heap[w3.heap.size + 1]? = some (.cells #[.int .i64 0, .int .u64 0, .int .u64 0, .slice none 0 0] 32) := (hb4.block _ (by first | simp; done | (simp; omega) | omega)).trans (by exact heap_alloc_at _ _ _ (by simp)); have zD4c : ∀ o, w4.cell? ⟨w3.heap.size + 1, o, none⟩ = (#[.int .i64 0, .int .u64 0, .int .u64 0, .slice none 0 0] : Array Value)[o]? := (fun o => cell_of_row w4 _ o _ _ _ zD4); have zD4f : ∀ o, w4.frozen? ⟨w3.heap.size + 1, o, none⟩ = false := (fun o => frozen_of_row w4 _ o _ _ zD4); have zD4l : w3.heap.size + 1 < w4.heap.size := (Array.getElem?_eq_some_iff.1 zD4).1)); have yf0 := (hby.cell l2').trans f0; have yf1 := (hby.cell l2').trans f1; have yf2 := (hby.cell l2').trans f2; have yf3 := (hby.cell l2').trans f3; have yg0 := (hby.cell l2).trans g0; have yg1 := (hby.cell l2).trans g1; have yg2 := (hby.cell l2).trans g2; have yg3 := (hby.cell l2).trans g3; have yl := Nat.lt_of_lt_of_le l2 hzy; have yl' := Nat.lt_of_lt_of_le l2' hzy)
      | (go_simp; go_at_call 13; go_fit (docExpr_any p.depth _ _ p _ _ (Nat.le_refl _) (by omega) (by omega) (VP.out.1.below (B := w2.heap.size) (by first | exact (Below.refl _ _).drew | exact ((Below.refl _ _).alloc (Nat.le_refl _) _).drew | exact (((Below.refl _ _).alloc (Nat.le_refl _) _).alloc (by simp) _).drew) (Nat.le_refl _))); rintro e w3 ⟨⟨v1, rfl, hv1⟩, hb3⟩; obtain ⟨r0, r1, r2, r3, r4, r5, rfl⟩ := hv1.conc; obtain ⟨hc3, hf3⟩ := bcell hb3; have hz3 := hb3.size; have hbx : Below w2.heap.size w2 w3 := (by first | exact (Below.refl _ _).drew.trans (hb3.mono (by simp)) | exact ((Below.refl _ _).alloc (Nat.le_refl _) _).drew.trans (hb3.mono (by simp)) | exact (((Below.refl _ _).alloc (Nat.le_refl _) _).alloc (by simp) _).drew.trans (hb3.mono (by simp; omega))); have hzx := hbx.size; have hr3 := hv1.wider (S' := fun b => _ ∧ b < w3.heap.size) (fun b hb h => And.intro h hb); (try (have zA3 : w3.heap[w2.heap.size]? = some (.cells #[.int .i64 0, .int .u64 0, .int .u64 0, .slice none 0 0] 32) := (hb3.block _ (by first | simp; done | (simp; omega) | omega)).trans (by first | exact heap_alloc_at _ _ _ rfl | exact (heap_alloc_lt _ _ _ (by simp)).trans (heap_alloc_at _ _ _ rfl)); have zA3c : ∀ o, w3.cell? ⟨w2.heap.size, o, none⟩ = (#[.int .i64 0, .int .u64 0, .int .u64 0, .slice none 0 0] : Array Value)[o]? := (fun o => cell_of_row w3 _ o _ _ _ zA3); have zA3f : ∀ o, w3.frozen? ⟨w2.heap.size, o, none⟩ = false := (fun o => frozen_of_row w3 _ o _ _ zA3); have zA3l : w2.heap.size < w3.heap.size := (Array.getElem?_eq_some_iff.1 zA3).1)); (try (have zB3 : w3.heap[w2.heap.size + 1]? = some (.cells #[.int .i64 0, .int .u64 0, .int .u64 0, .slice none 0 0] 32) := (hb3.block _ (by first | simp; done | (simp; omega) | omega)).trans (by exact heap_alloc_at _ _ _ (by simp)); have zB3c : ∀ o, w3.cell? ⟨w2.heap.size + 1, o, none⟩ = (#[.int .i64 0, .int .u64 0, .int .u64 0, .slice none 0 0] : Array Value)[o]? := (fun o => cell_of_row w3 _ o _ _ _ zB3); have zB3f : ∀ o, w3.frozen? ⟨w2.heap.size + 1, o, none⟩ = false := (fun o => frozen_of_row w3 _ o _ _ zB3); have zB3l : w2.heap.size + 1 < w3.heap.size := (Array.getElem?_eq_some_iff.1 zB3).1)); have xf0 := (hbx.cell l2').trans f0; have xf1 := (hbx.cell l2').trans f1; have xf2 := (hbx.cell l2').trans f2; have xf3 := (hbx.cell l2').trans f3; have xg0 := (hbx.cell l2).trans g0; have xg1 := (hbx.cell l2).trans g1; have xg2 := (hbx.cell l2).trans g2; have xg3 := (hbx.cell l2).trans g3; have xl := Nat.lt_of_lt_of_le l2 hzx; have xl' := Nat.lt_of_lt_of_le l2' hzx))
    · go_wp2_with fail; go_meet; exact two_nn hby hr4 hs4 (by rintro b ⟨h1, h2⟩; (try simp at h1); omega) (by rintro b ⟨h1, h2⟩; (try simp at h1); omega)
    · go_wp2_with fail; go_meet; exact two_mm hby hr4 hs4 (by rintro b ⟨h1, h2⟩; (try simp at h1); omega) (by rintro b ⟨h1, h2⟩; (try simp at h1); omega)
    · go_wp2_with fail; go_meet; exact two_on hby hr4 hs4 (by rintro b ⟨h1, h2⟩; (try simp at h1); omega) (by rintro b ⟨h1, h2⟩; (try simp at h1); omega) zC4 (by omega) (by rintro b ⟨h1, h2⟩; (try simp at h1); omega) (by rintro b ⟨h1, h2⟩; (try simp at h1); omega)
    · go_wp2_with fail; go_meet; exact two_oo hby hr4 hs4 (by rintro b ⟨h1, h2⟩; (try simp at h1); omega) (by rintro b ⟨h1, h2⟩; (try simp at h1); omega) zC4 (by omega) (by rintro b ⟨h1, h2⟩; (try simp at h1); omega) (by rintro b ⟨h1, h2⟩; (try simp at h1); omega) zD4 (by omega) (by rintro b ⟨h1, h2⟩; (try simp at h1); omega) (by rintro b ⟨h1, h2⟩; (try simp at h1); omega) (by omega)
    · go_wp2_with fail; go_meet; exact two_no hby hr4 hs4 (by rintro b ⟨h1, h2⟩; (try simp at h1); omega) (by rintro b ⟨h1, h2⟩; (try simp at h1); omega) zC4 (by omega) (by rintro b ⟨h1, h2⟩; (try simp at h1); omega) (by rintro b ⟨h1, h2⟩; (try simp at h1); omega)
    · go_wp2_with fail; go_meet; exact two_oo hby hr4 hs4 (by rintro b ⟨h1, h2⟩; (try simp at h1); omega) (by rintro b ⟨h1, h2⟩; (try simp at h1); omega) zD4 (by omega) (by rintro b ⟨h1, h2⟩; (try simp at h1); omega) (by rintro b ⟨h1, h2⟩; (try simp at h1); omega) zC4 (by omega) (by rintro b ⟨h1, h2⟩; (try simp at h1); omega) (by rintro b ⟨h1, h2⟩; (try simp at h1); omega) (by omega)
    · go_wp2_with fail; go_meet; exact two_on hby hr4 hs4 (by rintro b ⟨h1, h2⟩; (try simp at h1); omega) (by rintro b ⟨h1, h2⟩; (try simp at h1); omega) zC4 (by omega) (by rintro b ⟨h1, h2⟩; (try simp at h1); omega) (by rintro b ⟨h1, h2⟩; (try simp at h1); omega)
    · go_wp2_with fail; go_meet; exact two_oo hby hr4 hs4 (by rintro b ⟨h1, h2⟩; (try simp at h1); omega) (by rintro b ⟨h1, h2⟩; (try simp at h1); omega) zC4 (by omega) (by rintro b ⟨h1, h2⟩; (try simp at h1); omega) (by rintro b ⟨h1, h2⟩; (try simp at h1); omega) zD4 (by omega) (by rintro b ⟨h1, h2⟩; (try simp at h1); omega) (by rintro b ⟨h1, h2⟩; (try simp at h1); omega) (by omega)
    · go_wp2_with fail; go_meet; exact two_oo hby hr4 hs4 (by rintro b ⟨h1, h2⟩; (try simp at h1); omega) (by rintro b ⟨h1, h2⟩; (try simp at h1); omega) zC4 (by omega) (by rintro b ⟨h1, h2⟩; (try simp at h1); omega) (by rintro b ⟨h1, h2⟩; (try simp at h1); omega) zD4 (by omega) (by rintro b ⟨h1, h2⟩; (try simp at h1); omega) (by rintro b ⟨h1, h2⟩; (try simp at h1); omega) (by omega)
    · go_wp2_with fail; go_meet; exact two_no hby hr4 hs4 (by rintro b ⟨h1, h2⟩; (try simp at h1); omega) (by rintro b ⟨h1, h2⟩; (try simp at h1); omega) zC4 (by omega) (by rintro b ⟨h1, h2⟩; (try simp at h1); omega) (by rintro b ⟨h1, h2⟩; (try simp at h1); omega)
    · go_wp2_with fail; go_meet; exact two_oo hby hr4 hs4 (by rintro b ⟨h1, h2⟩; (try simp at h1); omega) (by rintro b ⟨h1, h2⟩; (try simp at h1); omega) zD4 (by omega) (by rintro b ⟨h1, h2⟩; (try simp at h1); omega) (by rintro b ⟨h1, h2⟩; (try simp at h1); omega) zC4 (by omega) (by rintro b ⟨h1, h2⟩; (try simp at h1); omega) (by rintro b ⟨h1, h2⟩; (try simp at h1); omega) (by omega)
    · go_wp2_with fail; go_meet; exact two_oo hby hr4 hs4 (by rintro b ⟨h1, h2⟩; (try simp at h1); omega) (by rintro b ⟨h1, h2⟩; (try simp at h1); omega) zD4 (by omega) (by rintro b ⟨h1, h2⟩; (try simp at h1); omega) (by rintro b ⟨h1, h2⟩; (try simp at h1); omega) zC4 (by omega) (by rintro b ⟨h1, h2⟩; (try simp at h1); omega) (by rintro b ⟨h1, h2⟩; (try simp at h1); omega) (by omega)
    · go_wp2_with fail; go_meet; exact two_nn hby hr4 hs4 (by rintro b ⟨h1, h2⟩; (try simp at h1); omega) (by rintro b ⟨h1, h2⟩; (try simp at h1); omega)
    · go_wp2_with fail; go_meet; exact two_mm hby hr4 hs4 (by rintro b ⟨h1, h2⟩; (try simp at h1); omega) (by rintro b ⟨h1, h2⟩; (try simp at h1); omega)
    · go_wp2_with fail; go_meet; exact two_on hby hr4 hs4 (by rintro b ⟨h1, h2⟩; (try simp at h1); omega) (by rintro b ⟨h1, h2⟩; (try simp at h1); omega) zC4 (by omega) (by rintro b ⟨h1, h2⟩; (try simp at h1); omega) (by rintro b ⟨h1, h2⟩; (try simp at h1); omega)
    · go_wp2_with fail; go_meet; exact two_oo hby hr4 hs4 (by rintro b ⟨h1, h2⟩; (try simp at h1); omega) (by rintro b ⟨h1, h2⟩; (try simp at h1); omega) zC4 (by omega) (by rintro b ⟨h1, h2⟩; (try simp at h1); omega) (by rintro b ⟨h1, h2⟩; (try simp at h1); omega) zD4 (by omega) (by rintro b ⟨h1, h2⟩; (try simp at h1); omega) (by rintro b ⟨h1, h2⟩; (try simp at h1); omega) (by omega)
    · go_wp2_with fail; go_meet; exact two_no hby hr4 hs4 (by rintro b ⟨h1, h2⟩; (try simp at h1); omega) (by rintro b ⟨h1, h2⟩; (try simp at h1); omega) zC4 (by omega) (by rintro b ⟨h1, h2⟩; (try simp at h1); omega) (by rintro b ⟨h1, h2⟩; (try simp at h1); omega)
    · go_wp2_with fail; go_meet; exact two_oo hby hr4 hs4 (by rintro b ⟨h1, h2⟩; (try simp at h1); omega) (by rintro b ⟨h1, h2⟩; (try simp at h1); omega) zD4 (by omega) (by rintro b ⟨h1, h2⟩; (try simp at h1); omega) (by rintro b ⟨h1, h2⟩; (try simp at h1); omega) zC4 (by omega) (by rintro b ⟨h1, h2⟩; (try simp at h1); omega) (by rintro b ⟨h1, h2⟩; (try simp at h1); omega) (by omega)
    · go_wp2_with fail; go_meet; exact two_on hby hr4 hs4 (by rintro b ⟨h1, h2⟩; (try simp at h1); omega) (by rintro b ⟨h1, h2⟩; (try simp at h1); omega) zA4 (by omega) (by rintro b ⟨h1, h2⟩; (try simp at h1); omega) (by rintro b ⟨h1, h2⟩; (try simp at h1); omega)
    · go_wp2_with fail; go_meet; exact two_oo hby hr4 hs4 (by rintro b ⟨h1, h2⟩; (try simp at h1); omega) (by rintro b ⟨h1, h2⟩; (try simp at h1); omega) zA4 (by omega) (by rintro b ⟨h1, h2⟩; (try simp at h1); omega) (by rintro b ⟨h1, h2⟩; (try simp at h1); omega) zC4 (by omega) (by rintro b ⟨h1, h2⟩; (try simp at h1); omega) (by rintro b ⟨h1, h2⟩; (try simp at h1); omega) (by omega)
    · go_wp2_with fail; go_meet; exact two_oo hby hr4 hs4 (by rintro b ⟨h1, h2⟩; (try simp at h1); omega) (by rintro b ⟨h1, h2⟩; (try simp at h1); omega) zA4 (by omega) (by rintro b ⟨h1, h2⟩; (try simp at h1); omega) (by rintro b ⟨h1, h2⟩; (try simp at h1); omega) zB4 (by omega) (by rintro b ⟨h1, h2⟩; (try simp at h1); omega) (by rintro b ⟨h1, h2⟩; (try simp at h1); omega) (by omega)
    · go_wp2_with fail; go_meet; exact two_no hby hr4 hs4 (by rintro b ⟨h1, h2⟩; (try simp at h1); omega) (by rintro b ⟨h1, h2⟩; (try simp at h1); omega) zA4 (by omega) (by rintro b ⟨h1, h2⟩; (try simp at h1); omega) (by rintro b ⟨h1, h2⟩; (try simp at h1); omega)
    · go_wp2_with fail; go_meet; exact two_oo hby hr4 hs4 (by rintro b ⟨h1, h2⟩; (try simp at h1); omega) (by rintro b ⟨h1, h2⟩; (try simp at h1); omega) zC4 (by omega) (by rintro b ⟨h1, h2⟩; (try simp at h1); omega) (by rintro b ⟨h1, h2⟩; (try simp at h1); omega) zA4 (by omega) (by rintro b ⟨h1, h2⟩; (try simp at h1); omega) (by rintro b ⟨h1, h2⟩; (try simp at h1); omega) (by omega)
    · go_wp2_with fail; go_meet; exact two_oo hby hr4 hs4 (by rintro b ⟨h1, h2⟩; (try simp at h1); omega) (by rintro b ⟨h1, h2⟩; (try simp at h1); omega) zB4 (by omega) (by rintro b ⟨h1, h2⟩; (try simp at h1); omega) (by rintro b ⟨h1, h2⟩; (try simp at h1); omega) zA4 (by omega) (by rintro b ⟨h1, h2⟩; (try simp at h1); omega) (by rintro b ⟨h1, h2⟩; (try simp at h1); omega) (by omega)
    · go_wp2_with fail; go_meet; exact two_on hby hr4 hs4 (by rintro b ⟨h1, h2⟩; (try simp at h1); omega) (by rintro b ⟨h1, h2⟩; (try simp at h1); omega) zA4 (by omega) (by rintro b ⟨h1, h2⟩; (try simp at h1); omega) (by rintro b ⟨h1, h2⟩; (try simp at h1); omega)
    · go_wp2_with fail; go_meet; exact two_oo hby hr4 hs4 (by rintro b ⟨h1, h2⟩; (try simp at h1); omega) (by rintro b ⟨h1, h2⟩; (try simp at h1); omega) zA4 (by omega) (by rintro b ⟨h1, h2⟩; (try simp at h1); omega) (by rintro b ⟨h1, h2⟩; (try simp at h1); omega) zC4 (by omega) (by rintro b ⟨h1, h2⟩; (try simp at h1); omega) (by rintro b ⟨h1, h2⟩; (try simp at h1); omega) (by omega)
    · go_wp2_with fail; go_meet; exact two_oo hby hr4 hs4 (by rintro b ⟨h1, h2⟩; (try simp at h1); omega) (by rintro b ⟨h1, h2⟩; (try simp at h1); omega) zA4 (by omega) (by rintro b ⟨h1, h2⟩; (try simp at h1); omega) (by rintro b ⟨h1, h2⟩; (try simp at h1); omega) zC4 (by omega) (by rintro b ⟨h1, h2⟩; (try simp at h1); omega) (by rintro b ⟨h1, h2⟩; (try simp at h1); omega) (by omega)
    · go_wp2_with fail; go_meet; exact two_on hby hr4 hs4 (by rintro b ⟨h1, h2⟩; (try simp at h1); omega) (by rintro b ⟨h1, h2⟩; (try simp at h1); omega) zA4 (by omega) (by rintro b ⟨h1, h2⟩; (try simp at h1); omega) (by rintro b ⟨h1, h2⟩; (try simp at h1); omega)
    · go_wp2_with fail; go_meet; exact two_oo hby hr4 hs4 (by rintro b ⟨h1, h2⟩; (try simp at h1); omega) (by rintro b ⟨h1, h2⟩; (try simp at h1); omega) zA4 (by omega) (by rintro b ⟨h1, h2⟩; (try simp at h1); omega) (by rintro b ⟨h1, h2⟩; (try simp at h1); omega) zC4 (by omega) (by rintro b ⟨h1, h2⟩; (try simp at h1); omega) (by rintro b ⟨h1, h2⟩; (try simp at h1); omega) (by omega)
    · go_wp2_with fail; go_meet; exact two_oo hby hr4 hs4 (by rintro b ⟨h1, h2⟩; (try simp at h1); omega) (by rintro b ⟨h1, h2⟩; (try simp at h1); omega) zA4 (by omega) (by rintro b ⟨h1, h2⟩; (try simp at h1); omega) (by rintro b ⟨h1, h2⟩; (try simp at h1); omega) zB4 (by omega) (by rintro b ⟨h1, h2⟩; (try simp at h1); omega) (by rintro b ⟨h1, h2⟩; (try simp at h1); omega) (by omega)
    · go_wp2_with fail; go_meet; exact two_oo hby hr4 hs4 (by rintro b ⟨h1, h2⟩; (try simp at h1); omega) (by rintro b ⟨h1, h2⟩; (try simp at h1); omega) zA4 (by omega) (by rintro b ⟨h1, h2⟩; (try simp at h1); omega) (by rintro b ⟨h1, h2⟩; (try simp at h1); omega) zB4 (by omega) (by rintro b ⟨h1, h2⟩; (try simp at h1); omega) (by rintro b ⟨h1, h2⟩; (try simp at h1); omega) (by omega)
    · go_wp2_with fail; go_meet; exact two_oo hby hr4 hs4 (by rintro b ⟨h1, h2⟩; (try simp at h1); omega) (by rintro b ⟨h1, h2⟩; (try simp at h1); omega) zA4 (by omega) (by rintro b ⟨h1, h2⟩; (try simp at h1); omega) (by rintro b ⟨h1, h2⟩; (try simp at h1); omega) zB4 (by omega) (by rintro b ⟨h1, h2⟩; (try simp at h1); omega) (by rintro b ⟨h1, h2⟩; (try simp at h1); omega) (by omega)
    · go_wp2_with fail; go_meet; exact two_no hby hr4 hs4 (by rintro b ⟨h1, h2⟩; (try simp at h1); omega) (by rintro b ⟨h1, h2⟩; (try simp at h1); omega) zA4 (by omega) (by rintro b ⟨h1, h2⟩; (try simp at h1); omega) (by rintro b ⟨h1, h2⟩; (try simp at h1); omega)
    · go_wp2_with fail; go_meet; exact two_oo hby hr4 hs4 (by rintro b ⟨h1, h2⟩; (try simp at h1); omega) (by rintro b ⟨h1, h2⟩; (try simp at h1); omega) zC4 (by omega) (by rintro b ⟨h1, h2⟩; (try simp at h1); omega) (by rintro b ⟨h1, h2⟩; (try simp at h1); omega) zA4 (by omega) (by rintro b ⟨h1, h2⟩; (try simp at h1); omega) (by rintro b ⟨h1, h2⟩; (try simp at h1); omega) (by omega)
    · go_wp2_with fail; go_meet; exact two_oo hby hr4 hs4 (by rintro b ⟨h1, h2⟩; (try simp at h1); omega) (by rintro b ⟨h1, h2⟩; (try simp at h1); omega) zC4 (by omega) (by rintro b ⟨h1, h2⟩; (try simp at h1); omega) (by rintro b ⟨h1, h2⟩; (try simp at h1); omega) zA4 (by omega) (by rintro b ⟨h1, h2⟩; (try simp at h1); omega) (by rintro b ⟨h1, h2⟩; (try simp at h1); omega) (by omega)
    · go_wp2_with fail; go_meet; exact two_no hby hr4 hs4 (by rintro b ⟨h1, h2⟩; (try simp at h1); omega) (by rintro b ⟨h1, h2⟩; (try simp at h1); omega) zA4 (by omega) (by rintro b ⟨h1, h2⟩; (try simp at h1); omega) (by rintro b ⟨h1, h2⟩; (try simp at h1); omega)
    · go_wp2_with fail; go_meet; exact two_oo hby hr4 hs4 (by rintro b ⟨h1, h2⟩; (try simp at h1); omega) (by rintro b ⟨h1, h2⟩; (try simp at h1); omega) zC4 (by omega) (by rintro b ⟨h1, h2⟩; (try simp at h1); omega) (by rintro b ⟨h1, h2⟩; (try simp at h1); omega) zA4 (by omega) (by rintro b ⟨h1, h2⟩; (try simp at h1); omega) (by rintro b ⟨h1, h2⟩; (try simp at h1); omega) (by omega)
    · go_wp2_with fail; go_meet; exact two_oo hby hr4 hs4 (by rintro b ⟨h1, h2⟩; (try simp at h1); omega) (by rintro b ⟨h1, h2⟩; (try simp at h1); omega) zB4 (by omega) (by rintro b ⟨h1, h2⟩; (try simp at h1); omega) (by rintro b ⟨h1, h2⟩; (try simp at h1); omega) zA4 (by omega) (by rintro b ⟨h1, h2⟩; (try simp at h1); omega) (by rintro b ⟨h1, h2⟩; (try simp at h1); omega) (by omega)
    · go_wp2_with fail; go_meet; exact two_oo hby hr4 hs4 (by rintro b ⟨h1, h2⟩; (try simp at h1); omega) (by rintro b ⟨h1, h2⟩; (try simp at h1); omega) zB4 (by omega) (by rintro b ⟨h1, h2⟩; (try simp at h1); omega) (by rintro b ⟨h1, h2⟩; (try simp at h1); omega) zA4 (by omega) (by rintro b ⟨h1, h2⟩; (try simp at h1); omega) (by rintro b ⟨h1, h2⟩; (try simp at h1); omega) (by omega)
    · go_wp2_with fail; go_meet; exact two_oo hby hr4 hs4 (by rintro b ⟨h1, h2⟩; (try simp at h1); omega) (by rintro b ⟨h1, h2⟩; (try simp at h1); omega) zB4 (by omega) (by rintro b ⟨h1, h2⟩; (try simp at h1); omega) (by rintro b ⟨h1, h2⟩; (try simp at h1); omega) zA4 (by omega) (by rintro b ⟨h1, h2⟩; (try simp at h1); omega) (by rintro b ⟨h1, h2⟩; (try simp at h1); omega) (by omega)
    · go_wp2_with fail; go_meet; exact two_nn hby hr4 hs4 (by rintro b ⟨h1, h2⟩; (try simp at h1); omega) (by rintro b ⟨h1, h2⟩; (try simp at h1); omega)
    · go_wp2_with fail; go_meet; exact two_mm hby hr4 hs4 (by rintro b ⟨h1, h2⟩; (try simp at h1); omega) (by rintro b ⟨h1, h2⟩; (try simp at h1); omega)
    · go_wp2_with fail; go_meet; exact two_on hby hr4 hs4 (by rintro b ⟨h1, h2⟩; (try simp at h1); omega) (by rintro b ⟨h1, h2⟩; (try simp at h1); omega) zC4 (by omega) (by rintro b ⟨h1, h2⟩; (try simp at h1); omega) (by rintro b ⟨h1, h2⟩; (try simp at h1); omega)
    · go_wp2_with fail; go_meet; exact two_oo hby hr4 hs4 (by rintro b ⟨h1, h2⟩; (try simp at h1); omega) (by rintro b ⟨h1, h2⟩; (try simp at h1); omega) zC4 (by omega) (by rintro b ⟨h1, h2⟩; (try simp at h1); omega) (by rintro b ⟨h1, h2⟩; (try simp at h1); omega) zD4 (by omega) (by rintro b ⟨h1, h2⟩; (try simp at h1); omega) (by rintro b ⟨h1, h2⟩; (try simp at h1); omega) (by omega)
    · go_wp2_with fail; go_meet; exact two_no hby hr4 hs4 (by rintro b ⟨h1, h2⟩; (try simp at h1); omega) (by rintro b ⟨h1, h2⟩; (try simp at h1); omega) zC4 (by omega) (by rintro b ⟨h1, h2⟩; (try simp at h1); omega) (by rintro b ⟨h1, h2⟩; (try simp at h1); omega)
    · go_wp2_with fail; go_meet; exact two_oo hby hr4 hs4 (by rintro b ⟨h1, h2⟩; (try simp at h1); omega) (by rintro b ⟨h1, h2⟩; (try simp at h1); omega) zD4 (by omega) (by rintro b ⟨h1, h2⟩; (try simp at h1); omega) (by rintro b ⟨h1, h2⟩; (try simp at h1); omega) zC4 (by omega) (by rintro b ⟨h1, h2⟩; (try simp at h1); omega) (by rintro b ⟨h1, h2⟩; (try simp at h1); omega) (by omega)
    · go_wp2_with fail; go_meet; exact two_on hby hr4 hs4 (by rintro b ⟨h1, h2⟩; (try simp at h1); omega) (by rintro b ⟨h1, h2⟩; (try simp at h1); omega) zA4 (by omega) (by rintro b ⟨h1, h2⟩; (try simp at h1); omega) (by rintro b ⟨h1, h2⟩; (try simp at h1); omega)
    · go_wp2_with fail; go_meet; exact two_oo hby hr4 hs4 (by rintro b ⟨h1, h2⟩; (try simp at h1); omega) (by rintro b ⟨h1, h2⟩; (try simp at h1); omega) zA4 (by omega) (by rintro b ⟨h1, h2⟩; (try simp at h1); omega) (by rintro b ⟨h1, h2⟩; (try simp at h1); omega) zC4 (by omega) (by rintro b ⟨h1, h2⟩; (try simp at h1); omega) (by rintro b ⟨h1, h2⟩; (try simp at h1); omega) (by omega)
    · go_wp2_with fail; go_meet; exact two_oo hby hr4 hs4 (by rintro b ⟨h1, h2⟩; (try simp at h1); omega) (by rintro b ⟨h1, h2⟩; (try simp at h1); omega) zA4 (by omega) (by rintro b ⟨h1, h2⟩; (try simp at h1); omega) (by rintro b ⟨h1, h2⟩; (try simp at h1); omega) zB4 (by omega) (by rintro b ⟨h1, h2⟩; (try simp at h1); omega) (by rintro b ⟨h1, h2⟩; (try simp at h1); omega) (by omega)
    · go_wp2_with fail; go_meet; exact two_no hby hr4 hs4 (by rintro b ⟨h1, h2⟩; (try simp at h1); omega) (by rintro b ⟨h1, h2⟩; (try simp at h1); omega) zA4 (by omega) (by rintro b ⟨h1, h2⟩; (try simp at h1); omega) (by rintro b ⟨h1, h2⟩; (try simp at h1); omega)
    · go_wp2_with fail; go_meet; exact two_oo hby hr4 hs4 (by rintro b ⟨h1, h2⟩; (try simp at h1); omega) (by rintro b ⟨h1, h2⟩; (try simp at h1); omega) zC4 (by omega) (by rintro b ⟨h1, h2⟩; (try simp at h1); omega) (by rintro b ⟨h1, h2⟩; (try simp at h1); omega) zA4 (by omega) (by rintro b ⟨h1, h2⟩; (try simp at h1); omega) (by rintro b ⟨h1, h2⟩; (try simp at h1); omega) (by omega)
    · go_wp2_with fail; go_meet; exact two_oo hby hr4 hs4 (by rintro b ⟨h1, h2⟩; (try simp at h1); omega) (by rintro b ⟨h1, h2⟩; (try simp at h1); omega) zB4 (by omega) (by rintro b ⟨h1, h2⟩; (try simp at h1); omega) (by rintro b ⟨h1, h2⟩; (try simp at h1); omega) zA4 (by omega) (by rintro b ⟨h1, h2⟩; (try simp at h1); omega) (by rintro b ⟨h1, h2⟩; (try simp at h1); omega) (by omega)
    · go_wp2_with fail; go_meet; exact two_on hby hr4 hs4 (by rintro b ⟨h1, h2⟩; (try simp at h1); omega) (by rintro b ⟨h1, h2⟩; (try simp at h1); omega) zA4 (by omega) (by rintro b ⟨h1, h2⟩; (try simp at h1); omega) (by rintro b ⟨h1, h2⟩; (try simp at h1); omega)
    · go_wp2_with fail; go_meet; exact two_oo hby hr4 hs4 (by rintro b ⟨h1, h2⟩; (try simp at h1); omega) (by rintro b ⟨h1, h2⟩; (try simp at h1); omega) zA4 (by omega) (by rintro b ⟨h1, h2⟩; (try simp at h1); omega) (by rintro b ⟨h1, h2⟩; (try simp at h1); omega) zC4 (by omega) (by rintro b ⟨h1, h2⟩; (try simp at h1); omega) (by rintro b ⟨h1, h2⟩; (try simp at h1); omega) (by omega)
    · go_wp2_with fail; go_meet; exact two_oo hby hr4 hs4 (by rintro b ⟨h1, h2⟩; (try simp at h1); omega) (by rintro b ⟨h1, h2⟩; (try simp at h1); omega) zA4 (by omega) (by rintro b ⟨h1, h2⟩; (try simp at h1); omega) (by rintro b ⟨h1, h2⟩; (try simp at h1); omega) zB4 (by omega) (by rintro b ⟨h1, h2⟩; (try simp at h1); omega) (by rintro b ⟨h1, h2⟩; (try simp at h1); omega) (by omega)
    · go_wp2_with fail; go_meet; exact two_oo hby hr4 hs4 (by rintro b ⟨h1, h2⟩; (try simp at h1); omega) (by rintro b ⟨h1, h2⟩; (try simp at h1); omega) zA4 (by omega) (by rintro b ⟨h1, h2⟩; (try simp at h1); omega) (by rintro b ⟨h1, h2⟩; (try simp at h1); omega) zB4 (by omega) (by rintro b ⟨h1, h2⟩; (try simp at h1); omega) (by rintro b ⟨h1, h2⟩; (try simp at h1); omega) (by omega)
    · go_wp2_with fail; go_meet; exact two_no hby hr4 hs4 (by rintro b ⟨h1, h2⟩; (try simp at h1); omega) (by rintro b ⟨h1, h2⟩; (try simp at h1); omega) zA4 (by omega) (by rintro b ⟨h1, h2⟩; (try simp at h1); omega) (by rintro b ⟨h1, h2⟩; (try simp at h1); omega)
    · go_wp2_with fail; go_meet; exact two_oo hby hr4 hs4 (by rintro b ⟨h1, h2⟩; (try simp at h1); omega) (by rintro b ⟨h1, h2⟩; (try simp at h1); omega) zC4 (by omega) (by rintro b ⟨h1, h2⟩; (try simp at h1); omega) (by rintro b ⟨h1, h2⟩; (try simp at h1); omega) zA4 (by omega) (by rintro b ⟨h1, h2⟩; (try simp at h1); omega) (by rintro b ⟨h1, h2⟩; (try simp at h1); omega) (by omega)
    · go_wp2_with fail; go_meet; exact two_oo hby hr4 hs4 (by rintro b ⟨h1, h2⟩; (try simp at h1); omega) (by rintro b ⟨h1, h2⟩; (try simp at h1); omega) zB4 (by omega) (by rintro b ⟨h1, h2⟩; (try simp at h1); omega) (by rintro b ⟨h1, h2⟩; (try simp at h1); omega) zA4 (by omega) (by rintro b ⟨h1, h2⟩; (try simp at h1); omega) (by rintro b ⟨h1, h2⟩; (try simp at h1); omega) (by omega)
    · go_wp2_with fail; go_meet; exact two_oo hby hr4 hs4 (by rintro b ⟨h1, h2⟩; (try simp at h1); omega) (by rintro b ⟨h1, h2⟩; (try simp at h1); omega) zB4 (by omega) (by rintro b ⟨h1, h2⟩; (try simp at h1); omega) (by rintro b ⟨h1, h2⟩; (try simp at h1); omega) zA4 (by omega) (by rintro b ⟨h1, h2⟩; (try simp at h1); omega) (by rintro b ⟨h1, h2⟩; (try simp at h1); omega) (by omega)
    · go_wp2_with fail; go_meet; exact two_on hby hr4 hs4 (by rintro b ⟨h1, h2⟩; (try simp at h1); omega) (by rintro b ⟨h1, h2⟩; (try simp at h1); omega) zA4 (by omega) (by rintro b ⟨h1, h2⟩; (try simp at h1); omega) (by rintro b ⟨h1, h2⟩; (try simp at h1); omega)
    · go_wp2_with fail; go_meet; exact two_oo hby hr4 hs4 (by rintro b ⟨h1, h2⟩; (try simp at h1); omega) (by rintro b ⟨h1, h2⟩; (try simp at h1); omega) zA4 (by omega) (by rintro b ⟨h1, h2⟩; (try simp at h1); omega) (by rintro b ⟨h1, h2⟩; (try simp at h1); omega) zC4 (by omega) (by rintro b ⟨h1, h2⟩; (try simp at h1); omega) (by rintro b ⟨h1, h2⟩; (try simp at h1); omega) (by omega)
    · go_wp2_with fail; go_meet; exact two_oo hby hr4 hs4 (by rintro b ⟨h1, h2⟩; (try simp at h1); omega) (by rintro b ⟨h1, h2⟩; (try simp at h1); omega) zA4 (by omega) (by rintro b ⟨h1, h2⟩; (try simp at h1); omega) (by rintro b ⟨h1, h2⟩; (try simp at h1); omega) zC4 (by omega) (by rintro b ⟨h1, h2⟩; (try simp at h1); omega) (by rintro b ⟨h1, h2⟩; (try simp at h1); omega) (by omega)
    · go_wp2_with fail; go_meet; exact two_on hby hr4 hs4 (by rintro b ⟨h1, h2⟩; (try simp at h1); omega) (by rintro b ⟨h1, h2⟩; (try simp at h1); omega) zA4 (by omega) (by rintro b ⟨h1, h2⟩; (try simp at h1); omega) (by rintro b ⟨h1, h2⟩; (try simp at h1); omega)
    · go_wp2_with fail; go_meet; exact two_oo hby hr4 hs4 (by rintro b ⟨h1, h2⟩; (try simp at h1); omega) (by rintro b ⟨h1, h2⟩; (try simp at h1); omega) zA4 (by omega) (by rintro b ⟨h1, h2⟩; (try simp at h1); omega) (by rintro b ⟨h1, h2⟩; (try simp at h1); omega) zC4 (by omega) (by rintro b ⟨h1, h2⟩; (try simp at h1); omega) (by rintro b ⟨h1, h2⟩; (try simp at h1); omega) (by omega)
    · go_wp2_with fail; go_meet; exact two_oo hby hr4 hs4 (by rintro b ⟨h1, h2⟩; (try simp at h1); omega) (by rintro b ⟨h1, h2⟩; (try simp at h1); omega) zA4 (by omega) (by rintro b ⟨h1, h2⟩; (try simp at h1); omega) (by rintro b ⟨h1, h2⟩; (try simp at h1); omega) zB4 (by omega) (by rintro b ⟨h1, h2⟩; (try simp at h1); omega) (by rintro b ⟨h1, h2⟩; (try simp at h1); omega) (by omega)
    · go_wp2_with fail; go_meet; exact two_oo hby hr4 hs4 (by rintro b ⟨h1, h2⟩; (try simp at h1); omega) (by rintro b ⟨h1, h2⟩; (try simp at h1); omega) zA4 (by omega) (by rintro b ⟨h1, h2⟩; (try simp at h1); omega) (by rintro b ⟨h1, h2⟩; (try simp at h1); omega) zB4 (by omega) (by rintro b ⟨h1, h2⟩; (try simp at h1); omega) (by rintro b ⟨h1, h2⟩; (try simp at h1); omega) (by omega)
    · go_wp2_with fail; go_meet; exact two_oo hby hr4 hs4 (by rintro b ⟨h1, h2⟩; (try simp at h1); omega) (by rintro b ⟨h1, h2⟩; (try simp at h1); omega) zA4 (by omega) (by rintro b ⟨h1, h2⟩; (try simp at h1); omega) (by rintro b ⟨h1, h2⟩; (try simp at h1); omega) zB4 (by omega) (by rintro b ⟨h1, h2⟩; (try simp at h1); omega) (by rintro b ⟨h1, h2⟩; (try simp at h1); omega) (by omega)
    · go_wp2_with fail; go_meet; exact two_on hby hr4 hs4 (by rintro b ⟨h1, h2⟩; (try simp at h1); omega) (by rintro b ⟨h1, h2⟩; (try simp at h1); omega) zA4 (by omega) (by rintro b ⟨h1, h2⟩; (try simp at h1); omega) (by rintro b ⟨h1, h2⟩; (try simp at h1); omega)
    · go_wp2_with fail; go_meet; exact two_oo hby hr4 hs4 (by rintro b ⟨h1, h2⟩; (try simp at h1); omega) (by rintro b ⟨h1, h2⟩; (try simp at h1); omega) zA4 (by omega) (by rintro b ⟨h1, h2⟩; (try simp at h1); omega) (by rintro b ⟨h1, h2⟩; (try simp at h1); omega) zC4 (by omega) (by rintro b ⟨h1, h2⟩; (try simp at h1); omega) (by rintro b ⟨h1, h2⟩; (try simp at h1); omega) (by omega)
    · go_wp2_with fail; go_meet; exact two_oo hby hr4 hs4 (by rintro b ⟨h1, h2⟩; (try simp at h1); omega) (by rintro b ⟨h1, h2⟩; (try simp at h1); omega) zA4 (by omega) (by rintro b ⟨h1, h2⟩; (try simp at h1); omega) (by rintro b ⟨h1, h2⟩; (try simp at h1); omega) zB4 (by omega) (by rintro b ⟨h1, h2⟩; (try simp at h1); omega) (by rintro b ⟨h1, h2⟩; (try simp at h1); omega) (by omega)
    · go_wp2_with fail; go_meet; exact two_oo hby hr4 hs4 (by rintro b ⟨h1, h2⟩; (try simp at h1); omega) (by rintro b ⟨h1, h2⟩; (try simp at h1); omega) zA4 (by omega) (by rintro b ⟨h1, h2⟩; (try simp at h1); omega) (by rintro b ⟨h1, h2⟩; (try simp at h1); omega) zB4 (by omega) (by rintro b ⟨h1, h2⟩; (try simp at h1); omega) (by rintro b ⟨h1, h2⟩; (try simp at h1); omega) (by omega)
    · go_wp2_with fail; go_meet; exact two_oo hby hr4 hs4 (by rintro b ⟨h1, h2⟩; (try simp at h1); omega) (by rintro b ⟨h1, h2⟩; (try simp at h1); omega) zA4 (by omega) (by rintro b ⟨h1, h2⟩; (try simp at h1); omega) (by rintro b ⟨h1, h2⟩; (try simp at h1); omega) zB4 (by omega) (by rintro b ⟨h1, h2⟩; (try simp at h1); omega) (by rintro b ⟨h1, h2⟩; (try simp at h1); omega) (by omega)
    · go_wp2_with fail; go_meet; exact two_oo hby hr4 hs4 (by rintro b ⟨h1, h2⟩; (try simp at h1); omega) (by rintro b ⟨h1, h2⟩; (try simp at h1); omega) zA4 (by omega) (by rintro b ⟨h1, h2⟩; (try simp at h1); omega) (by rintro b ⟨h1, h2⟩; (try simp at h1); omega) zB4 (by omega) (by rintro b ⟨h1, h2⟩; (try simp at h1); omega) (by rintro b ⟨h1, h2⟩; (try simp at h1); omega) (by omega)
    · go_wp2_with fail; go_meet; exact two_oo hby hr4 hs4 (by rintro b ⟨h1, h2⟩; (try simp at h1); omega) (by rintro b ⟨h1, h2⟩; (try simp at h1); omega) zA4 (by omega) (by rintro b ⟨h1, h2⟩; (try simp at h1); omega) (by rintro b ⟨h1, h2⟩; (try simp at h1); omega) zB4 (by omega) (by rintro b ⟨h1, h2⟩; (try simp at h1); omega) (by rintro b ⟨h1, h2⟩; (try simp at h1); omega) (by omega)
    · go_wp2_with fail; go_meet; exact two_no hby hr4 hs4 (by rintro b ⟨h1, h2⟩; (try simp at h1); omega) (by rintro b ⟨h1, h2⟩; (try simp at h1); omega) zA4 (by omega) (by rintro b ⟨h1, h2⟩; (try simp at h1); omega) (by rintro b ⟨h1, h2⟩; (try simp at h1); omega)
    · go_wp2_with fail; go_meet; exact two_oo hby hr4 hs4 (by rintro b ⟨h1, h2⟩; (try simp at h1); omega) (by rintro b ⟨h1, h2⟩; (try simp at h1); omega) zC4 (by omega) (by rintro b ⟨h1, h2⟩; (try simp at h1); omega) (by rintro b ⟨h1, h2⟩; (try simp at h1); omega) zA4 (by omega) (by rintro b ⟨h1, h2⟩; (try simp at h1); omega) (by rintro b ⟨h1, h2⟩; (try simp at h1); omega) (by omega)
    · go_wp2_with fail; go_meet; exact two_oo hby hr4 hs4 (by rintro b ⟨h1, h2⟩; (try simp at h1); omega) (by rintro b ⟨h1, h2⟩; (try simp at h1); omega) zC4 (by omega) (by rintro b ⟨h1, h2⟩; (try simp at h1); omega) (by rintro b ⟨h1, h2⟩; (try simp at h1); omega) zA4 (by omega) (by rintro b ⟨h1, h2⟩; (try simp at h1); omega) (by rintro b ⟨h1, h2⟩; (try simp at h1); omega) (by omega)
    · go_wp2_with fail; go_meet; exact two_no hby hr4 hs4 (by rintro b ⟨h1, h2⟩; (try simp at h1); omega) (by rintro b ⟨h1, h2⟩; (try simp at h1); omega) zA4 (by omega) (by rintro b ⟨h1, h2⟩; (try simp at h1); omega) (by rintro b ⟨h1, h2⟩; (try simp at h1); omega)
    · go_wp2_with fail; go_meet; exact two_oo hby hr4 hs4 (by rintro b ⟨h1, h2⟩; (try simp at h1); omega) (by rintro b ⟨h1, h2⟩; (try simp at h1); omega) zC4 (by omega) (by rintro b ⟨h1, h2⟩; (try simp at h1); omega) (by rintro b ⟨h1, h2⟩; (try simp at h1); omega) zA4 (by omega) (by rintro b ⟨h1, h2⟩; (try simp at h1); omega) (by rintro b ⟨h1, h2⟩; (try simp at h1); omega) (by omega)
    · go_wp2_with fail; go_meet; exact two_oo hby hr4 hs4 (by rintro b ⟨h1, h2⟩; (try simp at h1); omega) (by rintro b ⟨h1, h2⟩; (try simp at h1); omega) zB4 (by omega) (by rintro b ⟨h1, h2⟩; (try simp at h1); omega) (by rintro b ⟨h1, h2⟩; (try simp at h1); omega) zA4 (by omega) (by rintro b ⟨h1, h2⟩; (try simp at h1); omega) (by rintro b ⟨h1, h2⟩; (try simp at h1); omega) (by omega)
    · go_wp2_with fail; go_meet; exact two_oo hby hr4 hs4 (by rintro b ⟨h1, h2⟩; (try simp at h1); omega) (by rintro b ⟨h1, h2⟩; (try simp at h1); omega) zB4 (by omega) (by rintro b ⟨h1, h2⟩; (try simp at h1); omega) (by rintro b ⟨h1, h2⟩; (try simp at h1); omega) zA4 (by omega) (by rintro b ⟨h1, h2⟩; (try simp at h1); omega) (by rintro b ⟨h1, h2⟩; (try simp at h1); omega) (by omega)
    · go_wp2_with fail; go_meet; exact two_oo hby hr4 hs4 (by rintro b ⟨h1, h2⟩; (try simp at h1); omega) (by rintro b ⟨h1, h2⟩; (try simp at h1); omega) zB4 (by omega) (by rintro b ⟨h1, h2⟩; (try simp at h1); omega) (by rintro b ⟨h1, h2⟩; (try simp at h1); omega) zA4 (by omega) (by rintro b ⟨h1, h2⟩; (try simp at h1); omega) (by rintro b ⟨h1, h2⟩; (try simp at h1); omega) (by omega)
    · go_wp2_with fail; go_meet; exact two_no hby hr4 hs4 (by rintro b ⟨h1, h2⟩; (try simp at h1); omega) (by rintro b ⟨h1, h2⟩; (try simp at h1); omega) zA4 (by omega) (by rintro b ⟨h1, h2⟩; (try simp at h1); omega) (by rintro b ⟨h1, h2⟩; (try simp at h1); omega)
    · go_wp2_with fail; go_meet; exact two_oo hby hr4 hs4 (by rintro b ⟨h1, h2⟩; (try simp at h1); omega) (by rintro b ⟨h1, h2⟩; (try simp at h1); omega) zC4 (by omega) (by rintro b ⟨h1, h2⟩; (try simp at h1); omega) (by rintro b ⟨h1, h2⟩; (try simp at h1); omega) zA4 (by omega) (by rintro b ⟨h1, h2⟩; (try simp at h1); omega) (by rintro b ⟨h1, h2⟩; (try simp at h1); omega) (by omega)
    · go_wp2_with fail; go_meet; exact two_oo hby hr4 hs4 (by rintro b ⟨h1, h2⟩; (try simp at h1); omega) (by rintro b ⟨h1, h2⟩; (try simp at h1); omega) zB4 (by omega) (by rintro b ⟨h1, h2⟩; (try simp at h1); omega) (by rintro b ⟨h1, h2⟩; (try simp at h1); omega) zA4 (by omega) (by rintro b ⟨h1, h2⟩; (try simp at h1); omega) (by rintro b ⟨h1, h2⟩; (try simp at h1); omega) (by omega)
    · go_wp2_with fail; go_meet; exact two_oo hby hr4 hs4 (by rintro b ⟨h1, h2⟩; (try simp at h1); omega) (by rintro b ⟨h1, h2⟩; (try simp at h1); omega) zB4 (by omega) (by rintro b ⟨h1, h2⟩; (try simp at h1); omega) (by rintro b ⟨h1, h2⟩; (try simp at h1); omega) zA4 (by omega) (by rintro b ⟨h1, h2⟩; (try simp at h1); omega) (by rintro b ⟨h1, h2⟩; (try simp at h1); omega) (by omega)
    · go_wp2_with fail; go_meet; exact two_oo hby hr4 hs4 (by rintro b ⟨h1, h2⟩; (try simp at h1); omega) (by rintro b ⟨h1, h2⟩; (try simp at h1); omega) zB4 (by omega) (by rintro b ⟨h1, h2⟩; (try simp at h1); omega) (by rintro b ⟨h1, h2⟩; (try simp at h1); omega) zA4 (by omega) (by rintro b ⟨h1, h2⟩; (try simp at h1); omega) (by rintro b ⟨h1, h2⟩; (try simp at h1); omega) (by omega)
    · go_wp2_with fail; go_meet; exact two_oo hby hr4 hs4 (by rintro b ⟨h1, h2⟩; (try simp at h1); omega) (by rintro b ⟨h1, h2⟩; (try simp at h1); omega) zB4 (by omega) (by rintro b ⟨h1, h2⟩; (try simp at h1); omega) (by rintro b ⟨h1, h2⟩; (try simp at h1); omega) zA4 (by omega) (by rintro b ⟨h1, h2⟩; (try simp at h1); omega) (by rintro b ⟨h1, h2⟩; (try simp at h1); omega) (by omega)
    · go_wp2_with fail; go_meet; exact two_oo hby hr4 hs4 (by rintro b ⟨h1, h2⟩; (try simp at h1); omega) (by rintro b ⟨h1, h2⟩; (try simp at h1); omega) zB4 (by omega) (by rintro b ⟨h1, h2⟩; (try simp at h1); omega) (by rintro b ⟨h1, h2⟩; (try simp at h1); omega) zA4 (by omega) (by rintro b ⟨h1, h2⟩; (try simp at h1); omega) (by rintro b ⟨h1, h2⟩; (try simp at h1); omega) (by omega)
  case rest =>
    obtain ⟨rb, sb, ru, su, rfl, rfl, HR0, HS0, hbc⟩ := hcut
    obtain ⟨kr, ar, br, adr, nr, capr, rfl⟩ := HR0.1.conc
    obtain ⟨ks0, as0, bs, ads, ns, caps, rfl⟩ := HS0.1.conc
    have HV := Lib.hid (And.intro (VP.out.below hbc) (And.intro (VQ.out.below hbc) (And.intro HR0 (And.intro HS0 hbc))))
    have lrb : rb < wc.heap.size := by obtain ⟨_, cs, _, h⟩ := HR0; exact (Array.getElem?_eq_some_iff.1 h).1
    have lsb : sb < wc.heap.size := by obtain ⟨_, cs, _, h⟩ := HS0; exact (Array.getElem?_eq_some_iff.1 h).1
    have lc := hbc.size
    clear HR0 HS0 hbc VP VQ f0 f1 f2 f3 g0 g1 g2 g3 H01
    go_wp2_with fail
    go_loopw [11] (fun i wr => ∃ j : Nat, j ≤ 2 ∧ i = .int .i64 j ∧ Below wc.heap.size wc wr) (fun i _ => 2 - (intOf i).toNat)
    case atStart => exact ⟨0, by omega, rfl, Below.refl _ _⟩
    case round =>
      obtain ⟨j, hj, rfl, hbr⟩ := hrel
      have lr := hbr.size
      have hp0 : wr.heap[w.heap.size]? = some (.cells #[.int .i64 k0, .int .u64 a0, .int .u64 b0, .slice ad0 n0 cap0] 26) := (HV.out.1.below hbr).box
      have hq0 : wr.heap[w.heap.size + 1]? = some (.cells #[.int .i64 k1, .int .u64 a1, .int .u64 b1, .slice ad1 n1 cap1] 26) := (HV.out.2.1.below hbr).box
      have hr0 : wr.heap[rb]? = some (.cells #[.int .i64 kr, .int .u64 ar, .int .u64 br, .slice adr nr capr] 32) := (HV.out.2.2.1.below hbr).box
      have hs0 : wr.heap[sb]? = some (.cells #[.int .i64 ks0, .int .u64 as0, .int .u64 bs, .slice ads ns caps] 32) := (HV.out.2.2.2.1.below hbr).box
      by_cases hlt : j < 2
      · have p0 : wr.cell? ⟨w.heap.size, 0, none⟩ = some (.int .i64 k0) := by rw [cell_of_row wr _ 0 _ _ _ hp0]; rfl
        have p1 : wr.cell? ⟨w.heap.size, 1, none⟩ = some (.int .u64 a0) := by rw [cell_of_row wr _ 1 _ _ _ hp0]; rfl
        have p2 : wr.cell? ⟨w.heap.size, 2, none⟩ = some (.int .u64 b0) := by rw [cell_of_row wr _ 2 _ _ _ hp0]; rfl
        have p3 : wr.cell? ⟨w.heap.size, 3, none⟩ = some (.slice ad0 n0 cap0) := by rw [cell_of_row wr _ 3 _ _ _ hp0]; rfl
        have HB := Lib.hid (And.intro hp0 (And.intro hq0 (And.intro hr0 (And.intro hs0 hbr))))
        have RP := Lib.hid (HV.out.1.below hbr).1
        have RQ := Lib.hid (HV.out.2.1.below hbr).1
        clear hp0 hq0 hr0 hs0 hbr
        go_wp2_with fail
        refine (predPut_any _ _ p _ _ (by omega) RP.out).mono ?_
        rintro e w3 ⟨vb, rfl, hob, hb3⟩
        obtain ⟨vba, vbc, rfl⟩ := owns_slice hob
        have z3 := hb3.size
        have c3 : ∀ o, w3.cell? ⟨w.heap.size, o, none⟩ = (#[.int .i64 k0, .int .u64 a0, .int .u64 b0, .slice ad0 n0 cap0] : Array Value)[o]? := fun o => (hb3.cell (by show w.heap.size < _; omega)).trans (cell_of_row wr _ o _ _ _ HB.out.1)
        have d3 : ∀ o, w3.cell? ⟨w.heap.size + 1, o, none⟩ = (#[.int .i64 k1, .int .u64 a1, .int .u64 b1, .slice ad1 n1 cap1] : Array Value)[o]? := fun o => (hb3.cell (by show w.heap.size + 1 < _; omega)).trans (cell_of_row wr _ o _ _ _ HB.out.2.1)
        have H3 := Lib.hid (And.intro hob hb3)
        clear hob hb3 p0 p1 p2 p3
        go_wp2_with fail
        obtain ⟨w3a, hw3a⟩ : ∃ w3a, w3a = w3.alloc (.cells #[.int .i64 k0, .int .u64 a0, .int .u64 b0, .slice ad0 n0 cap0, .int .i64 k1, .int .u64 a1, .int .u64 b1, .slice ad1 n1 cap1] 26) := ⟨_, rfl⟩
        have hb3a : Below wr.heap.size wr w3a := by rw [hw3a]; exact H3.out.2.alloc H3.out.2.size _
        have h8 : w3a.heap[w3.heap.size]? = some (.cells #[.int .i64 k0, .int .u64 a0, .int .u64 b0, .slice ad0 n0 cap0, .int .i64 k1, .int .u64 a1, .int .u64 b1, .slice ad1 n1 cap1] 26) := by rw [hw3a]; exact heap_alloc_new _ _
        have hb33 : Below w3.heap.size w3 w3a := by rw [hw3a]; exact (Below.refl _ _).alloc (Nat.le_refl _) _
        have z3a : w3a.heap.size = w3.heap.size + 1 := by rw [hw3a]; simp
        rw [← hw3a]
        have hes : RepEs w3a (fun _ => True) false [p, q] [.int .i64 k0, .int .u64 a0, .int .u64 b0, .slice ad0 n0 cap0, .int .i64 k1, .int .u64 a1, .int .u64 b1, .slice ad1 n1 cap1] :=
          RepEs.append (RepEs.one (((RP.out.below hb3a (Nat.le_refl _)).wider (fun _ _ _ => trivial)).unown)) (RepEs.one (((RQ.out.below hb3a (Nat.le_refl _)).wider (fun _ _ _ => trivial)).unown))
        have hsl : Sl w3a (fun _ => True) false 4 2 [.int .i64 k0, .int .u64 a0, .int .u64 b0, .slice ad0 n0 cap0, .int .i64 k1, .int .u64 a1, .int .u64 b1, .slice ad1 n1 cap1] (.slice (some ⟨w3.heap.size, 0, none⟩) 2 2) := ((sl_block 2 4 h8 (by simp) (by omega)).keep (by omega) (fun _ _ _ => rfl) (fun _ _ _ => trivial)).unown
        have H3a := Lib.hid (And.intro hes (And.intro hsl (And.intro hb3a (And.intro h8 hb33))))
        clear hes hsl hb3a h8 hw3a hb33
        go_fit (predBoth_any _ _ [p, q] _ _ 2 _ _ rfl (by simp only [Ex.depths]; omega) (by simp only [Ex.sizes]; omega) H3a.out.2.1 H3a.out.1)
        rintro e w4 ⟨⟨v4, rfl, hv4⟩, hb4⟩
        obtain ⟨t0, t1, t2, t3, t4, t5, rfl⟩ := hv4.conc
        have z4 := hb4.size
        have c4 : ∀ o, w4.cell? ⟨w.heap.size, o, none⟩ = (#[.int .i64 k0, .int .u64 a0, .int .u64 b0, .slice ad0 n0 cap0] : Array Value)[o]? := fun o => (hb4.cell (by show w.heap.size < _; omega)).trans ((H3a.out.2.2.1.cell (by show w.heap.size < _; omega)).trans (cell_of_row wr _ o _ _ _ HB.out.1))
        have H4 := Lib.hid (And.intro hv4 hb4)
        have l4 : w.heap.size < w4.heap.size := by omega
        clear hv4 hb4 c3 d3
        go_wp2_with fail
        obtain ⟨w4b, hw4b⟩ : ∃ w4b, w4b = w4.alloc (.cells #[.int .i64 t0, .int .u64 t1, .int .u64 t2, .slice t3 t4 t5] 26) := ⟨_, rfl⟩
        have hb4b : Below wr.heap.size wr w4b := by rw [hw4b]; exact ((H3a.out.2.2.1.trans (H4.out.2.mono H3a.out.2.2.1.size))).alloc (Nat.le_trans H3a.out.2.2.1.size H4.out.2.size) _
        have h4b : w4b.heap[w4.heap.size]? = some (.cells #[.int .i64 t0, .int .u64 t1, .int .u64 t2, .slice t3 t4 t5] 26) := by rw [hw4b]; exact heap_alloc_new _ _
        have hb44 : Below w4.heap.size w4 w4b := by rw [hw4b]; exact (Below.refl _ _).alloc (Nat.le_refl _) _
        have z4b : w4b.heap.size = w4.heap.size + 1 := by rw [hw4b]; simp
        have r4b : RepE w4b (fun b => w3a.heap.size ≤ b ∧ b < w4.heap.size) true (.mk 6 0 0 [p, q]) (.agg #[.int .i64 t0, .int .u64 t1, .int .u64 t2, .slice t3 t4 t5]) := by
          rw [hw4b]; exact (H4.out.1.wider (fun b hb h => ⟨h, hb⟩)).below ((Below.refl _ _).alloc (Nat.le_refl _) _) (Nat.le_refl _)
        rw [← hw4b]
        have H4b := Lib.hid (And.intro hb4b (And.intro h4b (And.intro r4b hb44)))
        clear hb4b h4b r4b hw4b hb44 c4 l4
        go_fit (predTurn_any _ _ p _ _ (by omega) (RP.out.below H4b.out.1 (Nat.le_refl _)))
        rintro e w5 ⟨⟨v5, rfl, hv5⟩, hb5⟩
        obtain ⟨u0, u1, u2, u3, u4, u5, rfl⟩ := hv5.conc
        have z5 := hb5.size
        have hbw5 : Below wr.heap.size wr w5 := H4b.out.1.trans (hb5.mono H4b.out.1.size)
        have cr5 : ∀ o, w5.cell? ⟨rb, o, none⟩ = (#[.int .i64 kr, .int .u64 ar, .int .u64 br, .slice adr nr capr] : Array Value)[o]? := fun o => (hbw5.cell (by show rb < _; omega)).trans (cell_of_row wr _ o _ _ _ HB.out.2.2.1)
        have cs5 : ∀ o, w5.cell? ⟨sb, o, none⟩ = (#[.int .i64 ks0, .int .u64 as0, .int .u64 bs, .slice ads ns caps] : Array Value)[o]? := fun o => (hbw5.cell (by show sb < _; omega)).trans (cell_of_row wr _ o _ _ _ HB.out.2.2.2.1)
        have lr5 : rb < w5.heap.size := by omega
        have ls5 : sb < w5.heap.size := by omega
        have H5 := Lib.hid (And.intro hv5 (And.intro hb5 hbw5))
        clear hv5 hb5 hbw5
        go_wp2_with fail
        obtain ⟨W, hW⟩ : ∃ W, W = (((w5.alloc (.cells #[.int .i64 u0, .int .u64 u1, .int .u64 u2, .slice u3 u4 u5] 26)).alloc (.cells #[.int .i64 kr, .int .u64 ar, .int .u64 br, .slice adr nr capr, .int .i64 ks0, .int .u64 as0, .int .u64 bs, .slice ads ns caps] 32)).alloc (.cells #[.int .i64 6, .int .u64 0, .int .u64 0, .slice (some ⟨w5.heap.size + 1, 0, none⟩) 2 2] 32)) := ⟨_, rfl⟩
        have hbq : Below w5.heap.size w5 W := by rw [hW]; exact (((Below.refl _ _).alloc (Nat.le_refl _) _).alloc (by simp) _).alloc (by simp; omega) _
        have hbW0 : Below wr.heap.size wr W := H5.out.2.2.trans (hbq.mono H5.out.2.2.size)
        have Wz : W.heap.size = w5.heap.size + 3 := by rw [hW]; simp
        have bt : W.heap[w5.heap.size]? = some (.cells #[.int .i64 u0, .int .u64 u1, .int .u64 u2, .slice u3 u4 u5] 26) := by rw [hW]; exact (heap_alloc_lt _ _ _ (by simp; omega)).trans ((heap_alloc_lt _ _ _ (by simp)).trans (heap_alloc_new _ _))
        have bw : W.heap[w5.heap.size + 1 + 1]? = some (.cells #[.int .i64 6, .int .u64 0, .int .u64 0, .slice (some ⟨w5.heap.size + 1, 0, none⟩) 2 2] 32) := by rw [hW]; exact heap_alloc_at _ _ _ (by simp)
        have b8 : W.heap[w5.heap.size + 1]? = some (.cells #[.int .i64 kr, .int .u64 ar, .int .u64 br, .slice adr nr capr, .int .i64 ks0, .int .u64 as0, .int .u64 bs, .slice ads ns caps] 32) := by rw [hW]; exact (heap_alloc_lt _ _ _ (by simp)).trans (heap_alloc_at _ _ _ (by simp))
        have bb : W.heap[w4.heap.size]? = some (.cells #[.int .i64 t0, .int .u64 t1, .int .u64 t2, .slice t3 t4 t5] 26) := (hbq.block _ (by omega)).trans ((H5.out.2.1.block _ (by omega)).trans H4b.out.2.1)
        have brr : W.heap[rb]? = some (.cells #[.int .i64 kr, .int .u64 ar, .int .u64 br, .slice adr nr capr] 32) := (hbW0.block _ (by omega)).trans HB.out.2.2.1
        have Rr := ((HV.out.2.2.1.below HB.out.2.2.2.2).1.below hbW0 (Nat.le_refl _))
        have Rs := ((HV.out.2.2.2.1.below HB.out.2.2.2.2).1.below hbW0 (Nat.le_refl _))
        have Rb := (H4b.out.2.2.1.below H5.out.2.1 (Nat.le_refl _)).below hbq (Nat.le_refl _)
        have Rt := (H5.out.1.wider (S' := fun b => w4b.heap.size ≤ b ∧ b < w5.heap.size) (fun b hb h => ⟨h, hb⟩)).below hbq (Nat.le_refl _)
        have Rw := rep_over (k := 6) (es := [p, q]) b8 (by simp) (by simp) (RepEs.append (RepEs.one ((Rr.wider (S' := fun _ => True) (fun _ _ _ => trivial)).unown)) (RepEs.one ((Rs.wider (S' := fun _ => True) (fun _ _ _ => trivial)).unown))) (by omega) (by omega)
        have Ob := ownsRow_below (ownsRow_below (ownsRow_below (ownsRow_below (ownsRow_below H3.out.1 H3a.out.2.2.2.2 (Nat.le_refl _)) H4.out.2 (Nat.le_refl _)) H4b.out.2.2.2 (Nat.le_refl _)) H5.out.2.1 (Nat.le_refl _)) hbq (Nat.le_refl _)
        have rr0 : W.cell? ⟨rb, 0, none⟩ = some (.int .i64 kr) := by rw [cell_of_row W _ 0 _ _ _ brr]; rfl
        have rr1 : W.cell? ⟨rb, 1, none⟩ = some (.int .u64 ar) := by rw [cell_of_row W _ 1 _ _ _ brr]; rfl
        have rr2 : W.cell? ⟨rb, 2, none⟩ = some (.int .u64 br) := by rw [cell_of_row W _ 2 _ _ _ brr]; rfl
        have rr3 : W.cell? ⟨rb, 3, none⟩ = some (.slice adr nr capr) := by rw [cell_of_row W _ 3 _ _ _ brr]; rfl
        have xb0 : W.cell? ⟨w4.heap.size, 0, none⟩ = some (.int .i64 t0) := by rw [cell_of_row W _ 0 _ _ _ bb]; rfl
        have xb1 : W.cell? ⟨w4.heap.size, 1, none⟩ = some (.int .u64 t1) := by rw [cell_of_row W _ 1 _ _ _ bb]; rfl
        have xb2 : W.cell? ⟨w4.heap.size, 2, none⟩ = some (.int .u64 t2) := by rw [cell_of_row W _ 2 _ _ _ bb]; rfl
        have xb3 : W.cell? ⟨w4.heap.size, 3, none⟩ = some (.slice t3 t4 t5) := by rw [cell_of_row W _ 3 _ _ _ bb]; rfl
        have tt0 : W.cell? ⟨w5.heap.size, 0, none⟩ = some (.int .i64 u0) := by rw [cell_of_row W _ 0 _ _ _ bt]; rfl
        have tt1 : W.cell? ⟨w5.heap.size, 1, none⟩ = some (.int .u64 u1) := by rw [cell_of_row W _ 1 _ _ _ bt]; rfl
        have tt2 : W.cell? ⟨w5.heap.size, 2, none⟩ = some (.int .u64 u2) := by rw [cell_of_row W _ 2 _ _ _ bt]; rfl
        have tt3 : W.cell? ⟨w5.heap.size, 3, none⟩ = some (.slice u3 u4 u5) := by rw [cell_of_row W _ 3 _ _ _ bt]; rfl
        have ww0 : W.cell? ⟨w5.heap.size + 1 + 1, 0, none⟩ = some (.int .i64 6) := by rw [cell_of_row W _ 0 _ _ _ bw]; rfl
        have ww1 : W.cell? ⟨w5.heap.size + 1 + 1, 1, none⟩ = some (.int .u64 0) := by rw [cell_of_row W _ 1 _ _ _ bw]; rfl
        have ww2 : W.cell? ⟨w5.heap.size + 1 + 1, 2, none⟩ = some (.int .u64 0) := by rw [cell_of_row W _ 2 _ _ _ bw]; rfl
        have ww3 : W.cell? ⟨w5.heap.size + 1 + 1, 3, none⟩ = some (.slice (some ⟨w5.heap.size + 1, 0, none⟩) 2 2) := by rw [cell_of_row W _ 3 _ _ _ bw]; rfl
        have L1 : rb < W.heap.size := by omega
        have L2 : w4.heap.size < W.heap.size := by omega
        have L3 : w5.heap.size < W.heap.size := by omega
        have L4 : w5.heap.size + 1 + 1 < W.heap.size := by omega
        have hts := turn_size p
        have htd := p.turn.depth_le_size
        have HR := Lib.hid (And.intro Rr (And.intro Rb (And.intro Rt (And.intro Rw (And.intro Ob hbW0)))))
        have HBX := Lib.hid (And.intro bb bt)
        rw [← hW]
        clear hW Rr Rs Rb Rt Rw Ob bt bw b8 bb brr hbW0 hbq cr5 cs5
        have hbW : Below W.heap.size W W := Below.refl _ _
        go_region_held3 (fun w' => w'.cell? ⟨rb, 0, none⟩ = some (.int .i64 kr) ∧ w'.cell? ⟨rb, 1, none⟩ = some (.int .u64 ar) ∧ w'.cell? ⟨rb, 2, none⟩ = some (.int .u64 br) ∧ w'.cell? ⟨rb, 3, none⟩ = some (.slice adr nr capr) ∧
            w'.cell? ⟨w4.heap.size, 0, none⟩ = some (.int .i64 t0) ∧ w'.cell? ⟨w4.heap.size, 1, none⟩ = some (.int .u64 t1) ∧ w'.cell? ⟨w4.heap.size, 2, none⟩ = some (.int .u64 t2) ∧ w'.cell? ⟨w4.heap.size, 3, none⟩ = some (.slice t3 t4 t5) ∧
            w'.cell? ⟨w5.heap.size, 0, none⟩ = some (.int .i64 u0) ∧ w'.cell? ⟨w5.heap.size, 1, none⟩ = some (.int .u64 u1) ∧ w'.cell? ⟨w5.heap.size, 2, none⟩ = some (.int .u64 u2) ∧ w'.cell? ⟨w5.heap.size, 3, none⟩ = some (.slice u3 u4 u5) ∧
            w'.cell? ⟨w5.heap.size + 1 + 1, 0, none⟩ = some (.int .i64 6) ∧ w'.cell? ⟨w5.heap.size + 1 + 1, 1, none⟩ = some (.int .u64 0) ∧ w'.cell? ⟨w5.heap.size + 1 + 1, 2, none⟩ = some (.int .u64 0) ∧ w'.cell? ⟨w5.heap.size + 1 + 1, 3, none⟩ = some (.slice (some ⟨w5.heap.size + 1, 0, none⟩) 2 2))
          (first
            | exact ⟨(hbW.cell L1).trans rr0, (hbW.cell L1).trans rr1, (hbW.cell L1).trans rr2, (hbW.cell L1).trans rr3, (hbW.cell L2).trans xb0, (hbW.cell L2).trans xb1, (hbW.cell L2).trans xb2, (hbW.cell L2).trans xb3, (hbW.cell L3).trans tt0, (hbW.cell L3).trans tt1, (hbW.cell L3).trans tt2, (hbW.cell L3).trans tt3, (hbW.cell L4).trans ww0, (hbW.cell L4).trans ww1, (hbW.cell L4).trans ww2, (hbW.cell L4).trans ww3⟩
            | go_keep)
          (first
            | (go_at_call 19; have _m := hv8; go_fit (refSame_any p.turn.depth _ _ _ _ p.turn p.turn _ _ _ (Nat.le_refl _) (by omega) hv7' hv8); rintro e w' ⟨rfl, hbx⟩; rw [Ex.same_refl]; replace hbW := hbW.trans (hbx.mono hbW.size); clear hbx)
            | (go_at_call 20; go_fit (refTurn_any _ _ p _ _ (by omega) (HR.out.1.below hbW (Nat.le_refl _))); rintro e w' ⟨⟨v8, rfl, hv8⟩, hbx⟩; have hv7' := hv7.below hbx (Nat.le_refl _); replace hbW := hbW.trans (hbx.mono hbW.size); clear hbx)
            | (go_at_call 13; have _m := hd5; go_fit (docExpr_any p.turn.depth _ _ p.turn _ _ (Nat.le_refl _) (by omega) (by omega) (HR.out.2.2.1.below hbW (Nat.le_refl _))); rintro e w' ⟨⟨v7, rfl, hv7⟩, hbx⟩; replace hbW := hbW.trans (hbx.mono hbW.size); clear hbx)
            | (go_at_call 19; go_fit (refSame_any 900 _ _ _ _ (.mk 6 0 0 [p, q]) (.mk 6 0 0 [p, q]) _ _ _ (by simp only [Ex.depth, Ex.depths]; omega) (by omega) hv6 (HR.out.2.2.2.1.below hbW (Nat.le_refl _))); rintro e w' ⟨rfl, hbx⟩; rw [Ex.same_refl]; have hd5 := True.intro; replace hbW := hbW.trans (hbx.mono hbW.size); clear hbx)
            | (go_at_call 13; go_fit (docExpr_any 900 _ _ (.mk 6 0 0 [p, q]) _ _ (by simp only [Ex.depth, Ex.depths]; omega) (by omega) (by simp only [Ex.size, Ex.sizes]; omega) (HR.out.2.1.below hbW (Nat.le_refl _))); rintro e w' ⟨⟨v6, rfl, hv6⟩, hbx⟩; replace hbW := hbW.trans (hbx.mono hbW.size); clear hbx)
            | (go_at_call 17; go_fit (sameBytes_any _ _ _ _ p.put p.put _ _ _ (Sl.of_owns (ownsRow_below HR.out.2.2.2.2.1 hbW (Nat.le_refl _)) (by omega)) (Sl.of_owns hown5 (by omega))); rintro e w' ⟨rfl, hbx⟩; rw [decide_eq_true rfl]; replace hbW := hbW.trans (hbx.mono hbW.size); clear hbx)
            | (go_at_call 18; go_fit (refPutE_any _ _ p _ _ (by omega) (HR.out.1.below hbW.drew (Nat.le_refl _))); rintro e w' ⟨v5b, rfl, hown5, hbx⟩; replace hbW := hbW.drew.trans (hbx.mono hbW.size); clear hbx))
        have hbw' : Below wr.heap.size wr w' := HR.out.2.2.2.2.2.trans (hbW.mono (by omega))
        have zw' := hbW.size
        have HB1 : RepB w' (fun b => wr.heap.size ≤ b ∧ b < w3.heap.size) true p.put (.slice vba p.put.length vbc) := (Sl.of_owns (ownsRow_below HR.out.2.2.2.2.1 hbW (Nat.le_refl _)) (by omega)).keep (by omega) (fun _ _ _ => rfl) (fun b _ h => H3.out.1.lt b h.1)
        have RB' := HR.out.2.1.below hbW (Nat.le_refl _)
        have RT' := HR.out.2.2.1.below hbW (Nat.le_refl _)
        have bb5 := (hbW.block _ L2).trans HBX.out.1
        have bt5 := (hbW.block _ L3).trans HBX.out.2
        have HC := Lib.hid (And.intro hbw' (And.intro HB1 (And.intro RB' (And.intro RT' (And.intro bb5 bt5)))))
        clear hbw' HB1 RB' RT' bb5 bt5 hbW hv6 hv7 hv7' hv8 hown5 hd5 rr0 rr1 rr2 rr3 xb0 xb1 xb2 xb3 tt0 tt1 tt2 tt3 ww0 ww1 ww2 ww3
        go_wp2_with fail
        refine (spoilBytes_any wr.heap.size w3.heap.size (fun b => wr.heap.size ≤ b ∧ b < w3.heap.size) (fun b h => h) p.put _ _ (by omega) HC.out.2.1).mono ?_
        rintro e w6 ⟨rfl, hs6, hk6⟩
        have z6 := hs6.size
        have bb6 := (hk6 w4.heap.size (by simp; omega) (by omega)).trans HC.out.2.2.2.2.1
        have bt6 := (hk6 w5.heap.size (by simp; omega) (by omega)).trans HC.out.2.2.2.2.2
        have RB6 := Lib.hid (RepE.keep (S' := fun b => w3a.heap.size ≤ b ∧ b < w4.heap.size) (fun b hb hl => hk6 b (by simp at hb ⊢; omega) hl) (fun _ _ h => h) HC.out.2.2.1)
        have RT6 := Lib.hid (RepE.keep (S' := fun b => w4b.heap.size ≤ b ∧ b < w5.heap.size) (fun b hb hl => hk6 b (by simp at hb ⊢; omega) hl) (fun _ _ h => h) HC.out.2.2.2.1)
        have y0 : w6.cell? ⟨w4.heap.size, 0, none⟩ = some (.int .i64 t0) := by rw [cell_of_row w6 _ 0 _ _ _ bb6]; rfl
        have y1 : w6.cell? ⟨w4.heap.size, 1, none⟩ = some (.int .u64 t1) := by rw [cell_of_row w6 _ 1 _ _ _ bb6]; rfl
        have y2 : w6.cell? ⟨w4.heap.size, 2, none⟩ = some (.int .u64 t2) := by rw [cell_of_row w6 _ 2 _ _ _ bb6]; rfl
        have y3 : w6.cell? ⟨w4.heap.size, 3, none⟩ = some (.slice t3 t4 t5) := by rw [cell_of_row w6 _ 3 _ _ _ bb6]; rfl
        have H6 := Lib.hid (And.intro bb6 (And.intro bt6 (And.intro hs6 hk6)))
        clear bb6 bt6 hs6 hk6
        go_wp2_with fail
        refine (spoilExpr_any wr.heap.size w4.heap.size (fun b => w3a.heap.size ≤ b ∧ b < w4.heap.size) (fun b h => ⟨by have := h.1; omega, h.2⟩) 900 _ _ (by omega) (by omega) (RB6.out.shape 900 (by simp only [Ex.depth, Ex.depths]; omega))).mono ?_
        rintro e w7 ⟨rfl, hsp7⟩
        have z7 := hsp7.below.size
        have bt7 := (hsp7.keeps w5.heap.size (by simp; omega) (by omega)).trans H6.out.2.1
        have RT7 := Lib.hid (RepE.keep (S' := fun b => w4b.heap.size ≤ b ∧ b < w5.heap.size) (fun b hb hl => hsp7.keeps b (by simp at hb ⊢; omega) hl) (fun _ _ h => h) RT6.out)
        have yq0 : w7.cell? ⟨w5.heap.size, 0, none⟩ = some (.int .i64 u0) := by rw [cell_of_row w7 _ 0 _ _ _ bt7]; rfl
        have yq1 : w7.cell? ⟨w5.heap.size, 1, none⟩ = some (.int .u64 u1) := by rw [cell_of_row w7 _ 1 _ _ _ bt7]; rfl
        have yq2 : w7.cell? ⟨w5.heap.size, 2, none⟩ = some (.int .u64 u2) := by rw [cell_of_row w7 _ 2 _ _ _ bt7]; rfl
        have yq3 : w7.cell? ⟨w5.heap.size, 3, none⟩ = some (.slice u3 u4 u5) := by rw [cell_of_row w7 _ 3 _ _ _ bt7]; rfl
        have H7 := Lib.hid hsp7
        clear hsp7 bt7 y0 y1 y2 y3
        go_wp2_with fail
        refine (spoilExpr_any wr.heap.size w5.heap.size (fun b => w4b.heap.size ≤ b ∧ b < w5.heap.size) (fun b h => ⟨by have := h.1; omega, h.2⟩) 900 _ _ (by omega) (by omega) (RT7.out.shape 900 (by omega))).mono ?_
        rintro e w8 ⟨rfl, hsp8⟩
        have H8 := Lib.hid hsp8
        clear hsp8 yq0 yq1 yq2 yq3
        go_wp2_with fail
        go_roundw
        case rel => exact ⟨j + 1, by omega, by go_num, HB.out.2.2.2.2.trans ((((HC.out.1.trans H6.out.2.2.1).trans H7.out.below).trans H8.out.below).mono (by omega))⟩
        case measure => simp [intOf]; omega
      · have hj2 : j = 2 := by omega
        subst hj2
        have p0 : wr.cell? ⟨w.heap.size, 0, none⟩ = some (.int .i64 k0) := by rw [cell_of_row wr _ 0 _ _ _ hp0]; rfl
        have p1 : wr.cell? ⟨w.heap.size, 1, none⟩ = some (.int .u64 a0) := by rw [cell_of_row wr _ 1 _ _ _ hp0]; rfl
        have p2 : wr.cell? ⟨w.heap.size, 2, none⟩ = some (.int .u64 b0) := by rw [cell_of_row wr _ 2 _ _ _ hp0]; rfl
        have p3 : wr.cell? ⟨w.heap.size, 3, none⟩ = some (.slice ad0 n0 cap0) := by rw [cell_of_row wr _ 3 _ _ _ hp0]; rfl
        have m0 : wr.cell? ⟨rb, 0, none⟩ = some (.int .i64 kr) := by rw [cell_of_row wr _ 0 _ _ _ hr0]; rfl
        have m1 : wr.cell? ⟨rb, 1, none⟩ = some (.int .u64 ar) := by rw [cell_of_row wr _ 1 _ _ _ hr0]; rfl
        have m2 : wr.cell? ⟨rb, 2, none⟩ = some (.int .u64 br) := by rw [cell_of_row wr _ 2 _ _ _ hr0]; rfl
        have m3 : wr.cell? ⟨rb, 3, none⟩ = some (.slice adr nr capr) := by rw [cell_of_row wr _ 3 _ _ _ hr0]; rfl
        have L1 : w.heap.size < wr.heap.size := by omega
        have L3 : rb < wr.heap.size := by omega
        have HBX := Lib.hid (And.intro hp0 (And.intro hq0 (And.intro hr0 hs0)))
        have HR := Lib.hid (And.intro (HV.out.1.below hbr).1 (And.intro (HV.out.2.1.below hbr).1 (And.intro (HV.out.2.2.1.below hbr).1 (And.intro (HV.out.2.2.2.1.below hbr).1 hbr))))
        have hb2r : Below w2.heap.size w2 wr := HV.out.2.2.2.2.trans (hbr.mono lc)
        have HLr := Lib.hid ((HL2.out.below hb2r).mono hb2r.size)
        have HB2r := Lib.hid (HB2.out.trans (hb2r.mono (by omega)))
        clear hp0 hq0 hr0 hs0 hbr hb2r
        obtain ⟨pr, hpr⟩ : ∃ pr : Bool, pr = p.right := ⟨_, rfl⟩
        obtain ⟨ph, hph⟩ : ∃ ph : Bool, ph = p.holds x v := ⟨_, rfl⟩
        obtain ⟨pt, hpt⟩ : ∃ pt : ByteArray, pt = ⟨p.text.toArray⟩ := ⟨_, rfl⟩
        obtain ⟨sm, hsm⟩ : ∃ sm : Bool, sm = p.same q := ⟨_, rfl⟩
        go_wp2_with fail
        have hbW : Below wr.heap.size wr wr := Below.refl _ _
        go_region_held3 (fun w' => w'.cell? ⟨w.heap.size, 0, none⟩ = some (.int .i64 k0) ∧ w'.cell? ⟨w.heap.size, 1, none⟩ = some (.int .u64 a0) ∧ w'.cell? ⟨w.heap.size, 2, none⟩ = some (.int .u64 b0) ∧ w'.cell? ⟨w.heap.size, 3, none⟩ = some (.slice ad0 n0 cap0) ∧ w'.cell? ⟨rb, 0, none⟩ = some (.int .i64 kr) ∧ w'.cell? ⟨rb, 1, none⟩ = some (.int .u64 ar) ∧ w'.cell? ⟨rb, 2, none⟩ = some (.int .u64 br) ∧ w'.cell? ⟨rb, 3, none⟩ = some (.slice adr nr capr))
          (first
            | exact ⟨(hbW.cell L1).trans p0, (hbW.cell L1).trans p1, (hbW.cell L1).trans p2, (hbW.cell L1).trans p3, (hbW.cell L3).trans m0, (hbW.cell L3).trans m1, (hbW.cell L3).trans m2, (hbW.cell L3).trans m3⟩
            | go_keep)
          (first
            | (go_at_call 23; go_fit (predRight_any _ _ p _ _ (by omega) (HR.out.1.below hbW.drew (Nat.le_refl _))); rintro e w' ⟨rfl, hbx⟩; rw [← hpr]; replace hbW := hbW.drew.trans (hbx.mono hbW.size); clear hbx)
            | (go_at_call 24; go_fit (refRight_any _ _ p _ _ (by omega) (HR.out.2.2.1.below hbW (Nat.le_refl _))); rintro e w' ⟨rfl, hbx⟩; rw [← hpr]; replace hbW := hbW.trans (hbx.mono hbW.size); clear hbx)
            | (go_at_call 25; go_fit (predDepth_any p.depth _ _ p _ _ (Nat.le_refl _) (by omega) (HR.out.1.below hbW (Nat.le_refl _))); rintro e w' ⟨rfl, hbx⟩; replace hbW := hbW.trans (hbx.mono hbW.size); clear hbx)
            | (go_at_call 26; go_fit (refDepth_any p.depth _ _ p _ _ (Nat.le_refl _) (by omega) (HR.out.2.2.1.below hbW (Nat.le_refl _))); rintro e w' ⟨rfl, hbx⟩; replace hbW := hbW.trans (hbx.mono hbW.size); clear hbx)
            | (go_at_call 27; go_fit (predNodes_any p.size _ _ p _ _ (Nat.le_refl _) (by omega) (HR.out.1.below hbW (Nat.le_refl _))); rintro e w' ⟨rfl, hbx⟩; replace hbW := hbW.trans (hbx.mono hbW.size); clear hbx)
            | (go_at_call 28; go_fit (refNodes_any p.size _ _ p _ _ (Nat.le_refl _) (by omega) (HR.out.2.2.1.below hbW (Nat.le_refl _))); rintro e w' ⟨rfl, hbx⟩; replace hbW := hbW.trans (hbx.mono hbW.size); clear hbx)
            | (go_at_call 29; go_fit (predHolds_any _ _ p _ x v _ (by omega) hx hv (HR.out.1.below hbW (Nat.le_refl _))); rintro e w' ⟨rfl, hbx⟩; rw [← hph]; replace hbW := hbW.trans (hbx.mono hbW.size); clear hbx)
            | (go_at_call 30; go_fit (refHolds_any _ _ p _ x v _ (by omega) hx hv (HR.out.2.2.1.below hbW (Nat.le_refl _))); rintro e w' ⟨rfl, hbx⟩; rw [← hph]; replace hbW := hbW.trans (hbx.mono hbW.size); clear hbx)
            | (go_at_call 31; go_fit (predText_any _ _ p _ _ (by omega) (HR.out.1.below hbW (Nat.le_refl _)) ((HLr.out.below hbW).mono hbW.size)); rintro e w' ⟨rfl, hbx⟩; rw [← hpt]; replace hbW := hbW.trans (hbx.mono hbW.size); clear hbx)
            | (go_at_call 32; go_fit (refText_any _ _ p _ _ (by omega) (HR.out.2.2.1.below hbW (Nat.le_refl _))); rintro e w' ⟨rfl, hbx⟩; rw [← hpt]; replace hbW := hbW.trans (hbx.mono hbW.size); clear hbx))
        have HBY := Lib.hid (And.intro ((hbW.block _ L1).trans HBX.out.1) (And.intro ((hbW.block _ (by omega)).trans HBX.out.2.1) (And.intro ((hbW.block _ L3).trans HBX.out.2.2.1) ((hbW.block _ (by omega)).trans HBX.out.2.2.2))))
        have HR2 := Lib.hid (And.intro (HR.out.1.below hbW (Nat.le_refl _)) (And.intro (HR.out.2.1.below hbW (Nat.le_refl _)) (And.intro (HR.out.2.2.1.below hbW (Nat.le_refl _)) (And.intro (HR.out.2.2.2.1.below hbW (Nat.le_refl _)) hbW))))
        have HLr2 := Lib.hid ((HLr.out.below hbW).mono hbW.size)
        have zW := hbW.size
        clear hbW p0 p1 p2 p3 m0 m1 m2 m3
        obtain ⟨W, hW⟩ : ∃ W, W = w' := ⟨_, rfl⟩
        rw [← hW] at HBY HR2 HLr2 zW ⊢
        clear hW
        go_wp2_with fail
        have p0 : W.cell? ⟨w.heap.size, 0, none⟩ = some (.int .i64 k0) := by rw [cell_of_row W _ 0 _ _ _ HBY.out.1]; rfl
        have p1 : W.cell? ⟨w.heap.size, 1, none⟩ = some (.int .u64 a0) := by rw [cell_of_row W _ 1 _ _ _ HBY.out.1]; rfl
        have p2 : W.cell? ⟨w.heap.size, 2, none⟩ = some (.int .u64 b0) := by rw [cell_of_row W _ 2 _ _ _ HBY.out.1]; rfl
        have p3 : W.cell? ⟨w.heap.size, 3, none⟩ = some (.slice ad0 n0 cap0) := by rw [cell_of_row W _ 3 _ _ _ HBY.out.1]; rfl
        have qq0 : W.cell? ⟨w.heap.size + 1, 0, none⟩ = some (.int .i64 k1) := by rw [cell_of_row W _ 0 _ _ _ HBY.out.2.1]; rfl
        have qq1 : W.cell? ⟨w.heap.size + 1, 1, none⟩ = some (.int .u64 a1) := by rw [cell_of_row W _ 1 _ _ _ HBY.out.2.1]; rfl
        have qq2 : W.cell? ⟨w.heap.size + 1, 2, none⟩ = some (.int .u64 b1) := by rw [cell_of_row W _ 2 _ _ _ HBY.out.2.1]; rfl
        have qq3 : W.cell? ⟨w.heap.size + 1, 3, none⟩ = some (.slice ad1 n1 cap1) := by rw [cell_of_row W _ 3 _ _ _ HBY.out.2.1]; rfl
        have m0 : W.cell? ⟨rb, 0, none⟩ = some (.int .i64 kr) := by rw [cell_of_row W _ 0 _ _ _ HBY.out.2.2.1]; rfl
        have m1 : W.cell? ⟨rb, 1, none⟩ = some (.int .u64 ar) := by rw [cell_of_row W _ 1 _ _ _ HBY.out.2.2.1]; rfl
        have m2 : W.cell? ⟨rb, 2, none⟩ = some (.int .u64 br) := by rw [cell_of_row W _ 2 _ _ _ HBY.out.2.2.1]; rfl
        have m3 : W.cell? ⟨rb, 3, none⟩ = some (.slice adr nr capr) := by rw [cell_of_row W _ 3 _ _ _ HBY.out.2.2.1]; rfl
        have nn0 : W.cell? ⟨sb, 0, none⟩ = some (.int .i64 ks0) := by rw [cell_of_row W _ 0 _ _ _ HBY.out.2.2.2]; rfl
        have nn1 : W.cell? ⟨sb, 1, none⟩ = some (.int .u64 as0) := by rw [cell_of_row W _ 1 _ _ _ HBY.out.2.2.2]; rfl
        have nn2 : W.cell? ⟨sb, 2, none⟩ = some (.int .u64 bs) := by rw [cell_of_row W _ 2 _ _ _ HBY.out.2.2.2]; rfl
        have nn3 : W.cell? ⟨sb, 3, none⟩ = some (.slice ads ns caps) := by rw [cell_of_row W _ 3 _ _ _ HBY.out.2.2.2]; rfl
        have K1 : w.heap.size < W.heap.size := by omega
        have K2 : w.heap.size + 1 < W.heap.size := by omega
        have K3 : rb < W.heap.size := by omega
        have K4 : sb < W.heap.size := by omega
        have hbW : Below W.heap.size W W := Below.refl _ _
        go_region_held3 (fun w' => w'.cell? ⟨w.heap.size, 0, none⟩ = some (.int .i64 k0) ∧ w'.cell? ⟨w.heap.size, 1, none⟩ = some (.int .u64 a0) ∧ w'.cell? ⟨w.heap.size, 2, none⟩ = some (.int .u64 b0) ∧ w'.cell? ⟨w.heap.size, 3, none⟩ = some (.slice ad0 n0 cap0) ∧ w'.cell? ⟨w.heap.size + 1, 0, none⟩ = some (.int .i64 k1) ∧ w'.cell? ⟨w.heap.size + 1, 1, none⟩ = some (.int .u64 a1) ∧ w'.cell? ⟨w.heap.size + 1, 2, none⟩ = some (.int .u64 b1) ∧ w'.cell? ⟨w.heap.size + 1, 3, none⟩ = some (.slice ad1 n1 cap1) ∧ w'.cell? ⟨rb, 0, none⟩ = some (.int .i64 kr) ∧ w'.cell? ⟨rb, 1, none⟩ = some (.int .u64 ar) ∧ w'.cell? ⟨rb, 2, none⟩ = some (.int .u64 br) ∧ w'.cell? ⟨rb, 3, none⟩ = some (.slice adr nr capr) ∧ w'.cell? ⟨sb, 0, none⟩ = some (.int .i64 ks0) ∧ w'.cell? ⟨sb, 1, none⟩ = some (.int .u64 as0) ∧ w'.cell? ⟨sb, 2, none⟩ = some (.int .u64 bs) ∧ w'.cell? ⟨sb, 3, none⟩ = some (.slice ads ns caps))
          (first
            | exact ⟨(hbW.cell K1).trans p0, (hbW.cell K1).trans p1, (hbW.cell K1).trans p2, (hbW.cell K1).trans p3, (hbW.cell K2).trans qq0, (hbW.cell K2).trans qq1, (hbW.cell K2).trans qq2, (hbW.cell K2).trans qq3, (hbW.cell K3).trans m0, (hbW.cell K3).trans m1, (hbW.cell K3).trans m2, (hbW.cell K3).trans m3, (hbW.cell K4).trans nn0, (hbW.cell K4).trans nn1, (hbW.cell K4).trans nn2, (hbW.cell K4).trans nn3⟩
            | go_keep)
          (first
            | (go_at_call 8; go_fit (works_any _ ((HLr2.out.below hbW).mono hbW.size)); rintro e w' ⟨rfl, hbx⟩; replace hbW := hbW.trans (hbx.mono hbW.size); clear hbx)
            | (go_at_call 19; have _m := hv2; go_fit (refSame_any q.depth _ _ _ _ q q _ _ _ (Nat.le_refl _) (by omega) hv2 (HR2.out.2.2.2.1.below hbW (Nat.le_refl _))); rintro e w' ⟨rfl, hbx⟩; rw [Ex.same_refl]; replace hbW := hbW.trans (hbx.mono hbW.size); clear hbx)
            | (go_at_call 13; have _m := hd2; go_fit (docExpr_any q.depth _ _ q _ _ (Nat.le_refl _) (by omega) (by omega) (HR2.out.2.1.below hbW (Nat.le_refl _))); rintro e w' ⟨⟨v2, rfl, hv2⟩, hbx⟩; replace hbW := hbW.trans (hbx.mono hbW.size); clear hbx)
            | (go_at_call 19; have _m := hv1; go_fit (refSame_any p.depth _ _ _ _ p p _ _ _ (Nat.le_refl _) (by omega) hv1 (HR2.out.2.2.1.below hbW (Nat.le_refl _))); rintro e w' ⟨rfl, hbx⟩; rw [Ex.same_refl]; have hd2 := True.intro; replace hbW := hbW.trans (hbx.mono hbW.size); clear hbx)
            | (go_at_call 13; go_fit (docExpr_any p.depth _ _ p _ _ (Nat.le_refl _) (by omega) (by omega) (HR2.out.1.below hbW (Nat.le_refl _))); rintro e w' ⟨⟨v1, rfl, hv1⟩, hbx⟩; replace hbW := hbW.trans (hbx.mono hbW.size); clear hbx)
            | (go_at_call 33; have _m := hd1; go_fit (predSame_any p.depth _ _ _ _ p p _ _ _ (Nat.le_refl _) (HR2.out.1.below hbW (Nat.le_refl _)) (HR2.out.1.below hbW (Nat.le_refl _))); rintro e w' ⟨rfl, hbx⟩; rw [Ex.same_refl]; replace hbW := hbW.trans (hbx.mono hbW.size); clear hbx)
            | (go_at_call 19; go_fit (refSame_any p.depth _ _ _ _ p q _ _ _ (Nat.le_refl _) (by omega) (HR2.out.2.2.1.below hbW (Nat.le_refl _)) (HR2.out.2.2.2.1.below hbW (Nat.le_refl _))); rintro e w' ⟨rfl, hbx⟩; rw [← hsm]; have hd1 := True.intro; replace hbW := hbW.trans (hbx.mono hbW.size); clear hbx)
            | (go_at_call 33; go_fit (predSame_any p.depth _ _ _ _ p q _ _ _ (Nat.le_refl _) (HR2.out.1.below hbW.drew (Nat.le_refl _)) (HR2.out.2.1.below hbW.drew (Nat.le_refl _))); rintro e w' ⟨rfl, hbx⟩; rw [← hsm]; replace hbW := hbW.drew.trans (hbx.mono hbW.size); clear hbx))
        go_wp2_with fail
        go_ret
        exact ⟨rfl, HB2r.out.trans ((HR2.out.2.2.2.2.trans (hbW.mono zW)).mono (by omega))⟩
end Go.Proofs.YtohjkejdkhdjbaaGreatDoor
