/- Walks: what a right tree asks (the program's). -/
import Derived.Test.YtohjkejdkhdjbaaGreatDoorQW04f
import Derived.Deep.RegionHeld3
namespace Go.Proofs.YtohjkejdkhdjbaaGreatDoor
open Go.RowKit Go
set_option linter.unusedVariables false
set_option linter.unusedSimpArgs false
theorem enters_asks : Enters 102 := fun _ _ => by kernel_rfl
/-- In every later world the parts are asked as they should be. -/
def PartsAsk (w : World) (S : Nat → Prop) (own : Bool) (ps : List Ex) (x y : Nat) : Prop :=
  ∀ i (h : i < ps.length) (v : Value) (w' : World), Below w.heap.size w w' → RepE w' S own ps[i] v → Calls Tryz.prog 49 #[v, .int .u64 x, .int .u64 y] w' fun e w'' => e = .returned (.bool (ps[i].asks x y)) ∧ Below w'.heap.size w' w''
set_option maxHeartbeats 1000000 in
theorem predInner_any (bx bv bi : Nat) (c0 c1 c2 c3 : Value) (x y : Nat) (is : Bool) (r : Bool) (w : World)
    (h1 : w.cell? ⟨bx, 0, none⟩ = some (.int .u64 x)) (h2 : w.cell? ⟨bv, 0, none⟩ = some (.int .u64 y)) (h3 : w.cell? ⟨bi, 0, none⟩ = some (.bool is))
    (hcall : ∀ w', Below w.heap.size w w' → Calls Tryz.prog 49 #[.agg #[c0, c1, c2, c3], .int .u64 x, .int .u64 y] w' fun e w'' => e = .returned (.bool r) ∧ Below w'.heap.size w' w'') :
    Calls Tryz.prog 102 #[.agg #[c0, c1, c2, c3], .pointer (some ⟨bx, 0, none⟩), .pointer (some ⟨bv, 0, none⟩), .pointer (some ⟨bi, 0, none⟩)] w fun e w' => e = .returned (.bool (r != is)) ∧ Below w.heap.size w w' := by
  have l1 : bx < w.heap.size := World.block_lt_of_cell? w _ h1
  have l2 : bv < w.heap.size := World.block_lt_of_cell? w _ h2
  have l3 : bi < w.heap.size := World.block_lt_of_cell? w _ h3
  have k1 : bx < w.heap.size + 1 := by omega
  have k2 : bv < w.heap.size + 1 := by omega
  have k3 : bi < w.heap.size + 1 := by omega
  have HC := Lib.hid hcall
  clear hcall
  go_enter Tryz.func102, Tryz.ntmps102
  go_wp2_with fail
  go_region_held3 (fun w' => w'.cell? ⟨bx, 0, none⟩ = some (.int .u64 x) ∧ w'.cell? ⟨bv, 0, none⟩ = some (.int .u64 y) ∧ w'.cell? ⟨bi, 0, none⟩ = some (.bool is) ∧
      w'.cell? ⟨w.heap.size, 0, none⟩ = some c0 ∧ w'.cell? ⟨w.heap.size, 1, none⟩ = some c1 ∧ w'.cell? ⟨w.heap.size, 2, none⟩ = some c2 ∧ w'.cell? ⟨w.heap.size, 3, none⟩ = some c3)
    (first | go_keep)
    ((go_at_call 49; refine (HC.out _ (((Below.refl _ _).alloc (Nat.le_refl _) _).drew)).mono ?_; rintro e w' ⟨rfl, hb1⟩; obtain ⟨hc1, _⟩ := bcell hb1))
  go_wp2_with fail
  go_ret
  exact ⟨ret_bool (by cases r <;> cases is <;> rfl), (((Below.refl _ _).alloc (Nat.le_refl _) _).drew).trans (hb1.mono (by simp))⟩
theorem any_congr' {α : Type} (p q : α → Bool) (l : List α) (h : ∀ e ∈ l, p e = q e) : l.any p = l.any q := by
  induction l with
  | nil => rfl
  | cons e es ih => simp only [List.any_cons]; rw [h e (by simp), ih (fun e' he => h e' (by simp [he]))]
set_option maxHeartbeats 1000000 in
theorem predEvery_any (S : Nat → Prop) (own : Bool) (k : Int) (a b : Nat) (ps : List Ex) (xs : List Value) (ad : Option Addr) (cap : Nat) (x y : Nat) (is : Bool) (w : World)
    (hs : Sl w S own 4 ps.length xs (.slice ad ps.length cap)) (hes : RepEs w S own ps xs) (hask : PartsAsk w S own ps x y) :
    Calls Tryz.prog 101 #[.agg #[.int .i64 k, .int .u64 a, .int .u64 b, .slice ad ps.length cap], .int .u64 x, .int .u64 y, .bool is] w fun e w' => e = .returned (.bool !(ps.any fun q => q.asks x y != is)) ∧ Below w.heap.size w w' := by
  have HA := Lib.hid hask
  clear hask
  have hb4 : ∀ o1 o2 o3 o4, Below w.heap.size w ((((w.alloc o1).alloc o2).alloc o3).alloc o4) := fun o1 o2 o3 o4 => ((((Below.refl _ _).alloc (Nat.le_refl _) _).alloc (by simp) _).alloc (by simp; omega) _).alloc (by simp; omega) _
  have HB := Lib.hid hb4
  clear hb4
  go_enter Tryz.func101, Tryz.ntmps101
  go_wp2_with fail
  refine (conFunc_any S own ps xs ad cap _ #[.pointer (some ⟨w.heap.size + 1, 0, none⟩), .pointer (some ⟨w.heap.size + 1 + 1, 0, none⟩), .pointer (some ⟨w.heap.size + 1 + 1 + 1, 0, none⟩)] (fun q => q.asks x y != is) _ (hs.below (by omega) (HB.out _ _ _ _) (Nat.le_refl _)) (hes.below (HB.out _ _ _ _) (Nat.le_refl _)) enters_asks ?_).mono ?_
  · intro i hi v w' hb1 hrep
    obtain ⟨d0, d1, d2, d3, rfl⟩ := hrep.four
    refine (predInner_any _ _ _ d0 d1 d2 d3 x y is (ps[i].asks x y) w' ?_ ?_ ?_ ?_).mono fun e w'' h => h
    · rw [hb1.cell (by first | (simp; done) | (simp; omega))]; simp [World.cell?_alloc_past, World.cell?_alloc_at]
    · rw [hb1.cell (by first | (simp; done) | (simp; omega))]; simp [World.cell?_alloc_past, World.cell?_alloc_at]
    · rw [hb1.cell (by simp)]; simp [World.cell?_alloc_at]
    · intro w'' hb2
      exact HA.out i hi _ w'' (((HB.out _ _ _ _).trans (hb1.mono (by simp; omega))).trans (hb2.mono (by have := hb1.size; simp at this; omega))) (hrep.below hb2 (Nat.le_refl _))
  · rintro e w' ⟨rfl, hb1⟩
    generalize hr : (ps.any fun q => q.asks x y != is) = r
    have HR := Lib.hid hr
    clear hr
    go_wp2_with fail
    go_ret
    exact ⟨ret_bool (by rw [HR.out]), (HB.out _ _ _ _).trans (hb1.mono (by simp; omega))⟩
theorem not_any_ne_true (x y : Nat) (ps : List Ex) : (!(ps.any fun q => q.asks x y != true)) = ps.all (Ex.asks x y) := by
  rw [List.all_eq_not_any_not]; congr 1; exact any_congr' _ _ _ fun e _ => by cases e.asks x y <;> rfl
theorem not_any_ne_false (x y : Nat) (ps : List Ex) : (!(ps.any fun q => q.asks x y != false)) = !(ps.any (Ex.asks x y)) := by
  congr 1; exact any_congr' _ _ _ fun e _ => by cases e.asks x y <;> rfl
set_option maxHeartbeats 400000 in
theorem predKind5  (S : Nat → Prop) (own : Bool) (k : Int) (a b : Nat) (ps : List Ex) (xs : List Value) (ad : Option Addr) (cap : Nat) (x y : Nat) (blk : Nat) (w : World)
    (hs : Sl w S own 4 ps.length xs (.slice ad ps.length cap)) (hes : RepEs w S own ps xs) (hask : PartsAsk w S own ps x y) (hblk : w.cell? ⟨blk, 0, none⟩ = some (.func (.func 101) #[] #[])) :
    Calls Tryz.prog 107 #[.agg #[.int .i64 k, .int .u64 a, .int .u64 b, .slice ad ps.length cap], .int .u64 x, .int .u64 y, .pointer (some ⟨blk, 0, none⟩)] w fun e w' => e = .returned (.bool (askN 5 a b (Ex.asked x y ps) ps.length x y)) ∧ Below w.heap.size w w' := by
  have lb : blk < w.heap.size := World.block_lt_of_cell? w _ hblk
  have hb1 : Below w.heap.size w (w.alloc (.cells #[.int .i64 k, .int .u64 a, .int .u64 b, .slice ad ps.length cap] 26)) := (Below.refl _ _).alloc (Nat.le_refl _) _
  have HA := Lib.hid (And.intro hb1 hask)
  clear hask hb1
  go_enter Tryz.func107, Tryz.ntmps107
  go_wp2_with fail
  refine (predEvery_any S own k a b ps xs ad cap x y _ _ (hs.below (by omega) HA.out.1 (Nat.le_refl _)) (hes.below HA.out.1 (Nat.le_refl _)) (fun i hi v w' hb hr => HA.out.2 i hi v w' (HA.out.1.trans (hb.mono (by simp))) hr)).mono ?_
  rintro e w' ⟨rfl, hb2⟩
  generalize hr : (ps.any fun q => q.asks x y != false) = r
  have HR := Lib.hid hr
  clear hr
  go_wp2_with fail
  go_ret
  exact ⟨ret_bool (by rw [← HR.out, not_any_ne_false]; simp [askN, Ex.asked_none]), HA.out.1.trans (hb2.mono (by simp))⟩
set_option maxHeartbeats 400000 in
theorem predKind6  (S : Nat → Prop) (own : Bool) (k : Int) (a b : Nat) (ps : List Ex) (xs : List Value) (ad : Option Addr) (cap : Nat) (x y : Nat) (blk : Nat) (w : World)
    (hs : Sl w S own 4 ps.length xs (.slice ad ps.length cap)) (hes : RepEs w S own ps xs) (hask : PartsAsk w S own ps x y) (hblk : w.cell? ⟨blk, 0, none⟩ = some (.func (.func 101) #[] #[])) :
    Calls Tryz.prog 108 #[.agg #[.int .i64 k, .int .u64 a, .int .u64 b, .slice ad ps.length cap], .int .u64 x, .int .u64 y, .pointer (some ⟨blk, 0, none⟩)] w fun e w' => e = .returned (.bool (askN 6 a b (Ex.asked x y ps) ps.length x y)) ∧ Below w.heap.size w w' := by
  have lb : blk < w.heap.size := World.block_lt_of_cell? w _ hblk
  have hb1 : Below w.heap.size w (w.alloc (.cells #[.int .i64 k, .int .u64 a, .int .u64 b, .slice ad ps.length cap] 26)) := (Below.refl _ _).alloc (Nat.le_refl _) _
  have HA := Lib.hid (And.intro hb1 hask)
  clear hask hb1
  go_enter Tryz.func108, Tryz.ntmps108
  go_wp2_with fail
  refine (predEvery_any S own k a b ps xs ad cap x y _ _ (hs.below (by omega) HA.out.1 (Nat.le_refl _)) (hes.below HA.out.1 (Nat.le_refl _)) (fun i hi v w' hb hr => HA.out.2 i hi v w' (HA.out.1.trans (hb.mono (by simp))) hr)).mono ?_
  rintro e w' ⟨rfl, hb2⟩
  generalize hr : (ps.any fun q => q.asks x y != true) = r
  have HR := Lib.hid hr
  clear hr
  go_wp2_with fail
  go_ret
  exact ⟨ret_bool (by rw [← HR.out, not_any_ne_true, ← Ex.asked_all]; simp [askN]), HA.out.1.trans (hb2.mono (by simp))⟩
set_option maxHeartbeats 400000 in
theorem predKind7  (S : Nat → Prop) (own : Bool) (k : Int) (a b : Nat) (ps : List Ex) (xs : List Value) (ad : Option Addr) (cap : Nat) (x y : Nat) (blk : Nat) (w : World)
    (hs : Sl w S own 4 ps.length xs (.slice ad ps.length cap)) (hes : RepEs w S own ps xs) (hask : PartsAsk w S own ps x y) (hblk : w.cell? ⟨blk, 0, none⟩ = some (.func (.func 101) #[] #[])) :
    Calls Tryz.prog 109 #[.agg #[.int .i64 k, .int .u64 a, .int .u64 b, .slice ad ps.length cap], .int .u64 x, .int .u64 y, .pointer (some ⟨blk, 0, none⟩)] w fun e w' => e = .returned (.bool (askN 7 a b (Ex.asked x y ps) ps.length x y)) ∧ Below w.heap.size w w' := by
  have lb : blk < w.heap.size := World.block_lt_of_cell? w _ hblk
  have hb1 : Below w.heap.size w (w.alloc (.cells #[.int .i64 k, .int .u64 a, .int .u64 b, .slice ad ps.length cap] 26)) := (Below.refl _ _).alloc (Nat.le_refl _) _
  have HA := Lib.hid (And.intro hb1 hask)
  clear hask hb1
  go_enter Tryz.func109, Tryz.ntmps109
  go_wp2_with fail
  refine (predEvery_any S own k a b ps xs ad cap x y _ _ (hs.below (by omega) HA.out.1 (Nat.le_refl _)) (hes.below HA.out.1 (Nat.le_refl _)) (fun i hi v w' hb hr => HA.out.2 i hi v w' (HA.out.1.trans (hb.mono (by simp))) hr)).mono ?_
  rintro e w' ⟨rfl, hb2⟩
  generalize hr : (ps.any fun q => q.asks x y != false) = r
  have HR := Lib.hid hr
  clear hr
  go_wp2_with fail
  go_ret
  have h0 : (!(Ex.asked x y ps == 0)) = decide (0 < Ex.asked x y ps) := by rw [Bool.eq_iff_iff]; simp; omega
  exact ⟨ret_bool (by have := Ex.asked_none x y ps; rw [← not_any_ne_false, HR.out] at this; simp [askN, ← h0, this]), HA.out.1.trans (hb2.mono (by simp))⟩
theorem predKind1 (k : Int) (a b n : Nat) (ad : Option Addr) (cap : Nat) (x y : Nat) (w : World) :
    Calls Tryz.prog 103 #[.agg #[.int .i64 k, .int .u64 a, .int .u64 b, .slice ad n cap], .int .u64 x, .int .u64 y] w fun e w' => e = .returned (.bool (askN 1 a b 0 n x y)) ∧ Below w.heap.size w w' := by
  go_enter Tryz.func103, Tryz.ntmps103
  go_wp2_with fail
  go_ret
  exact ⟨ret_bool (by simp [askN]), by first | exact Below.refl _ _ | exact (Below.refl _ _).alloc (Nat.le_refl _) _⟩
theorem predKind2 (k : Int) (a b n : Nat) (ad : Option Addr) (cap : Nat) (x y : Nat) (w : World) (ha : a < 18446744073709551616) (hx : x < 18446744073709551616) :
    Calls Tryz.prog 104 #[.agg #[.int .i64 k, .int .u64 a, .int .u64 b, .slice ad n cap], .int .u64 x, .int .u64 y] w fun e w' => e = .returned (.bool (askN 2 a b 0 n x y)) ∧ Below w.heap.size w w' := by
  go_enter Tryz.func104, Tryz.ntmps104
  go_wp2_with fail
  go_ret
  exact ⟨ret_bool (by simp [askN]), by first | exact Below.refl _ _ | exact (Below.refl _ _).alloc (Nat.le_refl _) _⟩
theorem predKind3 (k : Int) (a b n : Nat) (ad : Option Addr) (cap : Nat) (x y : Nat) (w : World) (ha : a < 18446744073709551616) (hy : y < 18446744073709551616) :
    Calls Tryz.prog 105 #[.agg #[.int .i64 k, .int .u64 a, .int .u64 b, .slice ad n cap], .int .u64 x, .int .u64 y] w fun e w' => e = .returned (.bool (askN 3 a b 0 n x y)) ∧ Below w.heap.size w w' := by
  go_enter Tryz.func105, Tryz.ntmps105
  go_wp2_with fail
  go_ret
  exact ⟨ret_bool (by simp [askN]), by first | exact Below.refl _ _ | exact (Below.refl _ _).alloc (Nat.le_refl _) _⟩
theorem predKind4 (k : Int) (a b n : Nat) (ad : Option Addr) (cap : Nat) (x y : Nat) (w : World) (ha : a < 18446744073709551616) (hb : b < 18446744073709551616) (hab : b < a) (hy : y < 18446744073709551616) :
    Calls Tryz.prog 106 #[.agg #[.int .i64 k, .int .u64 a, .int .u64 b, .slice ad n cap], .int .u64 x, .int .u64 y] w fun e w' => e = .returned (.bool (askN 4 a b 0 n x y)) ∧ Below w.heap.size w w' := by
  have ha0 : ((a : Int) == 0) = false := by simp; omega
  have ha1 : (0 : Int) < (a : Int) := by omega
  go_enter Tryz.func106, Tryz.ntmps106
  go_wp2_with fail
  go_quiet (fail)
  go_wp2_with fail
  go_ret
  exact ⟨ret_bool (by rw [show ((y : Int) % (a : Int)) = ((y % a : Nat) : Int) from by simp, castb]; simp [askN]), below_drewN ((Below.refl _ _).alloc (Nat.le_refl _) _) _⟩
theorem askN_nokid (k : Int) (a b cnt n x y : Nat) (h : k = 1 ∨ k = 2 ∨ k = 3 ∨ k = 4) : askN k a b cnt n x y = askN k a b 0 n x y := by
  rcases h with rfl | rfl | rfl | rfl <;> simp [askN]
set_option maxHeartbeats 2000000 in
set_option maxRecDepth 20000 in
theorem predAsks_any (d : Nat) : ∀ (S : Nat → Prop) (own : Bool) (e : Ex) (v : Value) (x y : Nat) (w : World), e.depth ≤ d → d ≤ 1000 → x < 18446744073709551616 → y < 18446744073709551616 → e.okR = true → RepE w S own e v →
    Calls Tryz.prog 49 #[v, .int .u64 x, .int .u64 y] w fun r w' => r = .returned (.bool (e.asks x y)) ∧ Below w.heap.size w w' := by
  induction d with
  | zero => intro S own e v x y w hd; cases e; simp [Ex.depth] at hd
  | succ d ih =>
    intro S own e v x y w hd hd2 hx hy hok hrep
    obtain ⟨k, a, b, ps⟩ := e
    simp only [RepE] at hrep
    obtain ⟨s, xs, rfl, hk1, hk2, ha, hb, hs, hes⟩ := hrep
    obtain ⟨hxl, hlen, ad, cap, rfl, hcap⟩ := hs.shape
    simp only [Ex.depth, Ex.okR, Bool.and_eq_true] at hd hok
    simp only [Ex.asks]
    obtain ⟨hok1, hok2⟩ := hok
    have hK := nodeOk_kinds hok2
    have hask : ∀ w1, Below w.heap.size w w1 → PartsAsk w1 S own ps x y := by
      intro w1 hb1 i hi v w' hb2 hrep
      have hdi := Ex.depths_ge ps i hi
      exact ih S own ps[i] v x y w' (by omega) (by omega) hx hy (Ex.okRs_get ps i hi hok1) hrep
    have HA := Lib.hid hask
    clear hask ih hok1 hok2 hxl
    have hb0 : Below w.heap.size w (w.alloc (.cells #[.int .i64 k, .int .u64 a, .int .u64 b, .slice ad ps.length cap] 26)) := (Below.refl _ _).alloc (Nat.le_refl _) _
    have hk7 : 1 ≤ k ∧ k ≤ 7 := by omega
    obtain ⟨kn, rfl⟩ := Int.eq_ofNat_of_zero_le (show 0 ≤ k by omega)
    have hK' : kn = 1 ∨ kn = 2 ∨ kn = 3 ∨ (kn = 4 ∧ b < a) ∨ kn = 5 ∨ kn = 6 ∨ kn = 7 := by omega
    clear hK
    go_enter Tryz.func49, Tryz.ntmps49
    go_wp2_with fail
    refine (predOf_any kn _ hk1 hk2).mono ?_
    rintro e1 w1 ⟨hin, hout, hb1⟩
    have hb2 : Below w.heap.size w w1 := hb0.trans (hb1.mono (by simp))
    obtain ⟨hc, hf⟩ := bcell hb1
    have hz1 : w.heap.size + 1 ≤ w1.heap.size := by have := hb1.size; simpa using this
    have hz0 : w.heap.size < w1.heap.size := by omega
    obtain ⟨blk, hblk, hheap, rfl⟩ := hin hk7
    clear hin hout hblk
    have hbx : ∀ o, Below w.heap.size w (w1.alloc o) := fun o => hb2.alloc (by omega) _
    have hcl : ∀ o, (w1.alloc o).cell? ⟨blk, 0, none⟩ = some (.func (.func 101) #[] #[]) := by
      intro o
      rw [World.cell?_alloc_past _ _ _ (Array.getElem?_eq_some_iff.1 hheap).1]
      simp [World.cell?, hheap]
    have HX := Lib.hid (And.intro hbx (And.intro hcl (And.intro hs hes)))
    clear hbx hcl hheap hs hes
    rcases hK' with rfl | rfl | rfl | ⟨rfl, hab⟩ | rfl | rfl | rfl
    · have e1 : kindFn (1 : Nat) blk = .func (.func 103) #[] #[] := rfl
      rw [e1]; clear e1
      generalize kindNums (1 : Nat) = c1; generalize kindLeast (1 : Nat) = c2; generalize kindMost (1 : Nat) = c3
      go_wp2_with fail
      refine (predKind1 _ a b ps.length ad cap x y _).mono ?_
      rintro e w' ⟨rfl, hb3⟩
      generalize hr : askN 1 a b 0 ps.length x y = r
      have HR := Lib.hid hr
      clear hr
      go_wp2_with fail
      go_ret
      exact ⟨ret_bool (by rw [← HR.out]; exact (askN_nokid _ _ _ _ _ _ _ (by omega)).symm), (HX.out.1 _).trans (hb3.mono (by simp; omega))⟩
    · have e1 : kindFn (2 : Nat) blk = .func (.func 104) #[] #[] := rfl
      rw [e1]; clear e1
      generalize kindNums (2 : Nat) = c1; generalize kindLeast (2 : Nat) = c2; generalize kindMost (2 : Nat) = c3
      go_wp2_with fail
      refine (predKind2 _ a b ps.length ad cap x y _ ha hx).mono ?_
      rintro e w' ⟨rfl, hb3⟩
      generalize hr : askN 2 a b 0 ps.length x y = r
      have HR := Lib.hid hr
      clear hr
      go_wp2_with fail
      go_ret
      exact ⟨ret_bool (by rw [← HR.out]; exact (askN_nokid _ _ _ _ _ _ _ (by omega)).symm), (HX.out.1 _).trans (hb3.mono (by simp; omega))⟩
    · have e1 : kindFn (3 : Nat) blk = .func (.func 105) #[] #[] := rfl
      rw [e1]; clear e1
      generalize kindNums (3 : Nat) = c1; generalize kindLeast (3 : Nat) = c2; generalize kindMost (3 : Nat) = c3
      go_wp2_with fail
      refine (predKind3 _ a b ps.length ad cap x y _ ha hy).mono ?_
      rintro e w' ⟨rfl, hb3⟩
      generalize hr : askN 3 a b 0 ps.length x y = r
      have HR := Lib.hid hr
      clear hr
      go_wp2_with fail
      go_ret
      exact ⟨ret_bool (by rw [← HR.out]; exact (askN_nokid _ _ _ _ _ _ _ (by omega)).symm), (HX.out.1 _).trans (hb3.mono (by simp; omega))⟩
    · have e1 : kindFn (4 : Nat) blk = .func (.func 106) #[] #[] := rfl
      rw [e1]; clear e1
      generalize kindNums (4 : Nat) = c1; generalize kindLeast (4 : Nat) = c2; generalize kindMost (4 : Nat) = c3
      go_wp2_with fail
      refine (predKind4 _ a b ps.length ad cap x y _ ha hb hab hy).mono ?_
      rintro e w' ⟨rfl, hb3⟩
      generalize hr : askN 4 a b 0 ps.length x y = r
      have HR := Lib.hid hr
      clear hr
      go_wp2_with fail
      go_ret
      exact ⟨ret_bool (by rw [← HR.out]; exact (askN_nokid _ _ _ _ _ _ _ (by omega)).symm), (HX.out.1 _).trans (hb3.mono (by simp; omega))⟩
    · have e1 : kindFn (5 : Nat) blk = .func (.func 107) #[] #[.pointer (some ⟨blk, 0, none⟩)] := rfl
      rw [e1]; clear e1
      generalize kindNums (5 : Nat) = c1; generalize kindLeast (5 : Nat) = c2; generalize kindMost (5 : Nat) = c3
      go_wp2_with fail
      refine (predKind5 S own _ a b ps xs ad cap x y blk _ (HX.out.2.2.1.below (by omega) (HX.out.1 _) (Nat.le_refl _)) (HX.out.2.2.2.below (HX.out.1 _) (Nat.le_refl _)) (HA.out _ (HX.out.1 _)) (HX.out.2.1 _)).mono ?_
      rintro e w' ⟨rfl, hb3⟩
      generalize hr : askN 5 a b (Ex.asked x y ps) ps.length x y = r
      have HR := Lib.hid hr
      clear hr
      go_wp2_with fail
      go_ret
      exact ⟨ret_bool HR.out.symm, (HX.out.1 _).trans (hb3.mono (by simp; omega))⟩
    · have e1 : kindFn (6 : Nat) blk = .func (.func 108) #[] #[.pointer (some ⟨blk, 0, none⟩)] := rfl
      rw [e1]; clear e1
      generalize kindNums (6 : Nat) = c1; generalize kindLeast (6 : Nat) = c2; generalize kindMost (6 : Nat) = c3
      go_wp2_with fail
      refine (predKind6 S own _ a b ps xs ad cap x y blk _ (HX.out.2.2.1.below (by omega) (HX.out.1 _) (Nat.le_refl _)) (HX.out.2.2.2.below (HX.out.1 _) (Nat.le_refl _)) (HA.out _ (HX.out.1 _)) (HX.out.2.1 _)).mono ?_
      rintro e w' ⟨rfl, hb3⟩
      generalize hr : askN 6 a b (Ex.asked x y ps) ps.length x y = r
      have HR := Lib.hid hr
      clear hr
      go_wp2_with fail
      go_ret
      exact ⟨ret_bool HR.out.symm, (HX.out.1 _).trans (hb3.mono (by simp; omega))⟩
    · have e1 : kindFn (7 : Nat) blk = .func (.func 109) #[] #[.pointer (some ⟨blk, 0, none⟩)] := rfl
      rw [e1]; clear e1
      generalize kindNums (7 : Nat) = c1; generalize kindLeast (7 : Nat) = c2; generalize kindMost (7 : Nat) = c3
      go_wp2_with fail
      refine (predKind7 S own _ a b ps xs ad cap x y blk _ (HX.out.2.2.1.below (by omega) (HX.out.1 _) (Nat.le_refl _)) (HX.out.2.2.2.below (HX.out.1 _) (Nat.le_refl _)) (HA.out _ (HX.out.1 _)) (HX.out.2.1 _)).mono ?_
      rintro e w' ⟨rfl, hb3⟩
      generalize hr : askN 7 a b (Ex.asked x y ps) ps.length x y = r
      have HR := Lib.hid hr
      clear hr
      go_wp2_with fail
      go_ret
      exact ⟨ret_bool HR.out.symm, (HX.out.1 _).trans (hb3.mono (by simp; omega))⟩
set_option maxHeartbeats 400000 in
theorem predHolds_any (S : Nat → Prop) (own : Bool) (e : Ex) (v : Value) (x y : Nat) (w : World) (hsz : e.size ≤ 900) (hx : x < 18446744073709551616) (hy : y < 18446744073709551616) (hrep : RepE w S own e v) :
    Calls Tryz.prog 29 #[v, .int .u64 x, .int .u64 y] w fun r w' => r = .returned (.bool (e.holds x y)) ∧ Below w.heap.size w w' := by
  have hds := e.depth_le_size
  obtain ⟨c0, c1, c2, c3, rfl⟩ := hrep.four
  have hb0 : Below w.heap.size w (w.alloc (.cells #[c0, c1, c2, c3] 26)) := (Below.refl _ _).alloc (Nat.le_refl _) _
  go_enter Tryz.func29, Tryz.ntmps29
  go_wp2_with fail
  refine (predRight_any _ _ e _ _ hsz (hrep.below hb0 (Nat.le_refl _))).mono ?_
  rintro e1 w1 ⟨rfl, hb1⟩
  have hb2 : Below w.heap.size w w1 := hb0.trans (hb1.mono (by simp))
  have hbox : ∀ o, w1.cell? ⟨w.heap.size, o, none⟩ = (w.alloc (.cells #[c0, c1, c2, c3] 26)).cell? ⟨w.heap.size, o, none⟩ := fun o => hb1.cell (by simp)
  have hsz1 : w.heap.size + 1 ≤ w1.heap.size := by have := hb1.size; simpa using this
  cases h1 : e.right with
  | true =>
    have H1 := Lib.hid h1
    clear h1
    go_wp2_with fail
    refine (predAsks_any e.depth _ _ e _ x y _ (Nat.le_refl _) (by omega) hx hy (by have := H1.out; simp [Ex.right] at this; exact this.1.1) (hrep.below hb2 (Nat.le_refl _))).mono ?_
    rintro e2 w2 ⟨rfl, hb3⟩
    go_wp2_with fail
    go_ret
    exact ⟨ret_bool (by simp [Ex.holds, H1.out]), hb2.trans (hb3.mono (by omega))⟩
  | false =>
    have H1 := Lib.hid h1
    clear h1
    go_wp2_with fail
    go_ret
    exact ⟨ret_bool (by simp [Ex.holds, H1.out]), hb2⟩
end Go.Proofs.YtohjkejdkhdjbaaGreatDoor
