/- The law CertParses, walked. -/
import Derived.Test.YtkpfbalkhlidgaaGreatDoorUD16
import Derived.Test.YtkpfbalkhlidgaaGreatDoorUD14
import Derived.Test.YtkpfbalkhlidgaaGreatDoorUD12
import Derived.Test.YtkpfbalkhlidgaaGreatDoorU11
import Derived.Deep.DeepFit
import Derived.Deep.RegionHeld3
namespace Go.Proofs.YtkpfbalkhlidgaaGreatDoor
open Go.RowKit Go
set_option linter.unusedVariables false
set_option linter.unusedSimpArgs false
theorem crt0_ok : crt0.nums ∧ crt0.o.length ≤ 65536 ∧ crt0.w.length ≤ 65536 := by
  have z : i64 0 := by unfold i64; omega
  exact ⟨⟨z, z, z, fun n hn => absurd hn (by simp [crt0]), fun e he => absurd he (by simp [crt0])⟩, by simp [crt0], by simp [crt0]⟩
theorem crt_ok {o : Option Crt} (h : ∀ c, o = some c → c.right = true ∧ c.nums) : (o.getD crt0).nums ∧ (o.getD crt0).o.length ≤ 65536 ∧ (o.getD crt0).w.length ≤ 65536 := by
  cases o with
  | none => exact crt0_ok
  | some c =>
    obtain ⟨h1, h2⟩ := h c rfl
    obtain ⟨_, _, _, _, _, _, _, _, _, g1, g2⟩ := Crt.nil_of h1
    exact ⟨h2, g1, g2⟩
/-- A certificate in a box of its own; its blocks as they were made. -/
structure DB (T : TypeId) (g : Nat) (S : Nat → Prop) (c : Crt) (cs : Array Value) (w : World) : Prop where
  h : w.heap[g]? = some (.cells cs T (0, 0))
  r : RepC w S true c (.agg cs)
theorem DB.keep {T : TypeId} {g : Nat} {S K : Nat → Prop} {c : Crt} {cs : Array Value} {w w' : World} (h : DB T g S c cs w) (hk : Keeps K w w') (hg : K g) (hS : ∀ b, S b → K b) : DB T g S c cs w' :=
  ⟨(hk g hg (Array.getElem?_eq_some_iff.1 h.h).1).trans h.h, h.r.keep (fun b hb hl => hk b (hS b hb) hl) (fun _ _ h => h)⟩
theorem DB.below {B : Nat} {T : TypeId} {g : Nat} {S : Nat → Prop} {c : Crt} {cs : Array Value} {w w' : World} (h : DB T g S c cs w) (hb : Below B w w') (hB : w.heap.size ≤ B) : DB T g S c cs w' :=
  h.keep (K := fun _ => True) (Below.keeps hb hB _) trivial (fun _ _ => trivial)
theorem DB.lt {T : TypeId} {g : Nat} {S : Nat → Prop} {c : Crt} {cs : Array Value} {w : World} (h : DB T g S c cs w) : g < w.heap.size := (Array.getElem?_eq_some_iff.1 h.h).1
theorem DB.cells {T : TypeId} {g : Nat} {S : Nat → Prop} {c : Crt} {a0 a1 a2 a3 a4 : Value} {w : World} (h : DB T g S c #[a0, a1, a2, a3, a4] w) : w.cell? ⟨g, 0, none⟩ = some a0 ∧ w.cell? ⟨g, 1, none⟩ = some a1 ∧ w.cell? ⟨g, 2, none⟩ = some a2 ∧ w.cell? ⟨g, 3, none⟩ = some a3 ∧ w.cell? ⟨g, 4, none⟩ = some a4 := by
  refine ⟨?_, ?_, ?_, ?_, ?_⟩
  all_goals (rw [cell_of_row w _ _ _ _ _ h.h]; rfl)
/-- An answer put into a new box. -/
theorem DB.of_new {T : TypeId} {B : Nat} {c : Crt} {cs : Array Value} {w : World} (h : RepC w (fun b => B ≤ b) true c (.agg cs)) : DB T w.heap.size (fun b => B ≤ b ∧ b < w.heap.size) c cs (w.alloc (.cells cs T)) :=
  ⟨heap_alloc_new _ _, h.keep (fun b _ hl => heap_alloc_lt _ _ _ hl) (fun b hl hb => ⟨hb, hl⟩)⟩
set_option maxHeartbeats 20000000 in
set_option maxRecDepth 100000 in
theorem certParses_law (S : Nat → Prop) (own : Bool) (b : List UInt8) (vb : Value) (s : ByteArray) (w : World) (hr : RepB w S own b vb) (hL : Lq w.heap.size w) :
    Calls Tryz.prog 3 #[vb, .string s] w fun e w' => e = .returned (.bool true) ∧ Below w.heap.size w w' := by
  obtain ⟨_, ad, cap, rfl, _⟩ := hr.shape
  have HA := Lib.hid (And.intro hr hL)
  clear hr hL
  by_cases hb : 400 < b.length
  · have t1 : (400 : Int) < (b.length : Int) := by omega
    clear hb
    go_enter Tryz.func3, Tryz.ntmps3
    go_wp2_with fail
    refine (works28_any w HA.out.2).mono ?_
    rintro e w2 ⟨rfl, hb2⟩
    go_wp2_with fail
    go_ret
    exact ⟨rfl, hb2⟩
  by_cases hs : 400 < s.size
  · have t1 : ¬ (400 : Int) < (b.length : Int) := by omega
    have t2 : (400 : Int) < (s.size : Int) := by omega
    clear hb hs
    go_enter Tryz.func3, Tryz.ntmps3
    go_wp2_with fail
    refine (works28_any w HA.out.2).mono ?_
    rintro e w2 ⟨rfl, hb2⟩
    go_wp2_with fail
    go_ret
    exact ⟨rfl, hb2⟩
  have hb4 : b.length ≤ 400 := by omega
  have hs4 : s.size ≤ 400 := by omega
  have t1 : ¬ (400 : Int) < (b.length : Int) := by omega
  have t2 : ¬ (400 : Int) < (s.size : Int) := by omega
  obtain ⟨o1, ho1⟩ : ∃ o, o = crtParse b := ⟨_, rfl⟩
  obtain ⟨o2, ho2⟩ : ∃ o, o = crtRead s.data.toList := ⟨_, rfl⟩
  have hk1 : (o1.getD crt0).nums ∧ (o1.getD crt0).o.length ≤ 65536 ∧ (o1.getD crt0).w.length ≤ 65536 := crt_ok fun c h => by rw [ho1] at h; obtain ⟨h1, h2, _⟩ := crtParse_some.1 h; exact ⟨h1, h2⟩
  have hk2 : (o2.getD crt0).nums ∧ (o2.getD crt0).o.length ≤ 65536 ∧ (o2.getD crt0).w.length ≤ 65536 := crt_ok fun c h => by rw [ho2] at h; obtain ⟨h1, h2, _⟩ := crtRead_some.1 h; exact ⟨h1, h2⟩
  obtain ⟨q1, hc1⟩ : ∃ c, c = o1.getD crt0 := ⟨_, rfl⟩
  obtain ⟨q2, hc2⟩ : ∃ c, c = o2.getD crt0 := ⟨_, rfl⟩
  obtain ⟨e1, he1⟩ : ∃ e : Int, e = if o1.isSome then 0 else 280 := ⟨_, rfl⟩
  obtain ⟨e2, he2⟩ : ∃ e : Int, e = if o2.isSome then 0 else 280 := ⟨_, rfl⟩
  rw [← hc1] at hk1
  rw [← hc2] at hk2
  have HN := Lib.hid (And.intro hk1 hk2)
  have HP : Hid (∀ w r w', GivesPC w (crtParse b) r w' → ∃ ad cp ad' cp', r = .returned (.tuple #[.agg #[.int .i64 q1.k, .slice ad q1.o.length cp, .int .i64 q1.p, .int .i64 q1.q, .slice ad' q1.w.length cp'], .int .i64 e1]) ∧ RepC w' (fun b => w.heap.size ≤ b) true q1 (.agg #[.int .i64 q1.k, .slice ad q1.o.length cp, .int .i64 q1.p, .int .i64 q1.q, .slice ad' q1.w.length cp']) ∧ Below w.heap.size w w') := Lib.hid (by
    intro w r w' h
    rw [← ho1] at h
    obtain ⟨v, h1, h2, h3⟩ := h
    rw [← hc1] at h2
    rw [← he1] at h1
    obtain ⟨ad, cp, ad', cp', rfl, _⟩ := h2.shape
    exact ⟨ad, cp, ad', cp', h1, h2, h3⟩)
  have HQ2 : Hid (∀ w r w', GivesPC w (crtRead s.data.toList) r w' → ∃ ad cp ad' cp', r = .returned (.tuple #[.agg #[.int .i64 q2.k, .slice ad q2.o.length cp, .int .i64 q2.p, .int .i64 q2.q, .slice ad' q2.w.length cp'], .int .i64 e2]) ∧ RepC w' (fun b => w.heap.size ≤ b) true q2 (.agg #[.int .i64 q2.k, .slice ad q2.o.length cp, .int .i64 q2.p, .int .i64 q2.q, .slice ad' q2.w.length cp']) ∧ Below w.heap.size w w') := Lib.hid (by
    intro w r w' h
    rw [← ho2] at h
    obtain ⟨v, h1, h2, h3⟩ := h
    rw [← hc2] at h2
    rw [← he2] at h1
    obtain ⟨ad, cp, ad', cp', rfl, _⟩ := h2.shape
    exact ⟨ad, cp, ad', cp', h1, h2, h3⟩)
  clear ho1 ho2 hk1 hk2 hc1 hc2 he1 he2 hb hs o1 o2
  go_enter Tryz.func3, Tryz.ntmps3
  go_wp2_with fail
  refine (ownBytes_any S own b _ w HA.out.1 (by omega)).mono ?_
  rintro e w1 ⟨v1, rfl, hown1, hb1⟩
  obtain ⟨ba, bc, rfl⟩ := owns_slice hown1
  have H1 : Hid (Below w.heap.size w w1 ∧ RepB w1 (fun k => k < w1.heap.size) false b (.slice ad b.length cap) ∧ RepB w1 (fun k => k < w1.heap.size) false b (.slice ba b.length bc) ∧ Lq w.heap.size w1) := Lib.hid ⟨hb1, Sl.unown (Sl.keep (HA.out.1.below hb1 (Nat.le_refl _)) (by omega) (fun _ _ _ => rfl) (fun b hl _ => hl)), Sl.unown (Sl.keep (RepB.of_owns hown1) (by omega) (fun _ _ _ => rfl) (fun b hl _ => hl)), HA.out.2.below hb1⟩
  have hs1 := hb1.size
  clear hown1 hb1 HA
  go_wp2_with fail
  refine (refCParse_any _ _ b _ w1 H1.out.2.2.1 (by omega) (H1.out.2.2.2.mono hs1)).mono ?_
  intro e w2 h2
  obtain ⟨xa, xc, xb, xd, rfl, hr2, hb2⟩ := HP.out _ _ _ h2
  have hs2 := hb2.size
  go_upto_region 5 with fail
  have H2 : Hid (DB 28 w2.heap.size (fun k => w1.heap.size ≤ k ∧ k < w2.heap.size) q1 #[.int .i64 q1.k, .slice xa q1.o.length xc, .int .i64 q1.p, .int .i64 q1.q, .slice xb q1.w.length xd] (w2.alloc (.cells #[.int .i64 q1.k, .slice xa q1.o.length xc, .int .i64 q1.p, .int .i64 q1.q, .slice xb q1.w.length xd] 28)) ∧ Below w1.heap.size w1 (w2.alloc (.cells #[.int .i64 q1.k, .slice xa q1.o.length xc, .int .i64 q1.p, .int .i64 q1.q, .slice xb q1.w.length xd] 28)) ∧ (w2.alloc (.cells #[.int .i64 q1.k, .slice xa q1.o.length xc, .int .i64 q1.p, .int .i64 q1.q, .slice xb q1.w.length xd] 28)).heap.size = w2.heap.size + 1) := Lib.hid ⟨DB.of_new hr2, hb2.alloc hs2 _, World.size_alloc _ _⟩
  generalize w2.alloc (.cells #[.int .i64 q1.k, .slice xa q1.o.length xc, .int .i64 q1.p, .int .i64 q1.q, .slice xb q1.w.length xd] 28) = w3 at H2 ⊢
  have hz3 := H2.out.2.2
  clear h2 hr2 hb2
  go_wp2_with fail
  refine (refCRead_any s hs4 w3 ((H1.out.2.2.2.below (H2.out.2.1.mono hs1)).mono (by omega))).mono ?_
  intro e w4 h4
  obtain ⟨ya, yc, yb, yd, rfl, hr4, hb4'⟩ := HQ2.out _ _ _ h4
  have hs4' := hb4'.size
  go_upto_region 6 with fail
  have H4 : Hid (DB 28 w4.heap.size (fun k => w3.heap.size ≤ k ∧ k < w4.heap.size) q2 #[.int .i64 q2.k, .slice ya q2.o.length yc, .int .i64 q2.p, .int .i64 q2.q, .slice yb q2.w.length yd] (w4.alloc (.cells #[.int .i64 q2.k, .slice ya q2.o.length yc, .int .i64 q2.p, .int .i64 q2.q, .slice yb q2.w.length yd] 28)) ∧ DB 28 w2.heap.size (fun k => w1.heap.size ≤ k ∧ k < w2.heap.size) q1 #[.int .i64 q1.k, .slice xa q1.o.length xc, .int .i64 q1.p, .int .i64 q1.q, .slice xb q1.w.length xd] (w4.alloc (.cells #[.int .i64 q2.k, .slice ya q2.o.length yc, .int .i64 q2.p, .int .i64 q2.q, .slice yb q2.w.length yd] 28)) ∧ Below w1.heap.size w1 (w4.alloc (.cells #[.int .i64 q2.k, .slice ya q2.o.length yc, .int .i64 q2.p, .int .i64 q2.q, .slice yb q2.w.length yd] 28)) ∧ (w4.alloc (.cells #[.int .i64 q2.k, .slice ya q2.o.length yc, .int .i64 q2.p, .int .i64 q2.q, .slice yb q2.w.length yd] 28)).heap.size = w4.heap.size + 1) := Lib.hid (by
    have hb5 : Below w3.heap.size w3 (w4.alloc (.cells #[.int .i64 q2.k, .slice ya q2.o.length yc, .int .i64 q2.p, .int .i64 q2.q, .slice yb q2.w.length yd] 28)) := hb4'.alloc hs4' _
    exact ⟨DB.of_new hr4, H2.out.1.below hb5 (Nat.le_refl _), H2.out.2.1.trans (hb5.mono (by omega)), World.size_alloc _ _⟩)
  generalize w4.alloc (.cells #[.int .i64 q2.k, .slice ya q2.o.length yc, .int .i64 q2.p, .int .i64 q2.q, .slice yb q2.w.length yd] 28) = w5 at H4 ⊢
  have hz5 := H4.out.2.2.2
  clear h4 hr4 hb4' H2
  go_wp2_with fail
  go_loopw [10] (fun t wr => ∃ j : Nat, j ≤ 2 ∧ t = .int .i64 j ∧ Hid (Below w5.heap.size w5 wr)) (fun t _ => 2 - (intOf t).toNat)
  case atStart => exact ⟨0, by omega, rfl, Lib.hid (Below.refl _ _)⟩
  case round =>
    obtain ⟨j, hj, rfl, HQ⟩ := hrel
    have hsr := HQ.out.size
    have HR : Hid (Below w.heap.size w wr ∧ RepB wr (fun k => k < w1.heap.size) false b (.slice ad b.length cap) ∧ RepB wr (fun k => k < w1.heap.size) false b (.slice ba b.length bc) ∧ DB 28 w2.heap.size (fun k => w1.heap.size ≤ k ∧ k < w2.heap.size) q1 #[.int .i64 q1.k, .slice xa q1.o.length xc, .int .i64 q1.p, .int .i64 q1.q, .slice xb q1.w.length xd] wr ∧ DB 28 w4.heap.size (fun k => w3.heap.size ≤ k ∧ k < w4.heap.size) q2 #[.int .i64 q2.k, .slice ya q2.o.length yc, .int .i64 q2.p, .int .i64 q2.q, .slice yb q2.w.length yd] wr) := Lib.hid (by
      have hb15 := H4.out.2.2.1.trans (HQ.out.mono (by omega))
      exact ⟨H1.out.1.trans (hb15.mono hs1), H1.out.2.1.below hb15 (Nat.le_refl _), H1.out.2.2.1.below hb15 (Nat.le_refl _), H4.out.2.1.below HQ.out (Nat.le_refl _), H4.out.1.below HQ.out (Nat.le_refl _)⟩)
    have HLr : Hid (∀ w', Below wr.heap.size wr w' → Lq w'.heap.size w') := Lib.hid (fun w' hb' => ((H1.out.2.2.2.below ((H4.out.2.2.1.mono hs1).trans (HQ.out.mono (by omega)))).below (hb'.mono (by omega))).mono (by have := hb'.size; omega))
    by_cases hlt : j < 2
    · go_wp2_with fail
      refine (certParse_any _ _ b _ wr HR.out.2.1 (by omega) (HLr.out wr (Below.refl _ _))).mono ?_
      intro e w6 h6
      obtain ⟨ca, cc, cb, cd, rfl, hr6, hb6⟩ := HP.out _ _ _ h6
      have hs6 := hb6.size
      go_upto_region 10 with fail
      have H6 : Hid (DB 35 w6.heap.size (fun k => wr.heap.size ≤ k ∧ k < w6.heap.size) q1 #[.int .i64 q1.k, .slice ca q1.o.length cc, .int .i64 q1.p, .int .i64 q1.q, .slice cb q1.w.length cd] (w6.alloc (.cells #[.int .i64 q1.k, .slice ca q1.o.length cc, .int .i64 q1.p, .int .i64 q1.q, .slice cb q1.w.length cd] 35)) ∧ Below wr.heap.size wr (w6.alloc (.cells #[.int .i64 q1.k, .slice ca q1.o.length cc, .int .i64 q1.p, .int .i64 q1.q, .slice cb q1.w.length cd] 35)) ∧ (w6.alloc (.cells #[.int .i64 q1.k, .slice ca q1.o.length cc, .int .i64 q1.p, .int .i64 q1.q, .slice cb q1.w.length cd] 35)).heap.size = w6.heap.size + 1) := Lib.hid ⟨DB.of_new hr6, hb6.alloc hs6 _, World.size_alloc _ _⟩
      generalize w6.alloc (.cells #[.int .i64 q1.k, .slice ca q1.o.length cc, .int .i64 q1.p, .int .i64 q1.q, .slice cb q1.w.length cd] 35) = w7 at H6 ⊢
      have hz7 := H6.out.2.2
      clear h6 hr6 hb6
      go_wp2_with fail
      refine (certRead_any s hs4 w7 (HLr.out w7 H6.out.2.1)).mono ?_
      intro e w8 h8
      obtain ⟨da, dc, db, dd, rfl, hr8, hb8⟩ := HQ2.out _ _ _ h8
      have hs8 := hb8.size
      go_upto_region 11 with fail
      have H8 : Hid (DB 35 w8.heap.size (fun k => w7.heap.size ≤ k ∧ k < w8.heap.size) q2 #[.int .i64 q2.k, .slice da q2.o.length dc, .int .i64 q2.p, .int .i64 q2.q, .slice db q2.w.length dd] (w8.alloc (.cells #[.int .i64 q2.k, .slice da q2.o.length dc, .int .i64 q2.p, .int .i64 q2.q, .slice db q2.w.length dd] 35)) ∧ DB 35 w6.heap.size (fun k => wr.heap.size ≤ k ∧ k < w6.heap.size) q1 #[.int .i64 q1.k, .slice ca q1.o.length cc, .int .i64 q1.p, .int .i64 q1.q, .slice cb q1.w.length cd] (w8.alloc (.cells #[.int .i64 q2.k, .slice da q2.o.length dc, .int .i64 q2.p, .int .i64 q2.q, .slice db q2.w.length dd] 35)) ∧ Below wr.heap.size wr (w8.alloc (.cells #[.int .i64 q2.k, .slice da q2.o.length dc, .int .i64 q2.p, .int .i64 q2.q, .slice db q2.w.length dd] 35)) ∧ (w8.alloc (.cells #[.int .i64 q2.k, .slice da q2.o.length dc, .int .i64 q2.p, .int .i64 q2.q, .slice db q2.w.length dd] 35)).heap.size = w8.heap.size + 1) := Lib.hid (by
        have hb9 : Below w7.heap.size w7 (w8.alloc (.cells #[.int .i64 q2.k, .slice da q2.o.length dc, .int .i64 q2.p, .int .i64 q2.q, .slice db q2.w.length dd] 35)) := hb8.alloc hs8 _
        exact ⟨DB.of_new hr8, H6.out.1.below hb9 (Nat.le_refl _), H6.out.2.1.trans (hb9.mono (by omega)), World.size_alloc _ _⟩)
      generalize w8.alloc (.cells #[.int .i64 q2.k, .slice da q2.o.length dc, .int .i64 q2.p, .int .i64 q2.q, .slice db q2.w.length dd] 35) = w9 at H8 ⊢
      have hz9 := H8.out.2.2.2
      clear h8 hr8 hb8 H6
      have HX9 : Hid (DB 28 w2.heap.size (fun k => w1.heap.size ≤ k ∧ k < w2.heap.size) q1 #[.int .i64 q1.k, .slice xa q1.o.length xc, .int .i64 q1.p, .int .i64 q1.q, .slice xb q1.w.length xd] w9 ∧ DB 28 w4.heap.size (fun k => w3.heap.size ≤ k ∧ k < w4.heap.size) q2 #[.int .i64 q2.k, .slice ya q2.o.length yc, .int .i64 q2.p, .int .i64 q2.q, .slice yb q2.w.length yd] w9) := Lib.hid ⟨HR.out.2.2.2.1.below H8.out.2.2.1 (Nat.le_refl _), HR.out.2.2.2.2.below H8.out.2.2.1 (Nat.le_refl _)⟩
      have lc := H8.out.2.1.lt
      have ld := H8.out.1.lt
      have lx := HX9.out.1.lt
      have ly := HX9.out.2.lt
      obtain ⟨c0, c1, c2, c3, c4⟩ := H8.out.2.1.cells
      obtain ⟨d0, d1, d2, d3, d4⟩ := H8.out.1.cells
      obtain ⟨x0, x1, x2, x3, x4⟩ := HX9.out.1.cells
      obtain ⟨y0, y1, y2, y3, y4⟩ := HX9.out.2.cells
      refine wp_region_prs (w0 := w9) rfl [.eq (.int .i64 e1), .eq (.int .i64 e1), .eq (.bool false), .eq (.bool false), .eq (.int .i64 e2), .eq (.int .i64 e2), .eq (.bool false), .eq (.bool false), .eq (.bool false), .eq (.agg #[.int .i64 q1.k, .slice ca q1.o.length cc, .int .i64 q1.p, .int .i64 q1.q, .slice cb q1.w.length cd]), .of (pCf q1), .eq (.agg #[.int .i64 q1.k, .slice xa q1.o.length xc, .int .i64 q1.p, .int .i64 q1.q, .slice xb q1.w.length xd]), .eq (.bool true), .eq (.bool false), .eq (.bool false), .eq (.bool false), .eq (.agg #[.int .i64 q2.k, .slice da q2.o.length dc, .int .i64 q2.p, .int .i64 q2.q, .slice db q2.w.length dd]), .of (pCf q2), .eq (.agg #[.int .i64 q2.k, .slice ya q2.o.length yc, .int .i64 q2.p, .int .i64 q2.q, .slice yb q2.w.length yd]), .eq (.bool true), .eq (.bool false), .eq (.bool false)] (by kernel_rfl) ⟨?_, ?_, ?_, ?_, ?_, ?_, ?_, ?_, ?_, ?_, ?_, ?_, ?_, ?_, ?_, ?_, ?_, ?_, ?_, ?_, ?_, ?_, ?_, ?_, trivial⟩ (fun vs => [(50, (.int .i64 e1)), (51, (.int .i64 e1)), (52, (.bool false)), (53, (.bool false)), (54, (.int .i64 e2)), (55, (.int .i64 e2)), (56, (.bool false)), (57, (.bool false)), (58, (.bool false)), (59, (.agg #[.int .i64 q1.k, .slice ca q1.o.length cc, .int .i64 q1.p, .int .i64 q1.q, .slice cb q1.w.length cd])), (60, vs 10), (61, (.agg #[.int .i64 q1.k, .slice xa q1.o.length xc, .int .i64 q1.p, .int .i64 q1.q, .slice xb q1.w.length xd])), (62, (.bool true)), (63, (.bool false)), (64, (.bool false)), (65, (.bool false)), (66, (.agg #[.int .i64 q2.k, .slice da q2.o.length dc, .int .i64 q2.p, .int .i64 q2.q, .slice db q2.w.length dd])), (67, vs 17), (68, (.agg #[.int .i64 q2.k, .slice ya q2.o.length yc, .int .i64 q2.p, .int .i64 q2.q, .slice yb q2.w.length yd])), (69, (.bool true)), (70, (.bool false)), (71, (.bool false))]) (fun _ => rfl) ?_
      · refine RStep.mk rfl rfl (fun S a wx K Q hR hK => ?_)
        have t12 : a.tmps[12]? = some (.int .i64 e1) := (hR.old 12 (by kernel_rfl)).trans (by kernel_rfl)
        go_simp
        exact hK _ _ (Below.refl _ _) rfl
      · refine RStep.mk rfl rfl (fun S a wx K Q hR hK => ?_)
        have t7 : a.tmps[7]? = some (.int .i64 e1) := (hR.old 7 (by kernel_rfl)).trans (by kernel_rfl)
        go_simp
        exact hK _ _ (Below.refl _ _) rfl
      · refine RStep.mk rfl rfl (fun S a wx K Q hR hK => ?_)
        have t50 := hR.eq 0 (by kernel_rfl) rfl rfl
        have t51 := hR.eq 1 (by kernel_rfl) rfl rfl
        go_simp
        (try go_ints)
        exact hK _ _ (Below.refl _ _) rfl
      · refine RStep.mk rfl rfl (fun S a wx K Q hR hK => ?_)
        have t52 := hR.eq 2 (by kernel_rfl) rfl rfl
        go_simp
        exact hK _ _ (Below.refl _ _) rfl
      · refine RStep.mk rfl rfl (fun S a wx K Q hR hK => ?_)
        have t14 : a.tmps[14]? = some (.int .i64 e2) := (hR.old 14 (by kernel_rfl)).trans (by kernel_rfl)
        go_simp
        exact hK _ _ (Below.refl _ _) rfl
      · refine RStep.mk rfl rfl (fun S a wx K Q hR hK => ?_)
        have t9 : a.tmps[9]? = some (.int .i64 e2) := (hR.old 9 (by kernel_rfl)).trans (by kernel_rfl)
        go_simp
        exact hK _ _ (Below.refl _ _) rfl
      · refine RStep.mk rfl rfl (fun S a wx K Q hR hK => ?_)
        have t54 := hR.eq 4 (by kernel_rfl) rfl rfl
        have t55 := hR.eq 5 (by kernel_rfl) rfl rfl
        go_simp
        (try go_ints)
        exact hK _ _ (Below.refl _ _) rfl
      · refine RStep.mk rfl rfl (fun S a wx K Q hR hK => ?_)
        have t53 := hR.eq 3 (by kernel_rfl) rfl rfl
        have t56 := hR.eq 6 (by kernel_rfl) rfl rfl
        go_simp
        exact hK _ _ (Below.refl _ _) rfl
      · refine RStep.mk rfl rfl (fun S a wx K Q hR hK => ?_)
        have t57 := hR.eq 7 (by kernel_rfl) rfl rfl
        go_simp
        exact hK _ _ (Below.refl _ _) rfl
      · refine RStep.mk rfl rfl (fun S a wx K Q hR hK => ?_)
        have t11 : a.tmps[11]? = some (.pointer (some ⟨w6.heap.size, 0, none⟩)) := (hR.old 11 (by kernel_rfl)).trans (by kernel_rfl)
        have y0 := (hR.bel.cell lc).trans c0
        have y1 := (hR.bel.cell lc).trans c1
        have y2 := (hR.bel.cell lc).trans c2
        have y3 := (hR.bel.cell lc).trans c3
        have y4 := (hR.bel.cell lc).trans c4
        go_simp
        exact hK _ _ (Below.refl _ _) rfl
      · exact steadyCf _
      · refine RStep.mk rfl rfl (fun S a wx K Q hR hK => ?_)
        have t59 := hR.eq 9 (by kernel_rfl) rfl rfl
        go_simp
        go_at_call 13
        go_fit (docCert_any _ _ q1 _ _ (H8.out.2.1.r.below hR.bel (Nat.le_refl _)) HN.out.1.1 (by have := HN.out.1.2; omega) (by have := HN.out.1.2; omega) (HLr.out wx (H8.out.2.2.1.trans (hR.bel.mono H8.out.2.2.1.size))))
        rintro e w' ⟨vt, rfl, hvt, hbt⟩
        exact hK _ _ hbt (hvt.wider (fun b _ h => hR.new b h))
      · refine RStep.mk rfl rfl (fun S a wx K Q hR hK => ?_)
        have t6 : a.tmps[6]? = some (.pointer (some ⟨w2.heap.size, 0, none⟩)) := (hR.old 6 (by kernel_rfl)).trans (by kernel_rfl)
        have y0 := (hR.bel.cell lx).trans x0
        have y1 := (hR.bel.cell lx).trans x1
        have y2 := (hR.bel.cell lx).trans x2
        have y3 := (hR.bel.cell lx).trans x3
        have y4 := (hR.bel.cell lx).trans x4
        go_simp
        exact hK _ _ (Below.refl _ _) rfl
      · refine RStep.mk rfl rfl (fun S a wx K Q hR hK => ?_)
        obtain ⟨u60, t60, f60⟩ := hR.of 10 (by kernel_rfl) rfl rfl
        have t61 := hR.eq 11 (by kernel_rfl) rfl rfl
        go_simp
        go_at_call 12
        go_fit (refCertSame_any _ _ _ _ q1 q1 _ _ _ f60 (HX9.out.1.r.below hR.bel (Nat.le_refl _)))
        rintro e w' ⟨rfl, hbx⟩
        exact hK _ _ hbx (by show Value.bool _ = Value.bool true; simp)
      · refine RStep.mk rfl rfl (fun S a wx K Q hR hK => ?_)
        have t62 := hR.eq 12 (by kernel_rfl) rfl rfl
        go_simp
        exact hK _ _ (Below.refl _ _) rfl
      · refine RStep.mk rfl rfl (fun S a wx K Q hR hK => ?_)
        have t58 := hR.eq 8 (by kernel_rfl) rfl rfl
        have t63 := hR.eq 13 (by kernel_rfl) rfl rfl
        go_simp
        exact hK _ _ (Below.refl _ _) rfl
      · refine RStep.mk rfl rfl (fun S a wx K Q hR hK => ?_)
        have t64 := hR.eq 14 (by kernel_rfl) rfl rfl
        go_simp
        exact hK _ _ (Below.refl _ _) rfl
      · refine RStep.mk rfl rfl (fun S a wx K Q hR hK => ?_)
        have t13 : a.tmps[13]? = some (.pointer (some ⟨w8.heap.size, 0, none⟩)) := (hR.old 13 (by kernel_rfl)).trans (by kernel_rfl)
        have y0 := (hR.bel.cell ld).trans d0
        have y1 := (hR.bel.cell ld).trans d1
        have y2 := (hR.bel.cell ld).trans d2
        have y3 := (hR.bel.cell ld).trans d3
        have y4 := (hR.bel.cell ld).trans d4
        go_simp
        exact hK _ _ (Below.refl _ _) rfl
      · exact steadyCf _
      · refine RStep.mk rfl rfl (fun S a wx K Q hR hK => ?_)
        have t66 := hR.eq 16 (by kernel_rfl) rfl rfl
        go_simp
        go_at_call 13
        go_fit (docCert_any _ _ q2 _ _ (H8.out.1.r.below hR.bel (Nat.le_refl _)) HN.out.2.1 (by have := HN.out.2.2; omega) (by have := HN.out.2.2; omega) (HLr.out wx (H8.out.2.2.1.trans (hR.bel.mono H8.out.2.2.1.size))))
        rintro e w' ⟨vt, rfl, hvt, hbt⟩
        exact hK _ _ hbt (hvt.wider (fun b _ h => hR.new b h))
      · refine RStep.mk rfl rfl (fun S a wx K Q hR hK => ?_)
        have t8 : a.tmps[8]? = some (.pointer (some ⟨w4.heap.size, 0, none⟩)) := (hR.old 8 (by kernel_rfl)).trans (by kernel_rfl)
        have y0 := (hR.bel.cell ly).trans y0
        have y1 := (hR.bel.cell ly).trans y1
        have y2 := (hR.bel.cell ly).trans y2
        have y3 := (hR.bel.cell ly).trans y3
        have y4 := (hR.bel.cell ly).trans y4
        go_simp
        exact hK _ _ (Below.refl _ _) rfl
      · refine RStep.mk rfl rfl (fun S a wx K Q hR hK => ?_)
        obtain ⟨u67, t67, f67⟩ := hR.of 17 (by kernel_rfl) rfl rfl
        have t68 := hR.eq 18 (by kernel_rfl) rfl rfl
        go_simp
        go_at_call 12
        go_fit (refCertSame_any _ _ _ _ q2 q2 _ _ _ f67 (HX9.out.2.r.below hR.bel (Nat.le_refl _)))
        rintro e w' ⟨rfl, hbx⟩
        exact hK _ _ hbx (by show Value.bool _ = Value.bool true; simp)
      · refine RStep.mk rfl rfl (fun S a wx K Q hR hK => ?_)
        have t69 := hR.eq 19 (by kernel_rfl) rfl rfl
        go_simp
        exact hK _ _ (Below.refl _ _) rfl
      · refine RStep.mk rfl rfl (fun S a wx K Q hR hK => ?_)
        have t65 := hR.eq 15 (by kernel_rfl) rfl rfl
        have t70 := hR.eq 20 (by kernel_rfl) rfl rfl
        go_simp
        exact hK _ _ (Below.refl _ _) rfl
      intro S11 vs w10 hD
      have hs10 := hD.bel.size
      have HD := Lib.hid (And.intro (H8.out.1.below hD.bel (Nat.le_refl _)) (And.intro (H8.out.2.1.below hD.bel (Nat.le_refl _)) (H8.out.2.2.1.trans (hD.bel.mono H8.out.2.2.1.size))))
      simp only [putsL, List.foldl_cons, List.foldl_nil]
      clear hD H8 HX9 lc ld lx ly c0 c1 c2 c3 c4 d0 d1 d2 d3 d4 x0 x1 x2 x3 x4 y0 y1 y2 y3 y4
      go_simp
      obtain ⟨c0, c1, c2, c3, c4⟩ := HD.out.2.1.cells
      go_wp2_with fail
      refine (spoilCert_any wr.heap.size (fun k => wr.heap.size ≤ k ∧ k < w6.heap.size) (fun k h => h.1) q1 _ w10 HD.out.2.2.size HD.out.2.1.r).mono ?_
      rintro e w11 ⟨rfl, hb11, hk11⟩
      have HD11 := Lib.hid (HD.out.1.keep hk11 (fun h => by omega) (fun k h h' => by omega))
      have HB11 := Lib.hid (HD.out.2.2.trans hb11)
      clear hb11 hk11 c0 c1 c2 c3 c4 HD
      obtain ⟨d0, d1, d2, d3, d4⟩ := HD11.out.cells
      go_wp2_with fail
      refine (spoilCert_any wr.heap.size (fun k => w7.heap.size ≤ k ∧ k < w8.heap.size) (fun k h => by omega) q2 _ w11 HB11.out.size HD11.out.r).mono ?_
      rintro e w12 ⟨rfl, hb12, _⟩
      have HB12 := Lib.hid (HQ.out.trans ((HB11.out.trans hb12).mono hsr))
      clear hb12 d0 d1 d2 d3 d4 HD11 HB11
      go_wp2_with fail
      go_roundw
      case rel => exact ⟨j + 1, by omega, by go_num, HB12⟩
      case measure => simp [intOf]; omega
    · have hj2 : j = 2 := by omega
      subst hj2
      go_wp2_with fail
      refine (sameBytes_any _ _ _ _ b b _ _ wr HR.out.2.1 HR.out.2.2.1).mono ?_
      rintro e w6 ⟨rfl, hb6⟩
      simp only [decide_true]
      go_wp2_with fail
      refine (works28_any w6 (HLr.out w6 hb6)).mono ?_
      rintro e w7 ⟨rfl, hb7⟩
      go_wp2_with fail
      go_ret
      exact ⟨rfl, HR.out.1.trans ((hb6.trans (hb7.mono hb6.size)).mono HR.out.1.size)⟩
end Go.Proofs.YtkpfbalkhlidgaaGreatDoor
