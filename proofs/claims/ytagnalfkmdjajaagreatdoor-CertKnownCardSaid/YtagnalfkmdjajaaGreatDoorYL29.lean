/- The law CertParses, walked. -/
import Derived.Test.YtagnalfkmdjajaaGreatDoorYD14
import Derived.Test.YtagnalfkmdjajaaGreatDoorYD12
import Derived.Test.YtagnalfkmdjajaaGreatDoorY12
set_option maxHeartbeats 20000000
set_option maxRecDepth 100000
namespace Go.Proofs.YtagnalfkmdjajaaGreatDoor
open Go.RowKit Go
set_option linter.unusedVariables false
set_option linter.unusedSimpArgs false
theorem fT (S : Nat → Prop) (own : Bool) (b : List UInt8) (vb : Value) (s : ByteArray) (w : World) (hr : au w S own b vb) (hL : Lq w.heap.size w) :
  Calls Tryz.prog 21 #[vb, .string s] w fun e w' => e = .returned (.bool true) ∧ Below w.heap.size w w' := by
 obtain ⟨_, ad, cap, rfl, _⟩ := hr.shape
 have HA := hid (And.intro hr hL)
 clear hr hL
 by_cases hb : 400 < b.length
 ·have t1 : (400 : Int) < (b.length : Int) := by omega
  clear hb
  go_enter Tryz.func21, Tryz.ntmps21
  go_wp2_with fail
  refine (bA w HA.out.2).mono ?_
  rintro e w2 ⟨rfl, hb2⟩
  go_wp2_with fail
  go_ret
  exact ⟨rfl, hb2⟩
 by_cases hs : 400 < s.size
 ·have t1 : ¬ (400 : Int) < (b.length : Int) := by omega
  have t2 : (400 : Int) < (s.size : Int) := by omega
  clear hb hs
  go_enter Tryz.func21, Tryz.ntmps21
  go_wp2_with fail
  refine (bA w HA.out.2).mono ?_
  rintro e w2 ⟨rfl, hb2⟩
  go_wp2_with fail
  go_ret
  exact ⟨rfl, hb2⟩
 have hb4 : b.length ≤ 400 := by omega
 have hs4 : s.size ≤ 400 := by omega
 have t1 : ¬ (400 : Int) < (b.length : Int) := by omega
 have t2 : ¬ (400 : Int) < (s.size : Int) := by omega
 obtain ⟨o1, ho1⟩ : ∃ o, o = crtParse b := ⟨_, rfl⟩
 obtain ⟨o2, ho2⟩ : ∃ o, o = crtRead s.data.toList := ⟨_, rfl⟩
 have hk1 : (o1.getD jJ).nums ∧ (o1.getD jJ).o.length ≤ 65536 ∧ (o1.getD jJ).w.length ≤ 65536 := Du fun c h => by rw [ho1] at h; obtain ⟨h1, h2, _⟩ := dX.1 h; exact ⟨h1, h2⟩
 have hk2 : (o2.getD jJ).nums ∧ (o2.getD jJ).o.length ≤ 65536 ∧ (o2.getD jJ).w.length ≤ 65536 := Du fun c h => by rw [ho2] at h; obtain ⟨h1, h2, _⟩ := ib.1 h; exact ⟨h1, h2⟩
 obtain ⟨q1, hc1⟩ : ∃ c, c = o1.getD jJ := ⟨_, rfl⟩
 obtain ⟨q2, hc2⟩ : ∃ c, c = o2.getD jJ := ⟨_, rfl⟩
 obtain ⟨e1, he1⟩ : ∃ e : Int, e = if o1.isSome then 0 else 280 := ⟨_, rfl⟩
 obtain ⟨e2, he2⟩ : ∃ e : Int, e = if o2.isSome then 0 else 280 := ⟨_, rfl⟩
 rw [← hc1] at hk1
 rw [← hc2] at hk2
 have HN := hid (And.intro hk1 hk2)
 have HP : Hid (∀ w r w', fQ w (crtParse b) r w' → ∃ ad cp ad' cp', r = .returned (.tuple #[.agg #[.int .i64 q1.k, .slice ad q1.o.length cp, .int .i64 q1.p, .int .i64 q1.q, .slice ad' q1.w.length cp'], .int .i64 e1]) ∧ aL w' (fun b => w.heap.size ≤ b) true q1 (.agg #[.int .i64 q1.k, .slice ad q1.o.length cp, .int .i64 q1.p, .int .i64 q1.q, .slice ad' q1.w.length cp']) ∧ Below w.heap.size w w') := hid (by
  intro w r w' h
  rw [← ho1] at h
  obtain ⟨v, h1, h2, h3⟩ := h
  rw [← hc1] at h2
  rw [← he1] at h1
  obtain ⟨ad, cp, ad', cp', rfl, _⟩ := h2.shape
  exact ⟨ad, cp, ad', cp', h1, h2, h3⟩)
 have HQ2 : Hid (∀ w r w', fQ w (crtRead s.data.toList) r w' → ∃ ad cp ad' cp', r = .returned (.tuple #[.agg #[.int .i64 q2.k, .slice ad q2.o.length cp, .int .i64 q2.p, .int .i64 q2.q, .slice ad' q2.w.length cp'], .int .i64 e2]) ∧ aL w' (fun b => w.heap.size ≤ b) true q2 (.agg #[.int .i64 q2.k, .slice ad q2.o.length cp, .int .i64 q2.p, .int .i64 q2.q, .slice ad' q2.w.length cp']) ∧ Below w.heap.size w w') := hid (by
  intro w r w' h
  rw [← ho2] at h
  obtain ⟨v, h1, h2, h3⟩ := h
  rw [← hc2] at h2
  rw [← he2] at h1
  obtain ⟨ad, cp, ad', cp', rfl, _⟩ := h2.shape
  exact ⟨ad, cp, ad', cp', h1, h2, h3⟩)
 clear ho1 ho2 hk1 hk2 hc1 hc2 he1 he2 hb hs o1 o2
 go_enter Tryz.func21, Tryz.ntmps21
 go_wp2_with fail
 refine (gW S own b _ w HA.out.1 (by omega)).mono ?_
 rintro e w1 ⟨v1, rfl, hown1, hb1⟩
 obtain ⟨ba, bc, rfl⟩ := ag hown1
 have H1 : Hid (Below w.heap.size w w1 ∧ au w1 (fun k => k < w1.heap.size) false b (.slice ad b.length cap) ∧ au w1 (fun k => k < w1.heap.size) false b (.slice ba b.length bc) ∧ Lq w.heap.size w1) := hid ⟨hb1, Sl.unown (Sl.keep (HA.out.1.below hb1 nl) (by omega) (fun _ _ _ => rfl) (fun b hl _ => hl)), Sl.unown (Sl.keep (au.of_owns hown1) (by omega) (fun _ _ _ => rfl) (fun b hl _ => hl)), HA.out.2.below hb1⟩
 have hs1 := hb1.size
 clear hown1 hb1 HA
 go_wp2_with fail
 refine (tJ _ _ b _ w1 H1.out.2.2.1 (by omega) (H1.out.2.2.2.mono hs1)).mono ?_
 intro e w2 h2
 obtain ⟨xa, xc, xb, xd, rfl, hr2, hb2⟩ := HP.out _ _ _ h2
 have hs2 := hb2.size
 go_upto_region 5 with fail
 have H2 : Hid (DB 46 w2.heap.size (fun k => w1.heap.size ≤ k ∧ k < w2.heap.size) q1 #[.int .i64 q1.k, .slice xa q1.o.length xc, .int .i64 q1.p, .int .i64 q1.q, .slice xb q1.w.length xd] (w2.alloc (.cells #[.int .i64 q1.k, .slice xa q1.o.length xc, .int .i64 q1.p, .int .i64 q1.q, .slice xb q1.w.length xd] 46)) ∧ Below w1.heap.size w1 (w2.alloc (.cells #[.int .i64 q1.k, .slice xa q1.o.length xc, .int .i64 q1.p, .int .i64 q1.q, .slice xb q1.w.length xd] 46)) ∧ (w2.alloc (.cells #[.int .i64 q1.k, .slice xa q1.o.length xc, .int .i64 q1.p, .int .i64 q1.q, .slice xb q1.w.length xd] 46)).heap.size = w2.heap.size + 1) := hid ⟨DB.of_new hr2, hb2.alloc hs2 _, World.size_alloc _ _⟩
 generalize w2.alloc (.cells #[.int .i64 q1.k, .slice xa q1.o.length xc, .int .i64 q1.p, .int .i64 q1.q, .slice xb q1.w.length xd] 46) = w3 at H2 ⊢
 have hz3 := H2.out.2.2
 clear h2 hr2 hb2
 go_wp2_with fail
 refine (vN s hs4 w3 ((H1.out.2.2.2.below (H2.out.2.1.mono hs1)).mono (by omega))).mono ?_
 intro e w4 h4
 obtain ⟨ya, yc, yb, yd, rfl, hr4, hb4'⟩ := HQ2.out _ _ _ h4
 have hs4' := hb4'.size
 go_upto_region 6 with fail
 have H4 : Hid (DB 46 w4.heap.size (fun k => w3.heap.size ≤ k ∧ k < w4.heap.size) q2 #[.int .i64 q2.k, .slice ya q2.o.length yc, .int .i64 q2.p, .int .i64 q2.q, .slice yb q2.w.length yd] (w4.alloc (.cells #[.int .i64 q2.k, .slice ya q2.o.length yc, .int .i64 q2.p, .int .i64 q2.q, .slice yb q2.w.length yd] 46)) ∧ DB 46 w2.heap.size (fun k => w1.heap.size ≤ k ∧ k < w2.heap.size) q1 #[.int .i64 q1.k, .slice xa q1.o.length xc, .int .i64 q1.p, .int .i64 q1.q, .slice xb q1.w.length xd] (w4.alloc (.cells #[.int .i64 q2.k, .slice ya q2.o.length yc, .int .i64 q2.p, .int .i64 q2.q, .slice yb q2.w.length yd] 46)) ∧ Below w1.heap.size w1 (w4.alloc (.cells #[.int .i64 q2.k, .slice ya q2.o.length yc, .int .i64 q2.p, .int .i64 q2.q, .slice yb q2.w.length yd] 46)) ∧ (w4.alloc (.cells #[.int .i64 q2.k, .slice ya q2.o.length yc, .int .i64 q2.p, .int .i64 q2.q, .slice yb q2.w.length yd] 46)).heap.size = w4.heap.size + 1) := hid (by
  have hb5 : Below w3.heap.size w3 (w4.alloc (.cells #[.int .i64 q2.k, .slice ya q2.o.length yc, .int .i64 q2.p, .int .i64 q2.q, .slice yb q2.w.length yd] 46)) := hb4'.alloc hs4' _
  exact ⟨DB.of_new hr4, H2.out.1.below hb5 nl, H2.out.2.1.trans (hb5.mono (by omega)), World.size_alloc _ _⟩)
 generalize w4.alloc (.cells #[.int .i64 q2.k, .slice ya q2.o.length yc, .int .i64 q2.p, .int .i64 q2.q, .slice yb q2.w.length yd] 46) = w5 at H4 ⊢
 have hz5 := H4.out.2.2.2
 clear h4 hr4 hb4' H2
 go_wp2_with fail
 go_loopw [10] (fun t wr => ∃ j : Nat, j ≤ 2 ∧ t = .int .i64 j ∧ Hid (Below w5.heap.size w5 wr)) (fun t _ => 2 - (intOf t).toNat)
 case atStart => exact ⟨0, by omega, rfl, hid br⟩
 case round =>
  obtain ⟨j, hj, rfl, HQ⟩ := hrel
  have hsr := HQ.out.size
  have HR : Hid (Below w.heap.size w wr ∧ au wr (fun k => k < w1.heap.size) false b (.slice ad b.length cap) ∧ au wr (fun k => k < w1.heap.size) false b (.slice ba b.length bc) ∧ DB 46 w2.heap.size (fun k => w1.heap.size ≤ k ∧ k < w2.heap.size) q1 #[.int .i64 q1.k, .slice xa q1.o.length xc, .int .i64 q1.p, .int .i64 q1.q, .slice xb q1.w.length xd] wr ∧ DB 46 w4.heap.size (fun k => w3.heap.size ≤ k ∧ k < w4.heap.size) q2 #[.int .i64 q2.k, .slice ya q2.o.length yc, .int .i64 q2.p, .int .i64 q2.q, .slice yb q2.w.length yd] wr) := hid (by
   have hb15 := H4.out.2.2.1.trans (HQ.out.mono (by omega))
   exact ⟨H1.out.1.trans (hb15.mono hs1), H1.out.2.1.below hb15 nl, H1.out.2.2.1.below hb15 nl, H4.out.2.1.below HQ.out nl, H4.out.1.below HQ.out nl⟩)
  have HLr : Hid (∀ w', Below wr.heap.size wr w' → Lq w'.heap.size w') := hid (fun w' hb' => ((H1.out.2.2.2.below ((H4.out.2.2.1.mono hs1).trans (HQ.out.mono (by omega)))).below (hb'.mono (by omega))).mono (by have := hb'.size; omega))
  by_cases hlt : j < 2
  ·go_wp2_with fail
   refine (fB _ _ b _ wr HR.out.2.1 (by omega) (HLr.out wr br)).mono ?_
   intro e w6 h6
   obtain ⟨ca, cc, cb, cd, rfl, hr6, hb6⟩ := HP.out _ _ _ h6
   have hs6 := hb6.size
   go_upto_region 10 with fail
   have H6 : Hid (DB 25 w6.heap.size (fun k => wr.heap.size ≤ k ∧ k < w6.heap.size) q1 #[.int .i64 q1.k, .slice ca q1.o.length cc, .int .i64 q1.p, .int .i64 q1.q, .slice cb q1.w.length cd] (w6.alloc (.cells #[.int .i64 q1.k, .slice ca q1.o.length cc, .int .i64 q1.p, .int .i64 q1.q, .slice cb q1.w.length cd] 25)) ∧ Below wr.heap.size wr (w6.alloc (.cells #[.int .i64 q1.k, .slice ca q1.o.length cc, .int .i64 q1.p, .int .i64 q1.q, .slice cb q1.w.length cd] 25)) ∧ (w6.alloc (.cells #[.int .i64 q1.k, .slice ca q1.o.length cc, .int .i64 q1.p, .int .i64 q1.q, .slice cb q1.w.length cd] 25)).heap.size = w6.heap.size + 1) := hid ⟨DB.of_new hr6, hb6.alloc hs6 _, World.size_alloc _ _⟩
   generalize w6.alloc (.cells #[.int .i64 q1.k, .slice ca q1.o.length cc, .int .i64 q1.p, .int .i64 q1.q, .slice cb q1.w.length cd] 25) = w7 at H6 ⊢
   have hz7 := H6.out.2.2
   clear h6 hr6 hb6
   go_wp2_with fail
   refine (ni s (by omega) w7 (HLr.out w7 H6.out.2.1)).mono ?_
   intro e w8 h8
   obtain ⟨da, dc, db, dd, rfl, hr8, hb8⟩ := HQ2.out _ _ _ h8
   have hs8 := hb8.size
   go_upto_region 11 with fail
   have H8 : Hid (DB 25 w8.heap.size (fun k => w7.heap.size ≤ k ∧ k < w8.heap.size) q2 #[.int .i64 q2.k, .slice da q2.o.length dc, .int .i64 q2.p, .int .i64 q2.q, .slice db q2.w.length dd] (w8.alloc (.cells #[.int .i64 q2.k, .slice da q2.o.length dc, .int .i64 q2.p, .int .i64 q2.q, .slice db q2.w.length dd] 25)) ∧ DB 25 w6.heap.size (fun k => wr.heap.size ≤ k ∧ k < w6.heap.size) q1 #[.int .i64 q1.k, .slice ca q1.o.length cc, .int .i64 q1.p, .int .i64 q1.q, .slice cb q1.w.length cd] (w8.alloc (.cells #[.int .i64 q2.k, .slice da q2.o.length dc, .int .i64 q2.p, .int .i64 q2.q, .slice db q2.w.length dd] 25)) ∧ Below wr.heap.size wr (w8.alloc (.cells #[.int .i64 q2.k, .slice da q2.o.length dc, .int .i64 q2.p, .int .i64 q2.q, .slice db q2.w.length dd] 25)) ∧ (w8.alloc (.cells #[.int .i64 q2.k, .slice da q2.o.length dc, .int .i64 q2.p, .int .i64 q2.q, .slice db q2.w.length dd] 25)).heap.size = w8.heap.size + 1) := hid (by
    have hb9 : Below w7.heap.size w7 (w8.alloc (.cells #[.int .i64 q2.k, .slice da q2.o.length dc, .int .i64 q2.p, .int .i64 q2.q, .slice db q2.w.length dd] 25)) := hb8.alloc hs8 _
    exact ⟨DB.of_new hr8, H6.out.1.below hb9 nl, H6.out.2.1.trans (hb9.mono (by omega)), World.size_alloc _ _⟩)
   generalize w8.alloc (.cells #[.int .i64 q2.k, .slice da q2.o.length dc, .int .i64 q2.p, .int .i64 q2.q, .slice db q2.w.length dd] 25) = w9 at H8 ⊢
   have hz9 := H8.out.2.2.2
   clear h8 hr8 hb8 H6
   have HX9 : Hid (DB 46 w2.heap.size (fun k => w1.heap.size ≤ k ∧ k < w2.heap.size) q1 #[.int .i64 q1.k, .slice xa q1.o.length xc, .int .i64 q1.p, .int .i64 q1.q, .slice xb q1.w.length xd] w9 ∧ DB 46 w4.heap.size (fun k => w3.heap.size ≤ k ∧ k < w4.heap.size) q2 #[.int .i64 q2.k, .slice ya q2.o.length yc, .int .i64 q2.p, .int .i64 q2.q, .slice yb q2.w.length yd] w9) := hid ⟨HR.out.2.2.2.1.below H8.out.2.2.1 nl, HR.out.2.2.2.2.below H8.out.2.2.1 nl⟩
   have lc := H8.out.2.1.lt
   have ld := H8.out.1.lt
   have lx := HX9.out.1.lt
   have ly := HX9.out.2.lt
   obtain ⟨c0, c1, c2, c3, c4⟩ := H8.out.2.1.cells
   obtain ⟨d0, d1, d2, d3, d4⟩ := H8.out.1.cells
   obtain ⟨x0, x1, x2, x3, x4⟩ := HX9.out.1.cells
   obtain ⟨y0, y1, y2, y3, y4⟩ := HX9.out.2.cells
   refine aK (w0 := w9) rfl [.eq (.int .i64 e1), .eq (.int .i64 e1), .eq (.bool false), .eq (.bool false), .eq (.int .i64 e2), .eq (.int .i64 e2), .eq (.bool false), .eq (.bool false), .eq (.bool false), .eq (.agg #[.int .i64 q1.k, .slice ca q1.o.length cc, .int .i64 q1.p, .int .i64 q1.q, .slice cb q1.w.length cd]), .of (pCf q1), .eq (.agg #[.int .i64 q1.k, .slice xa q1.o.length xc, .int .i64 q1.p, .int .i64 q1.q, .slice xb q1.w.length xd]), .eq (.bool true), .eq (.bool false), .eq (.bool false), .eq (.bool false), .eq (.agg #[.int .i64 q2.k, .slice da q2.o.length dc, .int .i64 q2.p, .int .i64 q2.q, .slice db q2.w.length dd]), .of (pCf q2), .eq (.agg #[.int .i64 q2.k, .slice ya q2.o.length yc, .int .i64 q2.p, .int .i64 q2.q, .slice yb q2.w.length yd]), .eq (.bool true), .eq (.bool false), .eq (.bool false)] (by kernel_rfl) ⟨?_, ?_, ?_, ?_, ?_, ?_, ?_, ?_, ?_, ?_, ?_, ?_, ?_, ?_, ?_, ?_, ?_, ?_, ?_, ?_, ?_, ?_, ?_, ?_, trivial⟩ (fun vs => [(50, (.int .i64 e1)), (51, (.int .i64 e1)), (52, (.bool false)), (53, (.bool false)), (54, (.int .i64 e2)), (55, (.int .i64 e2)), (56, (.bool false)), (57, (.bool false)), (58, (.bool false)), (59, (.agg #[.int .i64 q1.k, .slice ca q1.o.length cc, .int .i64 q1.p, .int .i64 q1.q, .slice cb q1.w.length cd])), (60, vs 10), (61, (.agg #[.int .i64 q1.k, .slice xa q1.o.length xc, .int .i64 q1.p, .int .i64 q1.q, .slice xb q1.w.length xd])), (62, (.bool true)), (63, (.bool false)), (64, (.bool false)), (65, (.bool false)), (66, (.agg #[.int .i64 q2.k, .slice da q2.o.length dc, .int .i64 q2.p, .int .i64 q2.q, .slice db q2.w.length dd])), (67, vs 17), (68, (.agg #[.int .i64 q2.k, .slice ya q2.o.length yc, .int .i64 q2.p, .int .i64 q2.q, .slice yb q2.w.length yd])), (69, (.bool true)), (70, (.bool false)), (71, (.bool false))]) (fun _ => rfl) ?_
   ·refine rs fun S a wx K Q hR hK => ?_
    have t12 : a.tmps[12]? = some (.int .i64 e1) := hR.o 12
    go_simp
    exact hK _ _ br rfl
   ·refine rs fun S a wx K Q hR hK => ?_
    have t7 : a.tmps[7]? = some (.int .i64 e1) := hR.o 7
    go_simp
    exact hK _ _ br rfl
   ·refine rs fun S a wx K Q hR hK => ?_
    have t50 := hR.q 0
    have t51 := hR.q 1
    go_simp
    (try go_ints)
    exact hK _ _ br rfl
   ·refine rs fun S a wx K Q hR hK => ?_
    have t52 := hR.q 2
    go_simp
    exact hK _ _ br rfl
   ·refine rs fun S a wx K Q hR hK => ?_
    have t14 : a.tmps[14]? = some (.int .i64 e2) := hR.o 14
    go_simp
    exact hK _ _ br rfl
   ·refine rs fun S a wx K Q hR hK => ?_
    have t9 : a.tmps[9]? = some (.int .i64 e2) := hR.o 9
    go_simp
    exact hK _ _ br rfl
   ·refine rs fun S a wx K Q hR hK => ?_
    have t54 := hR.q 4
    have t55 := hR.q 5
    go_simp
    (try go_ints)
    exact hK _ _ br rfl
   ·refine rs fun S a wx K Q hR hK => ?_
    have t53 := hR.q 3
    have t56 := hR.q 6
    go_simp
    exact hK _ _ br rfl
   ·refine rs fun S a wx K Q hR hK => ?_
    have t57 := hR.q 7
    go_simp
    exact hK _ _ br rfl
   ·refine rs fun S a wx K Q hR hK => ?_
    have t11 : a.tmps[11]? = some (.pointer (some ⟨w6.heap.size, 0, none⟩)) := hR.o 11
    have y0 := (hR.bel.cell lc).trans c0
    have y1 := (hR.bel.cell lc).trans c1
    have y2 := (hR.bel.cell lc).trans c2
    have y3 := (hR.bel.cell lc).trans c3
    have y4 := (hR.bel.cell lc).trans c4
    go_simp
    exact hK _ _ br rfl
   ·exact iM _
   ·refine rs fun S a wx K Q hR hK => ?_
    have t59 := hR.q 9
    go_simp
    go_at_call 18
    go_fit (df _ _ q1 _ _ (H8.out.2.1.r.below hR.bel nl) HN.out.1.1 (by have := HN.out.1.2; omega) (by have := HN.out.1.2; omega) (HLr.out wx (H8.out.2.2.1.trans (hR.bel.mono H8.out.2.2.1.size))))
    rintro e w' ⟨vt, rfl, hvt, hbt⟩
    exact hK _ _ hbt (hvt.wider (fun b _ h => hR.new b h))
   ·refine rs fun S a wx K Q hR hK => ?_
    have t6 : a.tmps[6]? = some (.pointer (some ⟨w2.heap.size, 0, none⟩)) := hR.o 6
    have y0 := (hR.bel.cell lx).trans x0
    have y1 := (hR.bel.cell lx).trans x1
    have y2 := (hR.bel.cell lx).trans x2
    have y3 := (hR.bel.cell lx).trans x3
    have y4 := (hR.bel.cell lx).trans x4
    go_simp
    exact hK _ _ br rfl
   ·refine rs fun S a wx K Q hR hK => ?_
    obtain ⟨u60, t60, f60⟩ := hR.f 10
    have t61 := hR.q 11
    go_simp
    go_at_call 53
    go_fit (bB _ _ _ _ q1 q1 _ _ _ f60 (HX9.out.1.r.below hR.bel nl))
    rintro e w' ⟨rfl, hbx⟩
    exact hK _ _ hbx (by show Value.bool _ = Value.bool true; simp)
   ·refine rs fun S a wx K Q hR hK => ?_
    have t62 := hR.q 12
    go_simp
    exact hK _ _ br rfl
   ·refine rs fun S a wx K Q hR hK => ?_
    have t58 := hR.q 8
    have t63 := hR.q 13
    go_simp
    exact hK _ _ br rfl
   ·refine rs fun S a wx K Q hR hK => ?_
    have t64 := hR.q 14
    go_simp
    exact hK _ _ br rfl
   ·refine rs fun S a wx K Q hR hK => ?_
    have t13 : a.tmps[13]? = some (.pointer (some ⟨w8.heap.size, 0, none⟩)) := hR.o 13
    have y0 := (hR.bel.cell ld).trans d0
    have y1 := (hR.bel.cell ld).trans d1
    have y2 := (hR.bel.cell ld).trans d2
    have y3 := (hR.bel.cell ld).trans d3
    have y4 := (hR.bel.cell ld).trans d4
    go_simp
    exact hK _ _ br rfl
   ·exact iM _
   ·refine rs fun S a wx K Q hR hK => ?_
    have t66 := hR.q 16
    go_simp
    go_at_call 18
    go_fit (df _ _ q2 _ _ (H8.out.1.r.below hR.bel nl) HN.out.2.1 (by have := HN.out.2.2; omega) (by have := HN.out.2.2; omega) (HLr.out wx (H8.out.2.2.1.trans (hR.bel.mono H8.out.2.2.1.size))))
    rintro e w' ⟨vt, rfl, hvt, hbt⟩
    exact hK _ _ hbt (hvt.wider (fun b _ h => hR.new b h))
   ·refine rs fun S a wx K Q hR hK => ?_
    have t8 : a.tmps[8]? = some (.pointer (some ⟨w4.heap.size, 0, none⟩)) := hR.o 8
    have y0 := (hR.bel.cell ly).trans y0
    have y1 := (hR.bel.cell ly).trans y1
    have y2 := (hR.bel.cell ly).trans y2
    have y3 := (hR.bel.cell ly).trans y3
    have y4 := (hR.bel.cell ly).trans y4
    go_simp
    exact hK _ _ br rfl
   ·refine rs fun S a wx K Q hR hK => ?_
    obtain ⟨u67, t67, f67⟩ := hR.f 17
    have t68 := hR.q 18
    go_simp
    go_at_call 53
    go_fit (bB _ _ _ _ q2 q2 _ _ _ f67 (HX9.out.2.r.below hR.bel nl))
    rintro e w' ⟨rfl, hbx⟩
    exact hK _ _ hbx (by show Value.bool _ = Value.bool true; simp)
   ·refine rs fun S a wx K Q hR hK => ?_
    have t69 := hR.q 19
    go_simp
    exact hK _ _ br rfl
   ·refine rs fun S a wx K Q hR hK => ?_
    have t65 := hR.q 15
    have t70 := hR.q 20
    go_simp
    exact hK _ _ br rfl
   intro S11 vs w10 hD
   have hs10 := hD.bel.size
   have HD := hid (And.intro (H8.out.1.below hD.bel nl) (And.intro (H8.out.2.1.below hD.bel nl) (H8.out.2.2.1.trans (hD.bel.mono H8.out.2.2.1.size))))
   simp only [aP, List.foldl_cons, List.foldl_nil]
   clear hD H8 HX9 lc ld lx ly c0 c1 c2 c3 c4 d0 d1 d2 d3 d4 x0 x1 x2 x3 x4 y0 y1 y2 y3 y4
   go_simp
   obtain ⟨c0, c1, c2, c3, c4⟩ := HD.out.2.1.cells
   go_wp2_with fail
   refine (gB wr.heap.size (fun k => wr.heap.size ≤ k ∧ k < w6.heap.size) (fun k h => h.1) q1 _ w10 HD.out.2.2.size HD.out.2.1.r).mono ?_
   rintro e w11 ⟨rfl, hb11, hk11⟩
   have HD11 := hid (HD.out.1.keep hk11 (fun h => by omega) (fun k h h' => by omega))
   have HB11 := hid (HD.out.2.2.trans hb11)
   clear hb11 hk11 c0 c1 c2 c3 c4 HD
   obtain ⟨d0, d1, d2, d3, d4⟩ := HD11.out.cells
   go_wp2_with fail
   refine (gB wr.heap.size (fun k => w7.heap.size ≤ k ∧ k < w8.heap.size) (fun k h => by omega) q2 _ w11 HB11.out.size HD11.out.r).mono ?_
   rintro e w12 ⟨rfl, hb12, _⟩
   have HB12 := hid (HQ.out.trans ((HB11.out.trans hb12).mono hsr))
   clear hb12 d0 d1 d2 d3 d4 HD11 HB11
   go_wp2_with fail
   go_roundw
   case rel => exact ⟨j + 1, by omega, by go_num, HB12⟩
   case measure => simp [intOf]; omega
  ·have hj2 : j = 2 := by omega
   subst hj2
   go_wp2_with fail
   refine (dV _ _ _ _ b b _ _ wr HR.out.2.1 HR.out.2.2.1).mono ?_
   rintro e w6 ⟨rfl, hb6⟩
   simp only [decide_true]
   go_wp2_with fail
   refine (bA w6 (HLr.out w6 hb6)).mono ?_
   rintro e w7 ⟨rfl, hb7⟩
   go_wp2_with fail
   go_ret
   exact ⟨rfl, HR.out.1.trans ((hb6.trans (hb7.mono hb6.size)).mono HR.out.1.size)⟩
end Go.Proofs.YtagnalfkmdjajaaGreatDoor
