/- The law CertTells, walked. -/
import Derived.Test.YtagnalfkmdjajaaGreatDoorY12
set_option maxHeartbeats 20000000
set_option maxRecDepth 100000
namespace Go.Proofs.YtagnalfkmdjajaaGreatDoor
open Go.RowKit Go
set_option linter.unusedVariables false
set_option linter.unusedSimpArgs false
structure DH (T : TypeId) (g : Nat) (S : Nat → Prop) (w6 : World) (c : Crt) (cs : Array Value) (w : World) : Prop where
 h : w.heap[g]? = some (.cells cs 25 (0, 0))
 r : aL w (fun b => S b ∧ IsT w6 T b) true c (.agg cs)
theorem DH.keep {T : TypeId} {g : Nat} {S K : Nat → Prop} {w6 : World} {c : Crt} {cs : Array Value} {w w' : World} (h : DH T g S w6 c cs w) (hk : eu K w w') (hg : K g) (hS : ∀ b, S b → IsT w6 T b → K b) : DH T g S w6 c cs w' :=
 ⟨(hk g hg (Array.getElem?_eq_some_iff.1 h.h).1).trans h.h, h.r.keep (fun b hb hl => hk b (hS b hb.1 hb.2) hl) (fun _ _ h => h)⟩
theorem DH.below {B : Nat} {T : TypeId} {g : Nat} {S : Nat → Prop} {w6 : World} {c : Crt} {cs : Array Value} {w w' : World} (h : DH T g S w6 c cs w) (hb : Below B w w') (hB : w.heap.size ≤ B) : DH T g S w6 c cs w' :=
 h.keep (K := fun _ => True) (Below.keeps hb hB _) trivial (fun _ _ _ => trivial)
theorem DH.cells {T : TypeId} {g : Nat} {S : Nat → Prop} {w6 : World} {c : Crt} {a0 a1 a2 a3 a4 : Value} {w : World} (h : DH T g S w6 c #[a0, a1, a2, a3, a4] w) : w.cell? ⟨g, 0, none⟩ = some a0 ∧ w.cell? ⟨g, 1, none⟩ = some a1 ∧ w.cell? ⟨g, 2, none⟩ = some a2 ∧ w.cell? ⟨g, 3, none⟩ = some a3 ∧ w.cell? ⟨g, 4, none⟩ = some a4 :=
 Cx.cells (T := 25) (S := fun b => S b ∧ IsT w6 T b) ⟨h.h, h.r.unown⟩
theorem lL (Sa Sb : Nat → Prop) (ca cb : Crt) (va vb : Value) (w : World) (ha : aL w Sa false ca va) (hb : aL w Sb false cb vb) (na : ca.nums) (nb : cb.nums) (hL : Lq w.heap.size w) :
  Calls Tryz.prog 20 #[va, vb] w fun e w' => e = .returned (.bool true) ∧ Below w.heap.size w w' := by
 obtain ⟨ad, cp, ad', cp', rfl, _⟩ := ha.shape
 obtain ⟨bd, dp, bd', dp', rfl, _⟩ := hb.shape
 have hbX : Below w.heap.size w ((w.alloc (.cells #[.int .i64 ca.k, .slice ad ca.o.length cp, .int .i64 ca.p, .int .i64 ca.q, .slice ad' ca.w.length cp'] 25)).alloc (.cells #[.int .i64 cb.k, .slice bd cb.o.length dp, .int .i64 cb.p, .int .i64 cb.q, .slice bd' cb.w.length dp'] 25)) := (br.alloc nl _).alloc (by simp) _
 obtain ⟨W, hW⟩ : ∃ W, W = ((w.alloc (.cells #[.int .i64 ca.k, .slice ad ca.o.length cp, .int .i64 ca.p, .int .i64 ca.q, .slice ad' ca.w.length cp'] 25)).alloc (.cells #[.int .i64 cb.k, .slice bd cb.o.length dp, .int .i64 cb.p, .int .i64 cb.q, .slice bd' cb.w.length dp'] 25)) := ⟨_, rfl⟩
 rw [← hW] at hbX
 have hk : KK w Sa Sb ca cb #[.int .i64 ca.k, .slice ad ca.o.length cp, .int .i64 ca.p, .int .i64 ca.q, .slice ad' ca.w.length cp'] #[.int .i64 cb.k, .slice bd cb.o.length dp, .int .i64 cb.p, .int .i64 cb.q, .slice bd' cb.w.length dp'] W := by
  refine ⟨⟨?_, ha.below hbX nl⟩, ⟨?_, hb.below hbX nl⟩, hL.below hbX, hbX⟩
  ·rw [hW]; exact (aU _ _ _ (by simp)).trans (az _ _ _ rfl)
  ·rw [hW]; exact az _ _ _ (by simp)
 have HK := hid hk
 have HN := hid (And.intro na nb)
 have la := hk.pa.lt
 have lb := hk.pb.lt
 obtain ⟨p0, p1, p2, p3, p4⟩ := hk.pa.cells
 obtain ⟨q0, q1, q2, q3, q4⟩ := hk.pb.cells
 clear ha hb hL na nb hk hbX
 go_enter Tryz.func20, Tryz.ntmps20
 go_wp2_with fail
 rw [← hW]
 clear hW
 go_wp2_with fail
 refine (kT _ _ _ _ _ _ _ _ _ _).mono ?_
 rintro e w1 ⟨rfl, hb1⟩
 have HK1 := hid (HK.out.below hb1)
 clear hb1 p0 p1 p2 p3 p4 q0 q1 q2 q3 q4 la lb HK
 generalize hfa : (decide (ca.o.length ≤ 40) && decide (ca.w.length ≤ 40)) = fa
 cases fa with
 | false =>
  go_wp2_with fail
  refine (bA w1 HK1.out.lqAt).mono ?_
  rintro e w2 ⟨rfl, hb2⟩
  go_wp2_with fail
  go_ret
  exact ⟨rfl, HK1.out.bel.trans (hb2.mono HK1.out.bel.size)⟩
 | true =>
  have la := HK1.out.pa.lt
  have lb := HK1.out.pb.lt
  obtain ⟨p0, p1, p2, p3, p4⟩ := HK1.out.pa.cells
  obtain ⟨q0, q1, q2, q3, q4⟩ := HK1.out.pb.cells
  go_wp2_with fail
  refine (kT _ _ _ _ _ _ _ _ _ _).mono ?_
  rintro e w2 ⟨rfl, hb2⟩
  have HK2 := hid (HK1.out.below hb2)
  clear hb2 p0 p1 p2 p3 p4 q0 q1 q2 q3 q4 la lb HK1
  generalize hfb : (decide (cb.o.length ≤ 40) && decide (cb.w.length ≤ 40)) = fb
  cases fb with
  | false =>
   go_wp2_with fail
   refine (bA w2 HK2.out.lqAt).mono ?_
   rintro e w3 ⟨rfl, hb3⟩
   go_wp2_with fail
   go_ret
   exact ⟨rfl, HK2.out.bel.trans (hb3.mono HK2.out.bel.size)⟩
  | true =>
   simp only [Bool.and_eq_true, decide_eq_true_eq] at hfa hfb
   obtain ⟨ao, aw⟩ := hfa
   obtain ⟨bo, bw⟩ := hfb
   have la := HK2.out.pa.lt
   have lb := HK2.out.pb.lt
   obtain ⟨p0, p1, p2, p3, p4⟩ := HK2.out.pa.cells
   obtain ⟨q0, q1, q2, q3, q4⟩ := HK2.out.pb.cells
   have hinf : (Tryz.prog.info? 46).map (·.size) = some 5 := by kernel_rfl
   have hinc : (Tryz.prog.info? 25).map (·.size) = some 5 := by kernel_rfl
   go_wp2_with fail
   refine aK (w0 := w2) rfl [.eq (.agg #[.int .i64 ca.k, .slice ad ca.o.length cp, .int .i64 ca.p, .int .i64 ca.q, .slice ad' ca.w.length cp']), .of (pCf ca), .eq (.agg #[.int .i64 cb.k, .slice bd cb.o.length dp, .int .i64 cb.p, .int .i64 cb.q, .slice bd' cb.w.length dp']), .of (pCf cb), .box 46 #[.int .i64 0, .slice none 0 0, .int .i64 0, .int .i64 0, .slice none 0 0], .box 46 #[.int .i64 0, .slice none 0 0, .int .i64 0, .int .i64 0, .slice none 0 0], .sto 4 1, .sto 5 3] (by kernel_rfl) ⟨?_, ?_, ?_, ?_, ?_, ?_, ?_, ?_, ?_, ?_, trivial⟩ (fun vs => [(23, (.agg #[.int .i64 ca.k, .slice ad ca.o.length cp, .int .i64 ca.p, .int .i64 ca.q, .slice ad' ca.w.length cp'])), (24, vs 1), (25, (.agg #[.int .i64 cb.k, .slice bd cb.o.length dp, .int .i64 cb.p, .int .i64 cb.q, .slice bd' cb.w.length dp'])), (26, vs 3), (5, vs 4), (6, vs 5)]) (fun _ => rfl) ?_
   ·refine rs fun S a wx K Q hR hK => ?_
    have t2 : a.tmps[2]? = some (.pointer (some ⟨w.heap.size, 0, none⟩)) := hR.o 2
    have y0 := (hR.bel.cell la).trans p0
    have y1 := (hR.bel.cell la).trans p1
    have y2 := (hR.bel.cell la).trans p2
    have y3 := (hR.bel.cell la).trans p3
    have y4 := (hR.bel.cell la).trans p4
    go_simp
    exact hK _ _ br rfl
   ·exact iM _
   ·refine rs fun S a wx K Q hR hK => ?_
    have t23 := hR.q 0
    go_simp
    go_at_call 18
    go_fit (df _ _ ca _ _ (HK2.out.pa.r.below hR.bel nl) HN.out.1 (by omega) (by omega) (HK2.out.below hR.bel).lqAt)
    rintro e w' ⟨vt, rfl, hvt, hbt⟩
    exact hK _ _ hbt (hvt.wider (fun b _ h => hR.new b h))
   ·refine rs fun S a wx K Q hR hK => ?_
    have t3 : a.tmps[3]? = some (.pointer (some ⟨w.heap.size + 1, 0, none⟩)) := hR.o 3
    have y0 := (hR.bel.cell lb).trans q0
    have y1 := (hR.bel.cell lb).trans q1
    have y2 := (hR.bel.cell lb).trans q2
    have y3 := (hR.bel.cell lb).trans q3
    have y4 := (hR.bel.cell lb).trans q4
    go_simp
    exact hK _ _ br rfl
   ·exact iM _
   ·refine rs fun S a wx K Q hR hK => ?_
    have t25 := hR.q 2
    go_simp
    go_at_call 18
    go_fit (df _ _ cb _ _ (HK2.out.pb.r.below hR.bel nl) HN.out.2 (by omega) (by omega) (HK2.out.below hR.bel).lqAt)
    rintro e w' ⟨vt, rfl, hvt, hbt⟩
    exact hK _ _ hbt (hvt.wider (fun b _ h => hR.new b h))
   ·intro w; kernel_rfl
   ·intro w; kernel_rfl
   ·exact StoOK.mk rfl rfl rfl hinf uz
   ·exact StoOK.mk rfl rfl rfl hinf uz
   intro S3 vs wd hD
   obtain ⟨g, cs, e5, _, _, hg3, e24, _⟩ := hD.box 6 4 1 _ _ rfl rfl
   obtain ⟨g', cs', e6, _, _, hg3', e26, _⟩ := hD.box 7 5 3 _ _ rfl rfl
   have r1 : aL wd S3 true ca (vs 1) := hD.ofs 1 _ rfl
   have r3 : aL wd S3 true cb (vs 3) := hD.ofs 3 _ rfl
   rw [e24] at r1
   rw [e26] at r3
   obtain ⟨xd, xp, xd', xp', ec, _⟩ := r1.shape
   obtain ⟨yd, yp, yd', yp', ed, _⟩ := r3.shape
   injection ec with ec
   injection ed with ed
   subst ec ed
   have e5' : vs 4 = .pointer (some ⟨g, 0, none⟩) := e5
   have e6' : vs 5 = .pointer (some ⟨g', 0, none⟩) := e6
   have HX : Hid (Cx 46 g (fun _ => True) ca #[.int .i64 ca.k, .slice xd ca.o.length xp, .int .i64 ca.p, .int .i64 ca.q, .slice xd' ca.w.length xp'] wd ∧ Cx 46 g' (fun _ => True) cb #[.int .i64 cb.k, .slice yd cb.o.length yp, .int .i64 cb.p, .int .i64 cb.q, .slice yd' cb.w.length yp'] wd) := hid ⟨⟨hg3, (r1.wider (fun _ _ _ => trivial)).unown⟩, ⟨hg3', (r3.wider (fun _ _ _ => trivial)).unown⟩⟩
   have HK3 := hid (HK2.out.below hD.bel)
   simp only [e5', e6', e24, e26, aP, List.foldl_cons, List.foldl_nil]
   clear hD e5 e6 e5' e6' e24 e26 r1 r3 hg3 hg3' HK2 p0 p1 p2 p3 p4 q0 q1 q2 q3 q4 la lb
   have lx := HX.out.1.lt
   obtain ⟨x0, x1, x2, x3, x4⟩ := HX.out.1.cells
   go_simp
   go_wp2_with fail
   refine (iJ _ _ ca _ _ HX.out.1.r HN.out.1 (by omega) (by omega) HK3.out.lqAt).mono ?_
   rintro e w4 hput
   obtain ⟨wv, rfl, hwr, hb4⟩ := hput.uni
   have HK4 := hid (HK3.out.below hb4)
   have HX4 := hid (And.intro (HX.out.1.below hb4 nl) (HX.out.2.below hb4 nl))
   have HWR : Hid (au w4 (fun _ => True) false ca.put wv) := hid (Sl.unown (Sl.keep hwr (by omega) (fun _ _ _ => rfl) (fun _ _ _ => trivial)))
   clear hput hwr hb4 HK3 HX lx x0 x1 x2 x3 x4
   obtain ⟨er, her⟩ : ∃ er, er = ca.err := ⟨_, rfl⟩
   rw [← her]
   have HER := hid her
   clear her
   go_wp2_with fail
   go_loopw [9] (fun t wr => ∃ j : Nat, j ≤ 2 ∧ t = .int .i64 j ∧ Hid (Below w4.heap.size w4 wr)) (fun t _ => 2 - (intOf t).toNat)
   case atStart => exact ⟨0, by omega, rfl, hid br⟩
   case round =>
    obtain ⟨j, hj, rfl, HQ⟩ := hrel
    have HKr := hid (HK4.out.below HQ.out)
    have HXr := hid (And.intro (HX4.out.1.below HQ.out nl) (HX4.out.2.below HQ.out nl))
    have HWr : Hid (au wr (fun _ => True) false ca.put wv) := hid (HWR.out.below HQ.out nl)
    have la := HKr.out.pa.lt
    have lb := HKr.out.pb.lt
    obtain ⟨p0, p1, p2, p3, p4⟩ := HKr.out.pa.cells
    obtain ⟨q0, q1, q2, q3, q4⟩ := HKr.out.pb.cells
    by_cases hlt : j < 2
    ·go_wp2_with fail
     refine (bU _ _ ca _ _ HKr.out.pa.r HN.out.1 (by omega) HKr.out.lqAt).mono ?_
     rintro e w5 hput
     obtain ⟨lv, rfl, hlr, hb5⟩ := hput.uni
     rw [← HER.out]
     have HB5 := hid hb5
     have HK5 := hid (HKr.out.below hb5)
     have HX5 := hid (And.intro (HXr.out.1.below hb5 nl) (HXr.out.2.below hb5 nl))
     have HW5 : Hid (au w5 (fun _ => True) false ca.put wv) := hid (HWr.out.below hb5 nl)
     have HL5 : Hid (au w5 (fun b => wr.heap.size ≤ b ∧ b < w5.heap.size) true ca.put lv) := hid (Sl.keep hlr (by omega) (fun _ _ _ => rfl) (fun b h1 h2 => ⟨h2, h1⟩))
     clear hput hlr hb5 HKr HXr HWr p0 p1 p2 p3 p4 q0 q1 q2 q3 q4 la lb
     obtain ⟨C1, hC1⟩ : ∃ C1 : Crt, C1 = ⟨1, ca.o, 0, 0, []⟩ := ⟨_, rfl⟩
     obtain ⟨C2, hC2⟩ : ∃ C2 : Crt, C2 = ⟨4, [], 0, 0, ca.w⟩ := ⟨_, rfl⟩
     have HC := hid (And.intro hC1 hC2)
     have HCn : Hid (C1.nums ∧ C2.nums ∧ C1.o.length ≤ 40 ∧ C1.w.length ≤ 40 ∧ C2.o.length ≤ 40 ∧ C2.w.length ≤ 40) := hid (by
      obtain ⟨n1, n2, n3, n4, n5⟩ := HN.out.1
      rw [hC1, hC2]
      have i0 : i64 0 := by unfold i64; omega
      have i1 : i64 1 := by unfold i64; omega
      have i4 : i64 4 := by unfold i64; omega
      exact ⟨⟨i1, i0, i0, n4, by intro n h; exact absurd h (by simp)⟩, ⟨i4, i0, i0, by intro n h; exact absurd h (by simp), n5⟩, ao, by simp, by simp, aw⟩)
     clear hC1 hC2
     have la := HK5.out.pa.lt
     obtain ⟨p0, p1, p2, p3, p4⟩ := HK5.out.pa.cells
     go_wp2_with fail
     refine aK (w0 := w5) rfl [.eq (.pointer (some ⟨w.heap.size, 1, none⟩)), .eq (.slice ad ca.o.length cp), .of (pCT 3 C1), .eq (.pointer (some ⟨w.heap.size, 4, none⟩)), .eq (.slice ad' ca.w.length cp'), .of (pCT 54 C2), .box 25 #[.int .i64 0, .slice none 0 0, .int .i64 0, .int .i64 0, .slice none 0 0], .box 25 #[.int .i64 0, .slice none 0 0, .int .i64 0, .int .i64 0, .slice none 0 0], .sto 6 2, .sto 7 5] (by kernel_rfl) ⟨?_, ?_, ?_, ?_, ?_, ?_, ?_, ?_, ?_, ?_, ?_, ?_, trivial⟩ (fun vs => [(41, (.pointer (some ⟨w.heap.size, 1, none⟩))), (42, (.slice ad ca.o.length cp)), (43, vs 2), (44, (.pointer (some ⟨w.heap.size, 4, none⟩))), (45, (.slice ad' ca.w.length cp')), (46, vs 5), (12, vs 6), (13, vs 7)]) (fun _ => rfl) ?_
     ·refine rs fun S a wx K Q hR hK => ?_
      have t2 : a.tmps[2]? = some (.pointer (some ⟨w.heap.size, 0, none⟩)) := hR.o 2
      go_simp
      exact hK _ _ br rfl
     ·refine rs fun S a wx K Q hR hK => ?_
      have t41 := hR.q 0
      have y0 := (hR.bel.cell la).trans p1
      go_simp
      exact hK _ _ br rfl
     ·exact xy _ _
     ·refine rs fun S a wx K Q hR hK => ?_
      have t42 := hR.q 1
      go_simp
      go_at_call 22
      go_fit (xx _ _ ca.o _ _ (aL.rows (HK5.out.pa.r.below hR.bel nl)).1 (by omega))
      rintro e w' ⟨vt, rfl, hvt, hbt⟩
      rw [← HC.out.1] at hvt
      exact hK _ _ hbt (hvt.wider (fun b _ h => ⟨hR.new b h.1, h.2⟩))
     ·refine rs fun S a wx K Q hR hK => ?_
      have t2 : a.tmps[2]? = some (.pointer (some ⟨w.heap.size, 0, none⟩)) := hR.o 2
      go_simp
      exact hK _ _ br rfl
     ·refine rs fun S a wx K Q hR hK => ?_
      have t44 := hR.q 3
      have y0 := (hR.bel.cell la).trans p4
      go_simp
      exact hK _ _ br rfl
     ·exact xy _ _
     ·refine rs fun S a wx K Q hR hK => ?_
      have t45 := hR.q 4
      go_simp
      go_at_call 23
      go_fit (qR _ _ ca.w _ _ (aL.rows (HK5.out.pa.r.below hR.bel nl)).2 (by omega))
      rintro e w' ⟨vt, rfl, hvt, hbt⟩
      rw [← HC.out.2] at hvt
      exact hK _ _ hbt (hvt.wider (fun b _ h => ⟨hR.new b h.1, h.2⟩))
     ·intro w; kernel_rfl
     ·intro w; kernel_rfl
     ·exact StoOK.mk rfl rfl rfl hinc uA
     ·exact StoOK.mk rfl rfl rfl hinc uA
     intro S9 vs w6 hD
     obtain ⟨gc, cs, e12, hlc, _, hg3, e43, _⟩ := hD.box 8 6 2 _ _ rfl rfl
     obtain ⟨gd, cs', e13, hld, _, hg3', e46, _⟩ := hD.box 9 7 5 _ _ rfl rfl
     have r1 : aL w6 (fun b => S9 b ∧ IsT w6 3 b) true C1 (vs 2) := hD.ofs 2 _ rfl
     have r3 : aL w6 (fun b => S9 b ∧ IsT w6 54 b) true C2 (vs 5) := hD.ofs 5 _ rfl
     rw [e43] at r1
     rw [e46] at r3
     obtain ⟨ud, up, ud', up', ec, _⟩ := r1.shape
     obtain ⟨vd, vp, vd', vp', ed, _⟩ := r3.shape
     injection ec with ec
     injection ed with ed
     subst ec ed
     have e12' : vs 6 = .pointer (some ⟨gc, 0, none⟩) := e12
     have e13' : vs 7 = .pointer (some ⟨gd, 0, none⟩) := e13
     have HD6 : Hid (DH 3 gc S9 w6 C1 #[.int .i64 C1.k, .slice ud C1.o.length up, .int .i64 C1.p, .int .i64 C1.q, .slice ud' C1.w.length up'] w6 ∧ DH 54 gd S9 w6 C2 #[.int .i64 C2.k, .slice vd C2.o.length vp, .int .i64 C2.p, .int .i64 C2.q, .slice vd' C2.w.length vp'] w6) := hid ⟨⟨hg3, r1⟩, ⟨hg3', r3⟩⟩
     have HG := hid (And.intro hlc (And.intro hld (And.intro hD.low (And.intro hg3 hg3'))))
     have HB6 := hid (HB5.out.trans (hD.bel.mono HB5.out.size))
     have HK6 := hid (HK5.out.below hD.bel)
     have HX6 := hid (And.intro (HX5.out.1.below hD.bel nl) (HX5.out.2.below hD.bel nl))
     have HW6 : Hid (au w6 (fun _ => True) false ca.put wv) := hid (HW5.out.below hD.bel nl)
     have HL6 : Hid (au w6 (fun b => wr.heap.size ≤ b ∧ b < w5.heap.size) true ca.put lv) := hid (HL5.out.below hD.bel nl)
     simp only [e12', e13', e43, e46, aP, List.foldl_cons, List.foldl_nil]
     clear hD e12 e13 e12' e13' e43 e46 r1 r3 hg3 hg3' HK5 HX5 HW5 HL5 p0 p1 p2 p3 p4 la hlc hld
     generalize vs 2 = v43
     generalize vs 5 = v46
     have lc : gc < w6.heap.size := (Array.getElem?_eq_some_iff.1 HD6.out.1.h).1
     have ld : gd < w6.heap.size := (Array.getElem?_eq_some_iff.1 HD6.out.2.h).1
     obtain ⟨c0, c1, c2, c3, c4⟩ := HD6.out.1.cells
     obtain ⟨d0, d1, d2, d3, d4⟩ := HD6.out.2.cells
     have lx := HX6.out.1.lt
     obtain ⟨x0, x1, x2, x3, x4⟩ := HX6.out.1.cells
     go_simp
     (try (go_wp2_with fail))
     refine aK (w0 := w6) rfl [.eq (.int .i64 er), .eq (.int .i64 er), .eq (.bool false), .eq (.bool false), .eq (lv), .eq (wv), .eq (.bool true), .eq (.bool false), .eq (.bool false), .eq (.bool false), .eq (.agg #[.int .i64 C1.k, .slice ud C1.o.length up, .int .i64 C1.p, .int .i64 C1.q, .slice ud' C1.w.length up']), .of (pCf C1), .eq (.pointer (some ⟨g, 1, none⟩)), .eq (.slice xd ca.o.length xp), .eq (.agg #[.int .i64 1, .slice xd ca.o.length xp, .int .i64 0, .int .i64 0, .slice none 0 0]), .eq (.bool true), .eq (.bool false), .eq (.bool false), .eq (.bool false), .eq (.agg #[.int .i64 C2.k, .slice vd C2.o.length vp, .int .i64 C2.p, .int .i64 C2.q, .slice vd' C2.w.length vp']), .of (pCf C2), .eq (.pointer (some ⟨g, 4, none⟩)), .eq (.slice xd' ca.w.length xp'), .eq (.agg #[.int .i64 4, .slice none 0 0, .int .i64 0, .int .i64 0, .slice xd' ca.w.length xp']), .eq (.bool true), .eq (.bool false), .eq (.bool false)] (by kernel_rfl) ⟨?_, ?_, ?_, ?_, ?_, ?_, ?_, ?_, ?_, ?_, ?_, ?_, ?_, ?_, ?_, ?_, ?_, ?_, ?_, ?_, ?_, ?_, ?_, ?_, ?_, ?_, ?_, ?_, ?_, trivial⟩ (fun vs => [(47, (.int .i64 er)), (48, (.int .i64 er)), (49, (.bool false)), (50, (.bool false)), (51, (lv)), (52, (wv)), (53, (.bool true)), (54, (.bool false)), (55, (.bool false)), (56, (.bool false)), (57, (.agg #[.int .i64 C1.k, .slice ud C1.o.length up, .int .i64 C1.p, .int .i64 C1.q, .slice ud' C1.w.length up'])), (58, vs 11), (59, (.pointer (some ⟨g, 1, none⟩))), (60, (.slice xd ca.o.length xp)), (61, (.agg #[.int .i64 1, .slice xd ca.o.length xp, .int .i64 0, .int .i64 0, .slice none 0 0])), (62, (.bool true)), (63, (.bool false)), (64, (.bool false)), (65, (.bool false)), (66, (.agg #[.int .i64 C2.k, .slice vd C2.o.length vp, .int .i64 C2.p, .int .i64 C2.q, .slice vd' C2.w.length vp'])), (67, vs 20), (68, (.pointer (some ⟨g, 4, none⟩))), (69, (.slice xd' ca.w.length xp')), (70, (.agg #[.int .i64 4, .slice none 0 0, .int .i64 0, .int .i64 0, .slice xd' ca.w.length xp'])), (71, (.bool true)), (72, (.bool false)), (73, (.bool false))]) (fun _ => rfl) ?_
     ·refine rs fun S a wx K Q hR hK => ?_
      have t11 : a.tmps[11]? = some (.int .i64 er) := hR.o 11
      go_simp
      exact hK _ _ br rfl
     ·refine rs fun S a wx K Q hR hK => ?_
      have t8 : a.tmps[8]? = some (.int .i64 er) := hR.o 8
      go_simp
      exact hK _ _ br rfl
     ·refine rs fun S a wx K Q hR hK => ?_
      have t47 := hR.q 0
      have t48 := hR.q 1
      go_simp
      (try go_ints)
      exact hK _ _ br rfl
     ·refine rs fun S a wx K Q hR hK => ?_
      have t49 := hR.q 2
      go_simp
      exact hK _ _ br rfl
     ·refine rs fun S a wx K Q hR hK => ?_
      have t10 : a.tmps[10]? = some (lv) := hR.o 10
      go_simp
      exact hK _ _ br rfl
     ·refine rs fun S a wx K Q hR hK => ?_
      have t7 : a.tmps[7]? = some (wv) := hR.o 7
      go_simp
      exact hK _ _ br rfl
     ·refine rs fun S a wx K Q hR hK => ?_
      have t51 := hR.q 4
      have t52 := hR.q 5
      go_simp
      go_at_call 13
      go_fit (dV _ _ _ _ ca.put ca.put _ _ _ (HL6.out.below hR.bel nl) (HW6.out.below hR.bel nl))
      rintro e w' ⟨rfl, hbx⟩
      exact hK _ _ hbx (by show Value.bool _ = Value.bool true; simp)
     ·refine rs fun S a wx K Q hR hK => ?_
      have t53 := hR.q 6
      go_simp
      exact hK _ _ br rfl
     ·refine rs fun S a wx K Q hR hK => ?_
      have t50 := hR.q 3
      have t54 := hR.q 7
      go_simp
      exact hK _ _ br rfl
     ·refine rs fun S a wx K Q hR hK => ?_
      have t55 := hR.q 8
      go_simp
      exact hK _ _ br rfl
     ·refine rs fun S a wx K Q hR hK => ?_
      have t12 : a.tmps[12]? = some (.pointer (some ⟨gc, 0, none⟩)) := hR.o 12
      have y0 := (hR.bel.cell lc).trans c0
      have y1 := (hR.bel.cell lc).trans c1
      have y2 := (hR.bel.cell lc).trans c2
      have y3 := (hR.bel.cell lc).trans c3
      have y4 := (hR.bel.cell lc).trans c4
      go_simp
      exact hK _ _ br rfl
     ·exact iM _
     ·refine rs fun S a wx K Q hR hK => ?_
      have t57 := hR.q 10
      go_simp
      go_at_call 18
      go_fit (df _ _ C1 _ _ (HD6.out.1.r.below hR.bel nl) HCn.out.1 (by have := HCn.out; omega) (by have := HCn.out; omega) (HK6.out.below hR.bel).lqAt)
      rintro e w' ⟨vt, rfl, hvt, hbt⟩
      exact hK _ _ hbt (hvt.wider (fun b _ h => hR.new b h))
     ·refine rs fun S a wx K Q hR hK => ?_
      have t5 : a.tmps[5]? = some (.pointer (some ⟨g, 0, none⟩)) := hR.o 5
      go_simp
      exact hK _ _ br rfl
     ·refine rs fun S a wx K Q hR hK => ?_
      have t59 := hR.q 12
      have y0 := (hR.bel.cell lx).trans x1
      go_simp
      exact hK _ _ br rfl
     ·refine rs fun S a wx K Q hR hK => ?_
      have t60 := hR.q 13
      go_simp
      exact hK _ _ br rfl
     ·refine rs fun S a wx K Q hR hK => ?_
      obtain ⟨u58, t58, f58⟩ := hR.f 11
      have t61 := hR.q 14
      go_simp
      go_at_call 53
      go_fit (bB _ _ _ _ C1 C1 _ _ _ f58 (show aL wx (fun _ => True) false C1 _ from by rw [HC.out.1]; exact ⟨_, _, rfl, (aL.rows (HX6.out.1.r.below hR.bel nl)).1, aX.nil _ _ _⟩))
      rintro e w' ⟨rfl, hbx⟩
      exact hK _ _ hbx (by show Value.bool _ = Value.bool true; simp)
     ·refine rs fun S a wx K Q hR hK => ?_
      have t62 := hR.q 15
      go_simp
      exact hK _ _ br rfl
     ·refine rs fun S a wx K Q hR hK => ?_
      have t56 := hR.q 9
      have t63 := hR.q 16
      go_simp
      exact hK _ _ br rfl
     ·refine rs fun S a wx K Q hR hK => ?_
      have t64 := hR.q 17
      go_simp
      exact hK _ _ br rfl
     ·refine rs fun S a wx K Q hR hK => ?_
      have t13 : a.tmps[13]? = some (.pointer (some ⟨gd, 0, none⟩)) := hR.o 13
      have y0 := (hR.bel.cell ld).trans d0
      have y1 := (hR.bel.cell ld).trans d1
      have y2 := (hR.bel.cell ld).trans d2
      have y3 := (hR.bel.cell ld).trans d3
      have y4 := (hR.bel.cell ld).trans d4
      go_simp
      exact hK _ _ br rfl
     ·exact iM _
     ·refine rs fun S a wx K Q hR hK => ?_
      have t66 := hR.q 19
      go_simp
      go_at_call 18
      go_fit (df _ _ C2 _ _ (HD6.out.2.r.below hR.bel nl) HCn.out.2.1 (by have := HCn.out; omega) (by have := HCn.out; omega) (HK6.out.below hR.bel).lqAt)
      rintro e w' ⟨vt, rfl, hvt, hbt⟩
      exact hK _ _ hbt (hvt.wider (fun b _ h => hR.new b h))
     ·refine rs fun S a wx K Q hR hK => ?_
      have t5 : a.tmps[5]? = some (.pointer (some ⟨g, 0, none⟩)) := hR.o 5
      go_simp
      exact hK _ _ br rfl
     ·refine rs fun S a wx K Q hR hK => ?_
      have t68 := hR.q 21
      have y0 := (hR.bel.cell lx).trans x4
      go_simp
      exact hK _ _ br rfl
     ·refine rs fun S a wx K Q hR hK => ?_
      have t69 := hR.q 22
      go_simp
      exact hK _ _ br rfl
     ·refine rs fun S a wx K Q hR hK => ?_
      obtain ⟨u67, t67, f67⟩ := hR.f 20
      have t70 := hR.q 23
      go_simp
      go_at_call 53
      go_fit (bB _ _ _ _ C2 C2 _ _ _ f67 (show aL wx (fun _ => True) false C2 _ from by rw [HC.out.2]; exact ⟨_, _, rfl, bn.nil _ _ _, (aL.rows (HX6.out.1.r.below hR.bel nl)).2⟩))
      rintro e w' ⟨rfl, hbx⟩
      exact hK _ _ hbx (by show Value.bool _ = Value.bool true; simp)
     ·refine rs fun S a wx K Q hR hK => ?_
      have t71 := hR.q 24
      go_simp
      exact hK _ _ br rfl
     ·refine rs fun S a wx K Q hR hK => ?_
      have t65 := hR.q 18
      have t72 := hR.q 25
      go_simp
      exact hK _ _ br rfl
     intro S10 vs w7 hD
     have HB7 := hid (HB6.out.trans (hD.bel.mono HB6.out.size))
     have HD7 := hid (And.intro (HD6.out.1.below hD.bel nl) (HD6.out.2.below hD.bel nl))
     have HL7 : Hid (au w7 (fun b => wr.heap.size ≤ b ∧ b < w5.heap.size) true ca.put lv) := hid (HL6.out.below hD.bel nl)
     simp only [aP, List.foldl_cons, List.foldl_nil]
     clear hD HD6 HL6 HB6 HX6 HW6 HK6 c0 c1 c2 c3 c4 d0 d1 d2 d3 d4 x0 x1 x2 x3 x4 lc ld lx
     go_simp
     go_wp2_with fail
     refine (qy wr.heap.size w5.heap.size (fun b => wr.heap.size ≤ b ∧ b < w5.heap.size) (fun b h => h) ca.put _ _ HB5.out.size HL7.out).mono ?_
     rintro e w8 ⟨rfl, hb8, hk8⟩
     have HB8 := hid (HB7.out.trans hb8)
     have HD8 := hid (And.intro (HD7.out.1.keep hk8 (fun h => by have := HG.out.1; omega) (fun b h _ h' => by have := HG.out.2.2.1 b h; omega)) (HD7.out.2.keep hk8 (fun h => by have := HG.out.2.1; omega) (fun b h _ h' => by have := HG.out.2.2.1 b h; omega)))
     clear hb8 hk8 HB7 HD7 HL7
     obtain ⟨c0, c1, c2, c3, c4⟩ := HD8.out.1.cells
     go_wp2_with fail
     refine (gB wr.heap.size (fun b => S9 b ∧ IsT w6 3 b) (fun b h => by have := HG.out.2.2.1 b h.1; have := HB5.out.size; omega) C1 _ _ HB8.out.size HD8.out.1.r).mono ?_
     rintro e w9 ⟨rfl, hb9, hk9⟩
     have HB9 := hid (HB8.out.trans hb9)
     have HD9 := hid (HD8.out.2.keep hk9 (fun h => by have h := h.2.ne ⟨_, _, HG.out.2.2.2.2⟩; revert h; decide) (fun b _ h2 h => by have h := h.2.ne h2; revert h; decide))
     clear hb9 hk9 HB8 HD8 c0 c1 c2 c3 c4
     obtain ⟨d0, d1, d2, d3, d4⟩ := HD9.out.cells
     go_wp2_with fail
     refine (gB wr.heap.size (fun b => S9 b ∧ IsT w6 54 b) (fun b h => by have := HG.out.2.2.1 b h.1; have := HB5.out.size; omega) C2 _ _ HB9.out.size HD9.out.r).mono ?_
     rintro e w10 ⟨rfl, hb10, _⟩
     have HB10 := hid (HQ.out.trans ((HB9.out.trans hb10).mono HQ.out.size))
     clear hb10 HB9 HD9 d0 d1 d2 d3 d4
     go_wp2_with fail
     go_roundw
     case rel => exact ⟨j + 1, by omega, by go_num, HB10⟩
     case measure => simp [intOf]; omega
    ·have hj2 : j = 2 := by omega
     subst hj2
     have lx := HXr.out.1.lt
     obtain ⟨x0, x1, x2, x3, x4⟩ := HXr.out.1.cells
     have ly := HXr.out.2.lt
     obtain ⟨y0, y1, y2, y3, y4⟩ := HXr.out.2.cells
     go_wp2_with fail
     refine aK (w0 := wr) rfl ((.eq (.agg #[.int .i64 ca.k, .slice ad ca.o.length cp, .int .i64 ca.p, .int .i64 ca.q, .slice ad' ca.w.length cp'])) :: (.eq (.bool ca.right)) :: (.eq (.agg #[.int .i64 ca.k, .slice xd ca.o.length xp, .int .i64 ca.p, .int .i64 ca.q, .slice xd' ca.w.length xp'])) :: (.eq (.bool ca.right)) :: (.eq (.bool true)) :: (.eq (.bool true)) :: (.eq (.agg #[.int .i64 ca.k, .slice ad ca.o.length cp, .int .i64 ca.p, .int .i64 ca.q, .slice ad' ca.w.length cp'])) :: (.eq (.string ⟨ca.text.toArray⟩)) :: (.eq (.agg #[.int .i64 ca.k, .slice xd ca.o.length xp, .int .i64 ca.p, .int .i64 ca.q, .slice xd' ca.w.length xp'])) :: (.eq (.string ⟨ca.text.toArray⟩)) :: (.eq (.bool true)) :: (.eq (.bool true)) :: (.eq (.bool true)) :: (.eq (.agg #[.int .i64 ca.k, .slice ad ca.o.length cp, .int .i64 ca.p, .int .i64 ca.q, .slice ad' ca.w.length cp'])) :: (.eq (.agg #[.int .i64 cb.k, .slice bd cb.o.length dp, .int .i64 cb.p, .int .i64 cb.q, .slice bd' cb.w.length dp'])) :: (.eq (.bool (decide (ca = cb)))) :: (.eq (.agg #[.int .i64 ca.k, .slice xd ca.o.length xp, .int .i64 ca.p, .int .i64 ca.q, .slice xd' ca.w.length xp'])) :: (.eq (.agg #[.int .i64 cb.k, .slice yd cb.o.length yp, .int .i64 cb.p, .int .i64 cb.q, .slice yd' cb.w.length yp'])) :: (.eq (.bool (decide (ca = cb)))) :: (.eq (.bool true)) :: (.eq (.bool true)) :: (.eq (.bool true)) :: (.eq (.agg #[.int .i64 ca.k, .slice ad ca.o.length cp, .int .i64 ca.p, .int .i64 ca.q, .slice ad' ca.w.length cp'])) :: (.eq (.agg #[.int .i64 ca.k, .slice ad ca.o.length cp, .int .i64 ca.p, .int .i64 ca.q, .slice ad' ca.w.length cp'])) :: (.eq (.bool true)) :: (.eq (.bool true)) :: (.eq (.bool true)) :: (.eq (.agg #[.int .i64 ca.k, .slice ad ca.o.length cp, .int .i64 ca.p, .int .i64 ca.q, .slice ad' ca.w.length cp'])) :: (.of (pCf ca)) :: (.eq (.agg #[.int .i64 ca.k, .slice xd ca.o.length xp, .int .i64 ca.p, .int .i64 ca.q, .slice xd' ca.w.length xp'])) :: (.eq (.bool true)) :: (.eq (.bool true)) :: (.eq (.bool true)) :: (.eq (.bool true)) :: (.eq (.bool true)) :: (.eq (.bool true)) :: []) (by kernel_rfl) ⟨?_, ?_, ?_, ?_, ?_, ?_, ?_, ?_, ?_, ?_, ?_, ?_, ?_, ?_, ?_, ?_, ?_, ?_, ?_, ?_, ?_, ?_, ?_, ?_, ?_, ?_, ?_, ?_, ?_, ?_, ?_, ?_, ?_, ?_, ?_, ?_, ?_, trivial⟩ (fun vs => [(80, (.agg #[.int .i64 ca.k, .slice ad ca.o.length cp, .int .i64 ca.p, .int .i64 ca.q, .slice ad' ca.w.length cp'])), (81, (.bool ca.right)), (82, (.agg #[.int .i64 ca.k, .slice xd ca.o.length xp, .int .i64 ca.p, .int .i64 ca.q, .slice xd' ca.w.length xp'])), (83, (.bool ca.right)), (84, (.bool true)), (85, (.bool true)), (86, (.agg #[.int .i64 ca.k, .slice ad ca.o.length cp, .int .i64 ca.p, .int .i64 ca.q, .slice ad' ca.w.length cp'])), (87, (.string ⟨ca.text.toArray⟩)), (88, (.agg #[.int .i64 ca.k, .slice xd ca.o.length xp, .int .i64 ca.p, .int .i64 ca.q, .slice xd' ca.w.length xp'])), (89, (.string ⟨ca.text.toArray⟩)), (90, (.bool true)), (91, (.bool true)), (92, (.bool true)), (93, (.agg #[.int .i64 ca.k, .slice ad ca.o.length cp, .int .i64 ca.p, .int .i64 ca.q, .slice ad' ca.w.length cp'])), (94, (.agg #[.int .i64 cb.k, .slice bd cb.o.length dp, .int .i64 cb.p, .int .i64 cb.q, .slice bd' cb.w.length dp'])), (95, (.bool (decide (ca = cb)))), (96, (.agg #[.int .i64 ca.k, .slice xd ca.o.length xp, .int .i64 ca.p, .int .i64 ca.q, .slice xd' ca.w.length xp'])), (97, (.agg #[.int .i64 cb.k, .slice yd cb.o.length yp, .int .i64 cb.p, .int .i64 cb.q, .slice yd' cb.w.length yp'])), (98, (.bool (decide (ca = cb)))), (99, (.bool true)), (100, (.bool true)), (101, (.bool true)), (102, (.agg #[.int .i64 ca.k, .slice ad ca.o.length cp, .int .i64 ca.p, .int .i64 ca.q, .slice ad' ca.w.length cp'])), (103, (.agg #[.int .i64 ca.k, .slice ad ca.o.length cp, .int .i64 ca.p, .int .i64 ca.q, .slice ad' ca.w.length cp'])), (104, (.bool true)), (105, (.bool true)), (106, (.bool true)), (107, (.agg #[.int .i64 ca.k, .slice ad ca.o.length cp, .int .i64 ca.p, .int .i64 ca.q, .slice ad' ca.w.length cp'])), (108, vs 28), (109, (.agg #[.int .i64 ca.k, .slice xd ca.o.length xp, .int .i64 ca.p, .int .i64 ca.q, .slice xd' ca.w.length xp'])), (110, (.bool true)), (111, (.bool true)), (112, (.bool true)), (113, (.bool true)), (114, (.bool true)), (4, (.bool true))]) (fun _ => rfl) ?_
     ·refine rs fun S a wx K Q hR hK => ?_
      have t2 : a.tmps[2]? = some (.pointer (some ⟨w.heap.size, 0, none⟩)) := hR.o 2
      have y0 := (hR.bel.cell la).trans p0
      have y1 := (hR.bel.cell la).trans p1
      have y2 := (hR.bel.cell la).trans p2
      have y3 := (hR.bel.cell la).trans p3
      have y4 := (hR.bel.cell la).trans p4
      go_simp
      exact hK _ _ br rfl
     ·refine rs fun S a wx K Q hR hK => ?_
      have t80 := hR.q 0
      go_simp
      go_at_call 7
      go_fit (bT _ _ ca _ _ (HKr.out.pa.r.below hR.bel nl) HN.out.1.2.2.2.2 (HKr.out.below hR.bel).lqAt)
      rintro e w' ⟨rfl, hbx⟩
      exact hK _ _ hbx rfl
     ·refine rs fun S a wx K Q hR hK => ?_
      have t5 : a.tmps[5]? = some (.pointer (some ⟨g, 0, none⟩)) := hR.o 5
      have y0 := (hR.bel.cell lx).trans x0
      have y1 := (hR.bel.cell lx).trans x1
      have y2 := (hR.bel.cell lx).trans x2
      have y3 := (hR.bel.cell lx).trans x3
      have y4 := (hR.bel.cell lx).trans x4
      go_simp
      exact hK _ _ br rfl
     ·refine rs fun S a wx K Q hR hK => ?_
      have t82 := hR.q 2
      go_simp
      go_at_call 46
      go_fit (jD _ _ ca _ _ (HXr.out.1.r.below hR.bel nl) HN.out.1.2.2.2.2 (HKr.out.below hR.bel).lqAt)
      rintro e w' ⟨rfl, hbx⟩
      exact hK _ _ hbx rfl
     ·refine rs fun S a wx K Q hR hK => ?_
      have t81 := hR.q 1
      have t83 := hR.q 3
      go_simp
      (try go_ints)
      exact hK _ _ br rfl
     ·refine rs fun S a wx K Q hR hK => ?_
      have t84 := hR.q 4
      go_simp
      exact hK _ _ br rfl
     ·refine rs fun S a wx K Q hR hK => ?_
      have t2 : a.tmps[2]? = some (.pointer (some ⟨w.heap.size, 0, none⟩)) := hR.o 2
      have y0 := (hR.bel.cell la).trans p0
      have y1 := (hR.bel.cell la).trans p1
      have y2 := (hR.bel.cell la).trans p2
      have y3 := (hR.bel.cell la).trans p3
      have y4 := (hR.bel.cell la).trans p4
      go_simp
      exact hK _ _ br rfl
     ·refine rs fun S a wx K Q hR hK => ?_
      have t86 := hR.q 6
      go_simp
      go_at_call 9
      go_fit (aT _ _ ca _ _ (HKr.out.pa.r.below hR.bel nl) HN.out.1 (.inl (by omega)) (by omega) (HKr.out.below hR.bel).lqAt)
      rintro e w' ⟨rfl, hbx⟩
      exact hK _ _ hbx rfl
     ·refine rs fun S a wx K Q hR hK => ?_
      have t5 : a.tmps[5]? = some (.pointer (some ⟨g, 0, none⟩)) := hR.o 5
      have y0 := (hR.bel.cell lx).trans x0
      have y1 := (hR.bel.cell lx).trans x1
      have y2 := (hR.bel.cell lx).trans x2
      have y3 := (hR.bel.cell lx).trans x3
      have y4 := (hR.bel.cell lx).trans x4
      go_simp
      exact hK _ _ br rfl
     ·refine rs fun S a wx K Q hR hK => ?_
      have t88 := hR.q 8
      go_simp
      go_at_call 19
      go_fit (bC _ _ ca _ _ (HXr.out.1.r.below hR.bel nl) HN.out.1 (by omega) (by omega) (HKr.out.below hR.bel).lqAt)
      rintro e w' ⟨rfl, hbx⟩
      exact hK _ _ hbx rfl
     ·refine rs fun S a wx K Q hR hK => ?_
      have t87 := hR.q 7
      have t89 := hR.q 9
      go_simp
      (try go_ints)
      exact hK _ _ br rfl
     ·refine rs fun S a wx K Q hR hK => ?_
      have t85 := hR.q 5
      have t90 := hR.q 10
      go_simp
      exact hK _ _ br rfl
     ·refine rs fun S a wx K Q hR hK => ?_
      have t91 := hR.q 11
      go_simp
      exact hK _ _ br rfl
     ·refine rs fun S a wx K Q hR hK => ?_
      have t2 : a.tmps[2]? = some (.pointer (some ⟨w.heap.size, 0, none⟩)) := hR.o 2
      have y0 := (hR.bel.cell la).trans p0
      have y1 := (hR.bel.cell la).trans p1
      have y2 := (hR.bel.cell la).trans p2
      have y3 := (hR.bel.cell la).trans p3
      have y4 := (hR.bel.cell la).trans p4
      go_simp
      exact hK _ _ br rfl
     ·refine rs fun S a wx K Q hR hK => ?_
      have t3 : a.tmps[3]? = some (.pointer (some ⟨w.heap.size + 1, 0, none⟩)) := hR.o 3
      have y0 := (hR.bel.cell lb).trans q0
      have y1 := (hR.bel.cell lb).trans q1
      have y2 := (hR.bel.cell lb).trans q2
      have y3 := (hR.bel.cell lb).trans q3
      have y4 := (hR.bel.cell lb).trans q4
      go_simp
      exact hK _ _ br rfl
     ·refine rs fun S a wx K Q hR hK => ?_
      have t93 := hR.q 13
      have t94 := hR.q 14
      go_simp
      go_at_call 12
      go_fit (dK _ _ _ _ ca cb _ _ _ (HKr.out.pa.r.below hR.bel nl) (HKr.out.pb.r.below hR.bel nl))
      rintro e w' ⟨rfl, hbx⟩
      exact hK _ _ hbx rfl
     ·refine rs fun S a wx K Q hR hK => ?_
      have t5 : a.tmps[5]? = some (.pointer (some ⟨g, 0, none⟩)) := hR.o 5
      have y0 := (hR.bel.cell lx).trans x0
      have y1 := (hR.bel.cell lx).trans x1
      have y2 := (hR.bel.cell lx).trans x2
      have y3 := (hR.bel.cell lx).trans x3
      have y4 := (hR.bel.cell lx).trans x4
      go_simp
      exact hK _ _ br rfl
     ·refine rs fun S a wx K Q hR hK => ?_
      have t6 : a.tmps[6]? = some (.pointer (some ⟨g', 0, none⟩)) := hR.o 6
      have y0 := (hR.bel.cell ly).trans y0
      have y1 := (hR.bel.cell ly).trans y1
      have y2 := (hR.bel.cell ly).trans y2
      have y3 := (hR.bel.cell ly).trans y3
      have y4 := (hR.bel.cell ly).trans y4
      go_simp
      exact hK _ _ br rfl
     ·refine rs fun S a wx K Q hR hK => ?_
      have t96 := hR.q 16
      have t97 := hR.q 17
      go_simp
      go_at_call 53
      go_fit (bB _ _ _ _ ca cb _ _ _ (HXr.out.1.r.below hR.bel nl) (HXr.out.2.r.below hR.bel nl))
      rintro e w' ⟨rfl, hbx⟩
      exact hK _ _ hbx rfl
     ·refine rs fun S a wx K Q hR hK => ?_
      have t95 := hR.q 15
      have t98 := hR.q 18
      go_simp
      (try go_ints)
      exact hK _ _ br rfl
     ·refine rs fun S a wx K Q hR hK => ?_
      have t92 := hR.q 12
      have t99 := hR.q 19
      go_simp
      exact hK _ _ br rfl
     ·refine rs fun S a wx K Q hR hK => ?_
      have t100 := hR.q 20
      go_simp
      exact hK _ _ br rfl
     ·refine rs fun S a wx K Q hR hK => ?_
      have t2 : a.tmps[2]? = some (.pointer (some ⟨w.heap.size, 0, none⟩)) := hR.o 2
      have y0 := (hR.bel.cell la).trans p0
      have y1 := (hR.bel.cell la).trans p1
      have y2 := (hR.bel.cell la).trans p2
      have y3 := (hR.bel.cell la).trans p3
      have y4 := (hR.bel.cell la).trans p4
      go_simp
      exact hK _ _ br rfl
     ·refine rs fun S a wx K Q hR hK => ?_
      have t2 : a.tmps[2]? = some (.pointer (some ⟨w.heap.size, 0, none⟩)) := hR.o 2
      have y0 := (hR.bel.cell la).trans p0
      have y1 := (hR.bel.cell la).trans p1
      have y2 := (hR.bel.cell la).trans p2
      have y3 := (hR.bel.cell la).trans p3
      have y4 := (hR.bel.cell la).trans p4
      go_simp
      exact hK _ _ br rfl
     ·refine rs fun S a wx K Q hR hK => ?_
      have t102 := hR.q 22
      have t103 := hR.q 23
      go_simp
      go_at_call 12
      go_fit (dK _ _ _ _ ca ca _ _ _ (HKr.out.pa.r.below hR.bel nl) (HKr.out.pa.r.below hR.bel nl))
      rintro e w' ⟨rfl, hbx⟩
      exact hK _ _ hbx (by show Value.bool _ = Value.bool true; simp)
     ·refine rs fun S a wx K Q hR hK => ?_
      have t101 := hR.q 21
      have t104 := hR.q 24
      go_simp
      exact hK _ _ br rfl
     ·refine rs fun S a wx K Q hR hK => ?_
      have t105 := hR.q 25
      go_simp
      exact hK _ _ br rfl
     ·refine rs fun S a wx K Q hR hK => ?_
      have t2 : a.tmps[2]? = some (.pointer (some ⟨w.heap.size, 0, none⟩)) := hR.o 2
      have y0 := (hR.bel.cell la).trans p0
      have y1 := (hR.bel.cell la).trans p1
      have y2 := (hR.bel.cell la).trans p2
      have y3 := (hR.bel.cell la).trans p3
      have y4 := (hR.bel.cell la).trans p4
      go_simp
      exact hK _ _ br rfl
     ·exact iM _
     ·refine rs fun S a wx K Q hR hK => ?_
      have t107 := hR.q 27
      go_simp
      go_at_call 18
      go_fit (df _ _ ca _ _ (HKr.out.pa.r.below hR.bel nl) HN.out.1 (by omega) (by omega) (HKr.out.below hR.bel).lqAt)
      rintro e w' ⟨vt, rfl, hvt, hbt⟩
      exact hK _ _ hbt (hvt.wider (fun b _ h => hR.new b h))
     ·refine rs fun S a wx K Q hR hK => ?_
      have t5 : a.tmps[5]? = some (.pointer (some ⟨g, 0, none⟩)) := hR.o 5
      have y0 := (hR.bel.cell lx).trans x0
      have y1 := (hR.bel.cell lx).trans x1
      have y2 := (hR.bel.cell lx).trans x2
      have y3 := (hR.bel.cell lx).trans x3
      have y4 := (hR.bel.cell lx).trans x4
      go_simp
      exact hK _ _ br rfl
     ·refine rs fun S a wx K Q hR hK => ?_
      obtain ⟨u108, t108, f108⟩ := hR.f 28
      have t109 := hR.q 29
      go_simp
      go_at_call 53
      go_fit (bB _ _ _ _ ca ca _ _ _ f108 (HXr.out.1.r.below hR.bel nl))
      rintro e w' ⟨rfl, hbx⟩
      exact hK _ _ hbx (by show Value.bool _ = Value.bool true; simp)
     ·refine rs fun S a wx K Q hR hK => ?_
      have t106 := hR.q 26
      have t110 := hR.q 30
      go_simp
      exact hK _ _ br rfl
     ·refine rs fun S a wx K Q hR hK => ?_
      have t111 := hR.q 31
      go_simp
      exact hK _ _ br rfl
     ·refine rs fun S a wx K Q hR hK => ?_
      go_simp
      go_at_call 6
      go_fit (bA _ (HKr.out.below hR.bel).lqAt)
      rintro e w' ⟨rfl, hbx⟩
      exact hK _ _ hbx rfl
     ·refine rs fun S a wx K Q hR hK => ?_
      have t112 := hR.q 32
      have t113 := hR.q 33
      go_simp
      exact hK _ _ br rfl
     ·refine rs fun S a wx K Q hR hK => ?_
      have t114 := hR.q 34
      go_simp
      exact hK _ _ br rfl
     intro S15 vs wf hD
     have hbW := hD.bel
     simp only [aP, List.foldl_cons, List.foldl_nil]
     clear hD
     go_simp
     (try (go_wp2_with fail))
     go_ret
     exact ⟨rfl, HKr.out.bel.trans (hbW.mono HKr.out.bel.size)⟩
end Go.Proofs.YtagnalfkmdjajaaGreatDoor
