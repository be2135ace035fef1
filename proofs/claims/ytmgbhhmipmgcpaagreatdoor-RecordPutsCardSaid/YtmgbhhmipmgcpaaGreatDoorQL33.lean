/- The law RecordPuts, walked. -/
import Derived.Test.YtmgbhhmipmgcpaaGreatDoorQ60
import Derived.Test.YtmgbhhmipmgcpaaGreatDoorQW31
import Derived.Test.YtmgbhhmipmgcpaaGreatDoorQW52
import Derived.Test.YtmgbhhmipmgcpaaGreatDoorQW53
import Derived.Test.YtmgbhhmipmgcpaaGreatDoorQV24b
import Derived.Test.YtmgbhhmipmgcpaaGreatDoorQ57
import Derived.Test.YtmgbhhmipmgcpaaGreatDoorQ59
set_option maxHeartbeats 20000000
set_option maxRecDepth 100000
namespace Go.Proofs.YtmgbhhmipmgcpaaGreatDoor
open Go.RowKit Go
set_option linter.unusedVariables false
set_option linter.unusedSimpArgs false
theorem mf (S S' : Nat → Prop) (own own' : Bool) (r o : Rec) (vr vo : Value) (va vb wa wb : Nat) (w : World) (hr : aI w S own r vr) (ho : aI w S' own' o vo) (h64 : va < 18446744073709551616 ∧ vb < 18446744073709551616) (hL : Lq w.heap.size w) :
  Calls Tryz.prog 4 #[vr, vo, .agg #[.int .u64 (va : Nat), .int .u64 (vb : Nat)], .agg #[.int .u64 (wa : Nat), .int .u64 (wb : Nat)]] w fun e w' => e = .returned (.bool true) ∧ Below w.heap.size w w' := by
 obtain ⟨a_0, a_1, a_2, a_3, a_4, a_5, a_6, a_7, rfl, _⟩ := hr.conc
 obtain ⟨b_0, b_1, b_2, b_3, b_4, b_5, b_6, b_7, rfl, _⟩ := ho.conc
 obtain ⟨X, hX⟩ : ∃ X, X = ((((w.alloc (.cells #[.int .i64 r.k, .int .u64 (r.t : Nat), .int .u64 (r.x : Nat), .int .u64 (r.w : Nat), .int .u64 (r.n : Nat), .int .u64 (r.v : Nat), .int .i64 a_0, .int .u64 (a_1 : Nat), .int .u64 (a_2 : Nat), .slice a_3 a_4 a_5, .slice a_6 r.es.length a_7] 47)).alloc (.cells #[.int .i64 o.k, .int .u64 (o.t : Nat), .int .u64 (o.x : Nat), .int .u64 (o.w : Nat), .int .u64 (o.n : Nat), .int .u64 (o.v : Nat), .int .i64 b_0, .int .u64 (b_1 : Nat), .int .u64 (b_2 : Nat), .slice b_3 b_4 b_5, .slice b_6 o.es.length b_7] 47)).alloc (.cells #[.int .u64 (va : Nat), .int .u64 (vb : Nat)] 41)).alloc (.cells #[.int .u64 (wa : Nat), .int .u64 (wb : Nat)] 41)) := ⟨_, rfl⟩
 have HK : Hid (PZ w r o #[.int .i64 r.k, .int .u64 (r.t : Nat), .int .u64 (r.x : Nat), .int .u64 (r.w : Nat), .int .u64 (r.n : Nat), .int .u64 (r.v : Nat), .int .i64 a_0, .int .u64 (a_1 : Nat), .int .u64 (a_2 : Nat), .slice a_3 a_4 a_5, .slice a_6 r.es.length a_7] #[.int .i64 o.k, .int .u64 (o.t : Nat), .int .u64 (o.x : Nat), .int .u64 (o.w : Nat), .int .u64 (o.n : Nat), .int .u64 (o.v : Nat), .int .i64 b_0, .int .u64 (b_1 : Nat), .int .u64 (b_2 : Nat), .slice b_3 b_4 b_5, .slice b_6 o.es.length b_7] va vb wa wb X) := hid (by
  have hb : Below w.heap.size w X := by rw [hX]; exact (((br.alloc nl _).alloc (by simp) _).alloc (by simp; omega) _).alloc (by simp; omega) _
  refine ⟨⟨?_, (hr.below hb nl).wider (fun _ _ _ => trivial) |>.unown⟩, ⟨?_, (ho.below hb nl).wider (fun _ _ _ => trivial) |>.unown⟩, ?_, ?_, hL.below hb, hb⟩
  ·rw [hX]; exact (ax _ _ _ (by simp; omega)).trans ((ax _ _ _ (by simp; omega)).trans ((ax _ _ _ (by simp)).trans (aa _ _ _ rfl)))
  ·rw [hX]; exact (ax _ _ _ (by simp)).trans ((ax _ _ _ (by simp)).trans (aa _ _ _ (by simp)))
  ·rw [hX]; exact (ax _ _ _ (by simp)).trans (aa _ _ _ (by simp))
  ·rw [hX]; exact aa _ _ _ (by simp))
 have HX := hid hX
 have H64 := hid h64
 clear hX hr ho hL h64
 go_enter Tryz.func4, Tryz.ntmps4
 go_upto_region 1 with fail
 rw [← HX.out]
 clear HX
 obtain ⟨a0, a1, a2, a3, a4, a5, a6, a7, a8, a9, a10⟩ := HK.out.pa.cells
 go_wp2_with fail
 refine (iY _ _ r _ X HK.out.pa.r).mono ?_
 rintro e w1 ⟨rfl, hb1⟩
 have HK1 := hid (HK.out.below hb1)
 clear hb1 a0 a1 a2 a3 a4 a5 a6 a7 a8 a9 a10 HK
 generalize hfa : (decide (r.es.length ≤ 60) && decide (r.p.size ≤ 60)) = fa
 cases fa with
 | false =>
  go_wp2_with fail
  refine (ic w1 HK1.out.lqAt).mono ?_
  rintro e w2 ⟨rfl, hb2⟩
  go_wp2_with fail
  go_ret
  exact ⟨rfl, (HK1.out.below hb2).bel⟩
 | true =>
  obtain ⟨b0, b1, b2, b3, b4, b5, b6, b7, b8, b9, b10⟩ := HK1.out.pb.cells
  go_wp2_with fail
  refine (iY _ _ o _ w1 HK1.out.pb.r).mono ?_
  rintro e w2 ⟨rfl, hb2⟩
  have HK2 := hid (HK1.out.below hb2)
  clear hb2 b0 b1 b2 b3 b4 b5 b6 b7 b8 b9 b10 HK1
  generalize hfb : (decide (o.es.length ≤ 60) && decide (o.p.size ≤ 60)) = fb
  cases fb with
  | false =>
   go_wp2_with fail
   refine (ic w2 HK2.out.lqAt).mono ?_
   rintro e w3 ⟨rfl, hb3⟩
   go_wp2_with fail
   go_ret
   exact ⟨rfl, (HK2.out.below hb3).bel⟩
  | true =>
   simp only [Bool.and_eq_true, decide_eq_true_eq] at hfa hfb
   have HSr : Hid (r.es.length ≤ 60 ∧ r.p.size ≤ 60 ∧ r.p.depth ≤ 60) := hid ⟨hfa.1, hfa.2, by have := r.p.depth_le_size; omega⟩
   have HSo : Hid (o.es.length ≤ 60 ∧ o.p.size ≤ 60 ∧ o.p.depth ≤ 60) := hid ⟨hfb.1, hfb.2, by have := o.p.depth_le_size; omega⟩
   clear hfa hfb
   have la := HK2.out.pa.lt
   have lb := HK2.out.pb.lt
   obtain ⟨a0, a1, a2, a3, a4, a5, a6, a7, a8, a9, a10⟩ := HK2.out.pa.cells
   obtain ⟨b0, b1, b2, b3, b4, b5, b6, b7, b8, b9, b10⟩ := HK2.out.pb.cells
   have hinf : (Tryz.prog.info? 37).map (·.size) = some 11 := by kernel_rfl
   go_upto_region 3 with fail
   refine aA (w0 := w2) rfl [.eq (.agg #[.int .i64 r.k, .int .u64 (r.t : Nat), .int .u64 (r.x : Nat), .int .u64 (r.w : Nat), .int .u64 (r.n : Nat), .int .u64 (r.v : Nat), .int .i64 a_0, .int .u64 (a_1 : Nat), .int .u64 (a_2 : Nat), .slice a_3 a_4 a_5, .slice a_6 r.es.length a_7]), .of (pRf r), .eq (.agg #[.int .i64 o.k, .int .u64 (o.t : Nat), .int .u64 (o.x : Nat), .int .u64 (o.w : Nat), .int .u64 (o.n : Nat), .int .u64 (o.v : Nat), .int .i64 b_0, .int .u64 (b_1 : Nat), .int .u64 (b_2 : Nat), .slice b_3 b_4 b_5, .slice b_6 o.es.length b_7]), .of (pRf o), .box 37 #[.int .i64 0, .int .u64 0, .int .u64 0, .int .u64 0, .int .u64 0, .int .u64 0, .int .i64 0, .int .u64 0, .int .u64 0, .slice none 0 0, .slice none 0 0], .box 37 #[.int .i64 0, .int .u64 0, .int .u64 0, .int .u64 0, .int .u64 0, .int .u64 0, .int .i64 0, .int .u64 0, .int .u64 0, .slice none 0 0, .slice none 0 0], .sto 4 1, .sto 5 3] (by kernel_rfl) ⟨?_, ?_, ?_, ?_, ?_, ?_, ?_, ?_, ?_, ?_, trivial⟩ (fun vs => [(28, (.agg #[.int .i64 r.k, .int .u64 (r.t : Nat), .int .u64 (r.x : Nat), .int .u64 (r.w : Nat), .int .u64 (r.n : Nat), .int .u64 (r.v : Nat), .int .i64 a_0, .int .u64 (a_1 : Nat), .int .u64 (a_2 : Nat), .slice a_3 a_4 a_5, .slice a_6 r.es.length a_7])), (29, vs 1), (30, (.agg #[.int .i64 o.k, .int .u64 (o.t : Nat), .int .u64 (o.x : Nat), .int .u64 (o.w : Nat), .int .u64 (o.n : Nat), .int .u64 (o.v : Nat), .int .i64 b_0, .int .u64 (b_1 : Nat), .int .u64 (b_2 : Nat), .slice b_3 b_4 b_5, .slice b_6 o.es.length b_7])), (31, vs 3), (9, vs 4), (10, vs 5)]) (fun _ => rfl) ?_
   ·refine rs fun S a wx K Q hR hK => ?_
    have t4 : a.tmps[4]? = some (.pointer (some ⟨w.heap.size, 0, none⟩)) := hR.o 4
    have y0 := (hR.bel.cell la).trans a0
    have y1 := (hR.bel.cell la).trans a1
    have y2 := (hR.bel.cell la).trans a2
    have y3 := (hR.bel.cell la).trans a3
    have y4 := (hR.bel.cell la).trans a4
    have y5 := (hR.bel.cell la).trans a5
    have y6 := (hR.bel.cell la).trans a6
    have y7 := (hR.bel.cell la).trans a7
    have y8 := (hR.bel.cell la).trans a8
    have y9 := (hR.bel.cell la).trans a9
    have y10 := (hR.bel.cell la).trans a10
    go_simp
    exact hK _ _ br rfl
   ·exact iH _
   ·refine rs fun S a wx K Q hR hK => ?_
    have t28 := hR.q 0
    go_simp
    go_at_call 11
    go_fit (dG _ _ r _ _ (by have := HSr.out.2.2; omega) (by have := HSr.out.2.1; omega) (by have := HSr.out.1; omega) (HK2.out.pa.r.below hR.bel nl))
    rintro e w' ⟨⟨vt, rfl, hvt⟩, hbt⟩
    exact hK _ _ hbt (hvt.wider (fun b _ h => hR.new b h))
   ·refine rs fun S a wx K Q hR hK => ?_
    have t5 : a.tmps[5]? = some (.pointer (some ⟨w.heap.size + 1, 0, none⟩)) := hR.o 5
    have y0 := (hR.bel.cell lb).trans b0
    have y1 := (hR.bel.cell lb).trans b1
    have y2 := (hR.bel.cell lb).trans b2
    have y3 := (hR.bel.cell lb).trans b3
    have y4 := (hR.bel.cell lb).trans b4
    have y5 := (hR.bel.cell lb).trans b5
    have y6 := (hR.bel.cell lb).trans b6
    have y7 := (hR.bel.cell lb).trans b7
    have y8 := (hR.bel.cell lb).trans b8
    have y9 := (hR.bel.cell lb).trans b9
    have y10 := (hR.bel.cell lb).trans b10
    go_simp
    exact hK _ _ br rfl
   ·exact iH _
   ·refine rs fun S a wx K Q hR hK => ?_
    have t30 := hR.q 2
    go_simp
    go_at_call 11
    go_fit (dG _ _ o _ _ (by have := HSo.out.2.2; omega) (by have := HSo.out.2.1; omega) (by have := HSo.out.1; omega) (HK2.out.pb.r.below hR.bel nl))
    rintro e w' ⟨⟨vt, rfl, hvt⟩, hbt⟩
    exact hK _ _ hbt (hvt.wider (fun b _ h => hR.new b h))
   ·intro w; kernel_rfl
   ·intro w; kernel_rfl
   ·exact StoOK.mk rfl rfl rfl hinf nK
   ·exact StoOK.mk rfl rfl rfl hinf nK
   intro S3 vs wd hD
   obtain ⟨g, cs, e5, _, _, hg3, e24, _⟩ := hD.box 6 4 1 _ _ rfl rfl
   obtain ⟨g', cs', e6, _, _, hg3', e26, _⟩ := hD.box 7 5 3 _ _ rfl rfl
   have r1 : aI wd S3 true r (vs 1) := hD.ofs 1 _ rfl
   have r3 : aI wd S3 true o (vs 3) := hD.ofs 3 _ rfl
   rw [e24] at r1
   rw [e26] at r3
   obtain ⟨x_0, x_1, x_2, x_3, x_4, x_5, x_6, x_7, ec, _⟩ := r1.conc
   obtain ⟨y_0, y_1, y_2, y_3, y_4, y_5, y_6, y_7, ed, _⟩ := r3.conc
   injection ec with ec
   injection ed with ed
   subst ec ed
   have e5' : vs 4 = .pointer (some ⟨g, 0, none⟩) := e5
   have e6' : vs 5 = .pointer (some ⟨g', 0, none⟩) := e6
   have HX : Hid (Rx 37 g r #[.int .i64 r.k, .int .u64 (r.t : Nat), .int .u64 (r.x : Nat), .int .u64 (r.w : Nat), .int .u64 (r.n : Nat), .int .u64 (r.v : Nat), .int .i64 x_0, .int .u64 (x_1 : Nat), .int .u64 (x_2 : Nat), .slice x_3 x_4 x_5, .slice x_6 r.es.length x_7] wd ∧ Rx 37 g' o #[.int .i64 o.k, .int .u64 (o.t : Nat), .int .u64 (o.x : Nat), .int .u64 (o.w : Nat), .int .u64 (o.n : Nat), .int .u64 (o.v : Nat), .int .i64 y_0, .int .u64 (y_1 : Nat), .int .u64 (y_2 : Nat), .slice y_3 y_4 y_5, .slice y_6 o.es.length y_7] wd) := hid ⟨⟨hg3, (r1.wider (fun _ _ _ => trivial)).unown⟩, ⟨hg3', (r3.wider (fun _ _ _ => trivial)).unown⟩⟩
   have HK3 := hid (HK2.out.below hD.bel)
   simp only [e5', e6', e24, e26, aM, List.foldl_cons, List.foldl_nil]
   clear hD e5 e6 e5' e6' e24 e26 r1 r3 hg3 hg3' HK2 a0 a1 a2 a3 a4 a5 a6 a7 a8 a9 a10 b0 b1 b2 b3 b4 b5 b6 b7 b8 b9 b10 la lb
   have lx := HX.out.1.lt
   obtain ⟨x0, x1, x2, x3, x4, x5, x6, x7, x8, x9, x10⟩ := HX.out.1.cells
   go_simp
   go_wp2_with fail
   refine (qF _ _ r _ wd (by have := HSr.out.2.1; omega) (by have := HSr.out.1; omega) HX.out.1.r).mono ?_
   intro e w4 hput
   obtain ⟨kn, hkn⟩ : ∃ k, k = sF r := ⟨_, rfl⟩
   obtain ⟨pb, hpb⟩ : ∃ k, k = oZ r := ⟨_, rfl⟩
   obtain ⟨ef, hef⟩ : ∃ k, k = sG r := ⟨_, rfl⟩
   obtain ⟨PS, hPS⟩ : ∃ PS : ByteArray, PS = ⟨pb.toArray⟩ := ⟨_, rfl⟩
   obtain ⟨rfl, hb4⟩ := hput.uni
   rw [← hkn, ← hpb, ← hef, ← hPS]
   have HPU : Hid (∀ w e w', kM r w e w' → ∃ ad cap, e = .returned (.tuple #[.agg #[.int .u8 (kn : Nat), .slice ad pb.length cap], .int .i64 ef]) ∧ bM w' (fun b => w.heap.size ≤ b) true pb (.slice ad pb.length cap) ∧ Below w.heap.size w w') := hid (by
    intro w e w' h
    rw [hkn, hpb, hef]
    exact h.uni)
   have HPS := hid hPS
   have hz4 := hb4.size
   clear hkn hpb hef hPS hput
   go_upto_region 5 with fail
   have H4 : Hid (PZ w r o #[.int .i64 r.k, .int .u64 (r.t : Nat), .int .u64 (r.x : Nat), .int .u64 (r.w : Nat), .int .u64 (r.n : Nat), .int .u64 (r.v : Nat), .int .i64 a_0, .int .u64 (a_1 : Nat), .int .u64 (a_2 : Nat), .slice a_3 a_4 a_5, .slice a_6 r.es.length a_7] #[.int .i64 o.k, .int .u64 (o.t : Nat), .int .u64 (o.x : Nat), .int .u64 (o.w : Nat), .int .u64 (o.n : Nat), .int .u64 (o.v : Nat), .int .i64 b_0, .int .u64 (b_1 : Nat), .int .u64 (b_2 : Nat), .slice b_3 b_4 b_5, .slice b_6 o.es.length b_7] va vb wa wb (w4.alloc (.cells #[.int .u8 (kn : Nat), .string PS] 27)) ∧ (Rx 37 g r #[.int .i64 r.k, .int .u64 (r.t : Nat), .int .u64 (r.x : Nat), .int .u64 (r.w : Nat), .int .u64 (r.n : Nat), .int .u64 (r.v : Nat), .int .i64 x_0, .int .u64 (x_1 : Nat), .int .u64 (x_2 : Nat), .slice x_3 x_4 x_5, .slice x_6 r.es.length x_7] (w4.alloc (.cells #[.int .u8 (kn : Nat), .string PS] 27)) ∧ Rx 37 g' o #[.int .i64 o.k, .int .u64 (o.t : Nat), .int .u64 (o.x : Nat), .int .u64 (o.w : Nat), .int .u64 (o.n : Nat), .int .u64 (o.v : Nat), .int .i64 y_0, .int .u64 (y_1 : Nat), .int .u64 (y_2 : Nat), .slice y_3 y_4 y_5, .slice y_6 o.es.length y_7] (w4.alloc (.cells #[.int .u8 (kn : Nat), .string PS] 27))) ∧ (w4.alloc (.cells #[.int .u8 (kn : Nat), .string PS] 27)).heap[w4.heap.size]? = some (.cells #[.int .u8 (kn : Nat), .string PS] 27 (0, 0))) := hid (by
    have hb := hb4.alloc hz4 (.cells #[.int .u8 (kn : Nat), .string PS] 27)
    exact ⟨HK3.out.below hb, ⟨HX.out.1.below hb, HX.out.2.below hb⟩, aa _ _ _ rfl⟩)
   generalize hg4 : w4.heap.size = g4 at H4 ⊢
   generalize w4.alloc (.cells #[.int .u8 (kn : Nat), .string PS] 27) = w5 at H4 ⊢
   clear hb4 hz4 hg4 HK3 HX lx x0 x1 x2 x3 x4 x5 x6 x7 x8 x9 x10
   go_wp2_with fail
   go_loopw [13] (fun t wr => ∃ j : Nat, j ≤ 2 ∧ t = .int .i64 j ∧ Hid (Below w5.heap.size w5 wr)) (fun t _ => 2 - (intOf t).toNat)
   case atStart => exact ⟨0, by omega, rfl, hid br⟩
   case round =>
    obtain ⟨j, hj, rfl, HQ⟩ := hrel
    have hsr := HQ.out.size
    have HKr := hid (H4.out.1.below HQ.out)
    have HXr := hid (And.intro (H4.out.2.1.1.below HQ.out) (H4.out.2.1.2.below HQ.out))
    have HGr := hid ((HQ.out.block _ (Array.getElem?_eq_some_iff.1 H4.out.2.2).1).trans H4.out.2.2)
    have la := HKr.out.pa.lt
    have lx := HXr.out.1.lt
    have lg : g4 < wr.heap.size := (Array.getElem?_eq_some_iff.1 HGr.out).1
    obtain ⟨a0, a1, a2, a3, a4, a5, a6, a7, a8, a9, a10⟩ := HKr.out.pa.cells
    by_cases hlt : j < 2
    ·go_wp2_with fail
     refine (jm _ _ r _ wr (by have := HSr.out.2.1; omega) (by have := HSr.out.1; omega) HKr.out.pa.r).mono ?_
     intro e w6 hput
     obtain ⟨fd, fc, rfl, hpb6, hb6⟩ := HPU.out _ _ _ hput
     have hs6 := hb6.size
     go_upto_region 9 with fail
     have hb7 : Below wr.heap.size wr (w6.alloc (.cells #[.int .u8 (kn : Nat), .slice fd pb.length fc] 24)) := hb6.alloc hs6 _
     have H7 : Hid (PZ w r o #[.int .i64 r.k, .int .u64 (r.t : Nat), .int .u64 (r.x : Nat), .int .u64 (r.w : Nat), .int .u64 (r.n : Nat), .int .u64 (r.v : Nat), .int .i64 a_0, .int .u64 (a_1 : Nat), .int .u64 (a_2 : Nat), .slice a_3 a_4 a_5, .slice a_6 r.es.length a_7] #[.int .i64 o.k, .int .u64 (o.t : Nat), .int .u64 (o.x : Nat), .int .u64 (o.w : Nat), .int .u64 (o.n : Nat), .int .u64 (o.v : Nat), .int .i64 b_0, .int .u64 (b_1 : Nat), .int .u64 (b_2 : Nat), .slice b_3 b_4 b_5, .slice b_6 o.es.length b_7] va vb wa wb (w6.alloc (.cells #[.int .u8 (kn : Nat), .slice fd pb.length fc] 24)) ∧ (Rx 37 g r #[.int .i64 r.k, .int .u64 (r.t : Nat), .int .u64 (r.x : Nat), .int .u64 (r.w : Nat), .int .u64 (r.n : Nat), .int .u64 (r.v : Nat), .int .i64 x_0, .int .u64 (x_1 : Nat), .int .u64 (x_2 : Nat), .slice x_3 x_4 x_5, .slice x_6 r.es.length x_7] (w6.alloc (.cells #[.int .u8 (kn : Nat), .slice fd pb.length fc] 24)) ∧ Rx 37 g' o #[.int .i64 o.k, .int .u64 (o.t : Nat), .int .u64 (o.x : Nat), .int .u64 (o.w : Nat), .int .u64 (o.n : Nat), .int .u64 (o.v : Nat), .int .i64 y_0, .int .u64 (y_1 : Nat), .int .u64 (y_2 : Nat), .slice y_3 y_4 y_5, .slice y_6 o.es.length y_7] (w6.alloc (.cells #[.int .u8 (kn : Nat), .slice fd pb.length fc] 24))) ∧ (w6.alloc (.cells #[.int .u8 (kn : Nat), .slice fd pb.length fc] 24)).heap[g4]? = some (.cells #[.int .u8 (kn : Nat), .string PS] 27 (0, 0)) ∧ (w6.alloc (.cells #[.int .u8 (kn : Nat), .slice fd pb.length fc] 24)).heap[w6.heap.size]? = some (.cells #[.int .u8 (kn : Nat), .slice fd pb.length fc] 24 (0, 0)) ∧ bM (w6.alloc (.cells #[.int .u8 (kn : Nat), .slice fd pb.length fc] 24)) (fun b => wr.heap.size ≤ b ∧ b < w6.heap.size) true pb (.slice fd pb.length fc) ∧ Below wr.heap.size wr (w6.alloc (.cells #[.int .u8 (kn : Nat), .slice fd pb.length fc] 24))) := hid ⟨HKr.out.below hb7, ⟨HXr.out.1.below hb7, HXr.out.2.below hb7⟩, (hb7.block _ lg).trans HGr.out, aa _ _ _ rfl, Sl.keep hpb6 (by omega) (fun b _ hl => ax _ _ _ hl) (fun b hl hb => ⟨hb, hl⟩), hb7⟩
     generalize hg6 : w6.heap.size = g6 at H7 ⊢
     generalize w6.alloc (.cells #[.int .u8 (kn : Nat), .slice fd pb.length fc] 24) = w7 at H7 ⊢
     have hg6' : wr.heap.size ≤ g6 := by omega
     clear hb6 hb7 hpb6 hput hg6 hs6 HGr HXr a0 a1 a2 a3 a4 a5 a6 a7 a8 a9 a10 la lx lg
     have la := H7.out.1.pa.lt
     have lx := H7.out.2.1.1.lt
     have lg : g4 < w7.heap.size := (Array.getElem?_eq_some_iff.1 H7.out.2.2.1).1
     have lf : g6 < w7.heap.size := (Array.getElem?_eq_some_iff.1 H7.out.2.2.2.1).1
     obtain ⟨a0, a1, a2, a3, a4, a5, a6, a7, a8, a9, a10⟩ := H7.out.1.pa.cells
     obtain ⟨x0, x1, x2, x3, x4, x5, x6, x7, x8, x9, x10⟩ := H7.out.2.1.1.cells
     obtain ⟨f0, f1⟩ := dA H7.out.2.2.2.1
     obtain ⟨q0, q1⟩ := dA H7.out.2.2.1
     obtain ⟨TS, hTS⟩ : ∃ TS : ByteArray, TS = ⟨r.text.toArray⟩ := ⟨_, rfl⟩
     obtain ⟨RR, hRR⟩ : ∃ RR, RR = r.right := ⟨_, rfl⟩
     have HTS := hid (And.intro hTS hRR)
     clear hTS hRR
     refine aA (w0 := w7) rfl [.eq (.int .i64 ef), .eq (.int .i64 ef), .eq (.bool false), .eq (.bool false), .eq (.agg #[.int .u8 (kn : Nat), .slice fd pb.length fc]), .eq (.agg #[.int .u8 (kn : Nat), .string PS]), .eq (.agg #[.int .u8 (kn : Nat), .string PS]), .eq (.bool false), .eq (.bool false), .eq (.bool false), .eq (.agg #[.int .i64 r.k, .int .u64 (r.t : Nat), .int .u64 (r.x : Nat), .int .u64 (r.w : Nat), .int .u64 (r.n : Nat), .int .u64 (r.v : Nat), .int .i64 a_0, .int .u64 (a_1 : Nat), .int .u64 (a_2 : Nat), .slice a_3 a_4 a_5, .slice a_6 r.es.length a_7]), .eq (.string TS), .eq (.agg #[.int .i64 r.k, .int .u64 (r.t : Nat), .int .u64 (r.x : Nat), .int .u64 (r.w : Nat), .int .u64 (r.n : Nat), .int .u64 (r.v : Nat), .int .i64 x_0, .int .u64 (x_1 : Nat), .int .u64 (x_2 : Nat), .slice x_3 x_4 x_5, .slice x_6 r.es.length x_7]), .eq (.string TS), .eq (.bool false), .eq (.bool false), .eq (.bool false), .eq (.agg #[.int .i64 r.k, .int .u64 (r.t : Nat), .int .u64 (r.x : Nat), .int .u64 (r.w : Nat), .int .u64 (r.n : Nat), .int .u64 (r.v : Nat), .int .i64 a_0, .int .u64 (a_1 : Nat), .int .u64 (a_2 : Nat), .slice a_3 a_4 a_5, .slice a_6 r.es.length a_7]), .eq (.bool RR), .eq (.agg #[.int .i64 r.k, .int .u64 (r.t : Nat), .int .u64 (r.x : Nat), .int .u64 (r.w : Nat), .int .u64 (r.n : Nat), .int .u64 (r.v : Nat), .int .i64 x_0, .int .u64 (x_1 : Nat), .int .u64 (x_2 : Nat), .slice x_3 x_4 x_5, .slice x_6 r.es.length x_7]), .eq (.bool RR), .eq (.bool false), .eq (.bool false)] (by kernel_rfl) ⟨?_, ?_, ?_, ?_, ?_, ?_, ?_, ?_, ?_, ?_, ?_, ?_, ?_, ?_, ?_, ?_, ?_, ?_, ?_, ?_, ?_, ?_, ?_, trivial⟩ (fun vs => [(46, (.int .i64 ef)), (47, (.int .i64 ef)), (48, (.bool false)), (49, (.bool false)), (50, (.agg #[.int .u8 (kn : Nat), .slice fd pb.length fc])), (51, (.agg #[.int .u8 (kn : Nat), .string PS])), (52, (.agg #[.int .u8 (kn : Nat), .string PS])), (53, (.bool false)), (54, (.bool false)), (55, (.bool false)), (56, (.agg #[.int .i64 r.k, .int .u64 (r.t : Nat), .int .u64 (r.x : Nat), .int .u64 (r.w : Nat), .int .u64 (r.n : Nat), .int .u64 (r.v : Nat), .int .i64 a_0, .int .u64 (a_1 : Nat), .int .u64 (a_2 : Nat), .slice a_3 a_4 a_5, .slice a_6 r.es.length a_7])), (57, (.string TS)), (58, (.agg #[.int .i64 r.k, .int .u64 (r.t : Nat), .int .u64 (r.x : Nat), .int .u64 (r.w : Nat), .int .u64 (r.n : Nat), .int .u64 (r.v : Nat), .int .i64 x_0, .int .u64 (x_1 : Nat), .int .u64 (x_2 : Nat), .slice x_3 x_4 x_5, .slice x_6 r.es.length x_7])), (59, (.string TS)), (60, (.bool false)), (61, (.bool false)), (62, (.bool false)), (63, (.agg #[.int .i64 r.k, .int .u64 (r.t : Nat), .int .u64 (r.x : Nat), .int .u64 (r.w : Nat), .int .u64 (r.n : Nat), .int .u64 (r.v : Nat), .int .i64 a_0, .int .u64 (a_1 : Nat), .int .u64 (a_2 : Nat), .slice a_3 a_4 a_5, .slice a_6 r.es.length a_7])), (64, (.bool RR)), (65, (.agg #[.int .i64 r.k, .int .u64 (r.t : Nat), .int .u64 (r.x : Nat), .int .u64 (r.w : Nat), .int .u64 (r.n : Nat), .int .u64 (r.v : Nat), .int .i64 x_0, .int .u64 (x_1 : Nat), .int .u64 (x_2 : Nat), .slice x_3 x_4 x_5, .slice x_6 r.es.length x_7])), (66, (.bool RR)), (67, (.bool false)), (68, (.bool false))]) (fun _ => rfl) ?_
     ·refine rs fun S a wx K Q hR hK => ?_
      have t15 : a.tmps[15]? = some (.int .i64 ef) := hR.o 15
      go_simp
      exact hK _ _ br rfl
     ·refine rs fun S a wx K Q hR hK => ?_
      have t12 : a.tmps[12]? = some (.int .i64 ef) := hR.o 12
      go_simp
      exact hK _ _ br rfl
     ·refine rs fun S a wx K Q hR hK => ?_
      have t46 := hR.q 0
      have t47 := hR.q 1
      go_simp
      (try go_ints)
      exact hK _ _ br rfl
     ·refine rs fun S a wx K Q hR hK => ?_
      have t48 := hR.q 2
      go_simp
      exact hK _ _ br rfl
     ·refine rs fun S a wx K Q hR hK => ?_
      have t14 : a.tmps[14]? = some (.pointer (some ⟨g6, 0, none⟩)) := hR.o 14
      have y0 := (hR.bel.cell lf).trans f0
      have y1 := (hR.bel.cell lf).trans f1
      go_simp
      exact hK _ _ br rfl
     ·refine rs fun S a wx K Q hR hK => ?_
      have t50 := hR.q 4
      go_simp
      go_at_call 7
      go_fit (oU _ _ kn pb _ _ (bM.below H7.out.2.2.2.2.1 hR.bel nl))
      rintro e w' ⟨rfl, hbt⟩
      exact hK _ _ hbt (by rw [HPS.out]; rfl)
     ·refine rs fun S a wx K Q hR hK => ?_
      have t11 : a.tmps[11]? = some (.pointer (some ⟨g4, 0, none⟩)) := hR.o 11
      have y0 := (hR.bel.cell lg).trans q0
      have y1 := (hR.bel.cell lg).trans q1
      go_simp
      exact hK _ _ br rfl
     ·refine rs fun S a wx K Q hR hK => ?_
      have t51 := hR.q 5
      have t52 := hR.q 6
      go_simp
      (try go_ints)
      exact hK _ _ br rfl
     ·refine rs fun S a wx K Q hR hK => ?_
      have t49 := hR.q 3
      have t53 := hR.q 7
      go_simp
      exact hK _ _ br rfl
     ·refine rs fun S a wx K Q hR hK => ?_
      have t54 := hR.q 8
      go_simp
      exact hK _ _ br rfl
     ·refine rs fun S a wx K Q hR hK => ?_
      have t4 : a.tmps[4]? = some (.pointer (some ⟨w.heap.size, 0, none⟩)) := hR.o 4
      have y0 := (hR.bel.cell la).trans a0
      have y1 := (hR.bel.cell la).trans a1
      have y2 := (hR.bel.cell la).trans a2
      have y3 := (hR.bel.cell la).trans a3
      have y4 := (hR.bel.cell la).trans a4
      have y5 := (hR.bel.cell la).trans a5
      have y6 := (hR.bel.cell la).trans a6
      have y7 := (hR.bel.cell la).trans a7
      have y8 := (hR.bel.cell la).trans a8
      have y9 := (hR.bel.cell la).trans a9
      have y10 := (hR.bel.cell la).trans a10
      go_simp
      exact hK _ _ br rfl
     ·refine rs fun S a wx K Q hR hK => ?_
      have t56 := hR.q 10
      go_simp
      go_at_call 16
      go_fit (qL _ _ r _ _ (by have := HSr.out.2.1; omega) (by have := HSr.out.1; omega) (H7.out.1.pa.r.below hR.bel nl) (H7.out.1.below hR.bel).lqAt.lv)
      rintro e w' ⟨rfl, hbt⟩
      exact hK _ _ hbt (by rw [HTS.out.1]; rfl)
     ·refine rs fun S a wx K Q hR hK => ?_
      have t9 : a.tmps[9]? = some (.pointer (some ⟨g, 0, none⟩)) := hR.o 9
      have y0 := (hR.bel.cell lx).trans x0
      have y1 := (hR.bel.cell lx).trans x1
      have y2 := (hR.bel.cell lx).trans x2
      have y3 := (hR.bel.cell lx).trans x3
      have y4 := (hR.bel.cell lx).trans x4
      have y5 := (hR.bel.cell lx).trans x5
      have y6 := (hR.bel.cell lx).trans x6
      have y7 := (hR.bel.cell lx).trans x7
      have y8 := (hR.bel.cell lx).trans x8
      have y9 := (hR.bel.cell lx).trans x9
      have y10 := (hR.bel.cell lx).trans x10
      go_simp
      exact hK _ _ br rfl
     ·refine rs fun S a wx K Q hR hK => ?_
      have t58 := hR.q 12
      go_simp
      go_at_call 17
      go_fit (pg _ _ r _ _ (by have := HSr.out.2.1; omega) (by have := HSr.out.1; omega) (H7.out.2.1.1.r.below hR.bel nl))
      rintro e w' ⟨rfl, hbt⟩
      exact hK _ _ hbt (by rw [HTS.out.1]; rfl)
     ·refine rs fun S a wx K Q hR hK => ?_
      have t57 := hR.q 11
      have t59 := hR.q 13
      go_simp
      (try go_ints)
      exact hK _ _ br rfl
     ·refine rs fun S a wx K Q hR hK => ?_
      have t55 := hR.q 9
      have t60 := hR.q 14
      go_simp
      exact hK _ _ br rfl
     ·refine rs fun S a wx K Q hR hK => ?_
      have t61 := hR.q 15
      go_simp
      exact hK _ _ br rfl
     ·refine rs fun S a wx K Q hR hK => ?_
      have t4 : a.tmps[4]? = some (.pointer (some ⟨w.heap.size, 0, none⟩)) := hR.o 4
      have y0 := (hR.bel.cell la).trans a0
      have y1 := (hR.bel.cell la).trans a1
      have y2 := (hR.bel.cell la).trans a2
      have y3 := (hR.bel.cell la).trans a3
      have y4 := (hR.bel.cell la).trans a4
      have y5 := (hR.bel.cell la).trans a5
      have y6 := (hR.bel.cell la).trans a6
      have y7 := (hR.bel.cell la).trans a7
      have y8 := (hR.bel.cell la).trans a8
      have y9 := (hR.bel.cell la).trans a9
      have y10 := (hR.bel.cell la).trans a10
      go_simp
      exact hK _ _ br rfl
     ·refine rs fun S a wx K Q hR hK => ?_
      have t63 := hR.q 17
      go_simp
      go_at_call 18
      go_fit (gZ _ _ r _ _ (by have := HSr.out.2.1; omega) (H7.out.1.pa.r.below hR.bel nl))
      rintro e w' ⟨rfl, hbt⟩
      exact hK _ _ hbt (by rw [HTS.out.2]; rfl)
     ·refine rs fun S a wx K Q hR hK => ?_
      have t9 : a.tmps[9]? = some (.pointer (some ⟨g, 0, none⟩)) := hR.o 9
      have y0 := (hR.bel.cell lx).trans x0
      have y1 := (hR.bel.cell lx).trans x1
      have y2 := (hR.bel.cell lx).trans x2
      have y3 := (hR.bel.cell lx).trans x3
      have y4 := (hR.bel.cell lx).trans x4
      have y5 := (hR.bel.cell lx).trans x5
      have y6 := (hR.bel.cell lx).trans x6
      have y7 := (hR.bel.cell lx).trans x7
      have y8 := (hR.bel.cell lx).trans x8
      have y9 := (hR.bel.cell lx).trans x9
      have y10 := (hR.bel.cell lx).trans x10
      go_simp
      exact hK _ _ br rfl
     ·refine rs fun S a wx K Q hR hK => ?_
      have t65 := hR.q 19
      go_simp
      go_at_call 19
      go_fit (aJ _ _ r _ _ (by have := HSr.out.2.1; omega) (H7.out.2.1.1.r.below hR.bel nl))
      rintro e w' ⟨rfl, hbt⟩
      exact hK _ _ hbt (by rw [HTS.out.2]; rfl)
     ·refine rs fun S a wx K Q hR hK => ?_
      have t64 := hR.q 18
      have t66 := hR.q 20
      go_simp
      (try go_ints)
      exact hK _ _ br rfl
     ·refine rs fun S a wx K Q hR hK => ?_
      have t62 := hR.q 16
      have t67 := hR.q 21
      go_simp
      exact hK _ _ br rfl
     intro S9 vs w8 hD
     have H8 : Hid (bM w8 (fun b => wr.heap.size ≤ b ∧ b < g6) true pb (.slice fd pb.length fc) ∧ w8.heap[g6]? = some (.cells #[.int .u8 (kn : Nat), .slice fd pb.length fc] 24 (0, 0)) ∧ Below wr.heap.size wr w8) := hid ⟨H7.out.2.2.2.2.1.below hD.bel nl, (hD.bel.block _ lf).trans H7.out.2.2.2.1, H7.out.2.2.2.2.2.trans (hD.bel.mono H7.out.2.2.2.2.2.size)⟩
     simp only [aM, List.foldl_cons, List.foldl_nil]
     clear hD H7 la lx lg lf a0 a1 a2 a3 a4 a5 a6 a7 a8 a9 a10 x0 x1 x2 x3 x4 x5 x6 x7 x8 x9 x10 f0 f1 q0 q1 HTS
     go_simp
     obtain ⟨f0, f1⟩ := dA H8.out.2.1
     go_wp2_with fail
     refine (kR wr.heap.size g6 (fun b => wr.heap.size ≤ b ∧ b < g6) (fun b h => h) pb _ w8 hg6' H8.out.1).mono ?_
     rintro e w9 ⟨rfl, hb9, _⟩
     have hb9' := H8.out.2.2.trans hb9
     have H9 : Hid (PZ w r o #[.int .i64 r.k, .int .u64 (r.t : Nat), .int .u64 (r.x : Nat), .int .u64 (r.w : Nat), .int .u64 (r.n : Nat), .int .u64 (r.v : Nat), .int .i64 a_0, .int .u64 (a_1 : Nat), .int .u64 (a_2 : Nat), .slice a_3 a_4 a_5, .slice a_6 r.es.length a_7] #[.int .i64 o.k, .int .u64 (o.t : Nat), .int .u64 (o.x : Nat), .int .u64 (o.w : Nat), .int .u64 (o.n : Nat), .int .u64 (o.v : Nat), .int .i64 b_0, .int .u64 (b_1 : Nat), .int .u64 (b_2 : Nat), .slice b_3 b_4 b_5, .slice b_6 o.es.length b_7] va vb wa wb w9 ∧ (Rx 37 g r #[.int .i64 r.k, .int .u64 (r.t : Nat), .int .u64 (r.x : Nat), .int .u64 (r.w : Nat), .int .u64 (r.n : Nat), .int .u64 (r.v : Nat), .int .i64 x_0, .int .u64 (x_1 : Nat), .int .u64 (x_2 : Nat), .slice x_3 x_4 x_5, .slice x_6 r.es.length x_7] w9 ∧ Rx 37 g' o #[.int .i64 o.k, .int .u64 (o.t : Nat), .int .u64 (o.x : Nat), .int .u64 (o.w : Nat), .int .u64 (o.n : Nat), .int .u64 (o.v : Nat), .int .i64 y_0, .int .u64 (y_1 : Nat), .int .u64 (y_2 : Nat), .slice y_3 y_4 y_5, .slice y_6 o.es.length y_7] w9) ∧ Below wr.heap.size wr w9) := hid ⟨HKr.out.below hb9', ⟨(H4.out.2.1.1.below HQ.out).below hb9', (H4.out.2.1.2.below HQ.out).below hb9'⟩, hb9'⟩
     have hs9 := hb9'.size
     clear hb9 hb9' f0 f1 H8
     obtain ⟨a0, a1, a2, a3, a4, a5, a6, a7, a8, a9, a10⟩ := H9.out.1.pa.cells
     go_wp2_with fail
     refine (qN _ _ r _ w9 (by have := HSr.out.2.1; omega) (by have := HSr.out.1; omega) H9.out.1.pa.r).mono ?_
     rintro e w10 ⟨⟨vc, rfl, hvc⟩, hb10⟩
     obtain ⟨c_0, c_1, c_2, c_3, c_4, c_5, c_6, c_7, rfl, _⟩ := hvc.conc
     have hs10 := hb10.size
     go_upto_region 13 with fail
     have hb11 : Below w9.heap.size w9 (w10.alloc (.cells #[.int .i64 r.k, .int .u64 (r.t : Nat), .int .u64 (r.x : Nat), .int .u64 (r.w : Nat), .int .u64 (r.n : Nat), .int .u64 (r.v : Nat), .int .i64 c_0, .int .u64 (c_1 : Nat), .int .u64 (c_2 : Nat), .slice c_3 c_4 c_5, .slice c_6 r.es.length c_7] 47)) := hb10.alloc hs10 _
     have H11 : Hid (PZ w r o #[.int .i64 r.k, .int .u64 (r.t : Nat), .int .u64 (r.x : Nat), .int .u64 (r.w : Nat), .int .u64 (r.n : Nat), .int .u64 (r.v : Nat), .int .i64 a_0, .int .u64 (a_1 : Nat), .int .u64 (a_2 : Nat), .slice a_3 a_4 a_5, .slice a_6 r.es.length a_7] #[.int .i64 o.k, .int .u64 (o.t : Nat), .int .u64 (o.x : Nat), .int .u64 (o.w : Nat), .int .u64 (o.n : Nat), .int .u64 (o.v : Nat), .int .i64 b_0, .int .u64 (b_1 : Nat), .int .u64 (b_2 : Nat), .slice b_3 b_4 b_5, .slice b_6 o.es.length b_7] va vb wa wb (w10.alloc (.cells #[.int .i64 r.k, .int .u64 (r.t : Nat), .int .u64 (r.x : Nat), .int .u64 (r.w : Nat), .int .u64 (r.n : Nat), .int .u64 (r.v : Nat), .int .i64 c_0, .int .u64 (c_1 : Nat), .int .u64 (c_2 : Nat), .slice c_3 c_4 c_5, .slice c_6 r.es.length c_7] 47)) ∧ (Rx 37 g r #[.int .i64 r.k, .int .u64 (r.t : Nat), .int .u64 (r.x : Nat), .int .u64 (r.w : Nat), .int .u64 (r.n : Nat), .int .u64 (r.v : Nat), .int .i64 x_0, .int .u64 (x_1 : Nat), .int .u64 (x_2 : Nat), .slice x_3 x_4 x_5, .slice x_6 r.es.length x_7] (w10.alloc (.cells #[.int .i64 r.k, .int .u64 (r.t : Nat), .int .u64 (r.x : Nat), .int .u64 (r.w : Nat), .int .u64 (r.n : Nat), .int .u64 (r.v : Nat), .int .i64 c_0, .int .u64 (c_1 : Nat), .int .u64 (c_2 : Nat), .slice c_3 c_4 c_5, .slice c_6 r.es.length c_7] 47)) ∧ Rx 37 g' o #[.int .i64 o.k, .int .u64 (o.t : Nat), .int .u64 (o.x : Nat), .int .u64 (o.w : Nat), .int .u64 (o.n : Nat), .int .u64 (o.v : Nat), .int .i64 y_0, .int .u64 (y_1 : Nat), .int .u64 (y_2 : Nat), .slice y_3 y_4 y_5, .slice y_6 o.es.length y_7] (w10.alloc (.cells #[.int .i64 r.k, .int .u64 (r.t : Nat), .int .u64 (r.x : Nat), .int .u64 (r.w : Nat), .int .u64 (r.n : Nat), .int .u64 (r.v : Nat), .int .i64 c_0, .int .u64 (c_1 : Nat), .int .u64 (c_2 : Nat), .slice c_3 c_4 c_5, .slice c_6 r.es.length c_7] 47))) ∧ DR 47 w10.heap.size (fun b => w9.heap.size ≤ b ∧ b < w10.heap.size) r #[.int .i64 r.k, .int .u64 (r.t : Nat), .int .u64 (r.x : Nat), .int .u64 (r.w : Nat), .int .u64 (r.n : Nat), .int .u64 (r.v : Nat), .int .i64 c_0, .int .u64 (c_1 : Nat), .int .u64 (c_2 : Nat), .slice c_3 c_4 c_5, .slice c_6 r.es.length c_7] (w10.alloc (.cells #[.int .i64 r.k, .int .u64 (r.t : Nat), .int .u64 (r.x : Nat), .int .u64 (r.w : Nat), .int .u64 (r.n : Nat), .int .u64 (r.v : Nat), .int .i64 c_0, .int .u64 (c_1 : Nat), .int .u64 (c_2 : Nat), .slice c_3 c_4 c_5, .slice c_6 r.es.length c_7] 47)) ∧ Below wr.heap.size wr (w10.alloc (.cells #[.int .i64 r.k, .int .u64 (r.t : Nat), .int .u64 (r.x : Nat), .int .u64 (r.w : Nat), .int .u64 (r.n : Nat), .int .u64 (r.v : Nat), .int .i64 c_0, .int .u64 (c_1 : Nat), .int .u64 (c_2 : Nat), .slice c_3 c_4 c_5, .slice c_6 r.es.length c_7] 47))) := hid ⟨H9.out.1.below hb11, ⟨H9.out.2.1.1.below hb11, H9.out.2.1.2.below hb11⟩, DR.of_new hvc, H9.out.2.2.trans (hb11.mono hs9)⟩
     generalize hg10 : w10.heap.size = g10 at H11 ⊢
     generalize w10.alloc (.cells #[.int .i64 r.k, .int .u64 (r.t : Nat), .int .u64 (r.x : Nat), .int .u64 (r.w : Nat), .int .u64 (r.n : Nat), .int .u64 (r.v : Nat), .int .i64 c_0, .int .u64 (c_1 : Nat), .int .u64 (c_2 : Nat), .slice c_3 c_4 c_5, .slice c_6 r.es.length c_7] 47) = w11 at H11 ⊢
     clear hvc hb10 hb11 hs10 hg10 H9 a0 a1 a2 a3 a4 a5 a6 a7 a8 a9 a10
     have la := H11.out.1.pa.lt
     have lx := H11.out.2.1.1.lt
     have lc := H11.out.2.2.1.lt
     obtain ⟨a0, a1, a2, a3, a4, a5, a6, a7, a8, a9, a10⟩ := H11.out.1.pa.cells
     obtain ⟨x0, x1, x2, x3, x4, x5, x6, x7, x8, x9, x10⟩ := H11.out.2.1.1.cells
     obtain ⟨c0, c1, c2, c3, c4, c5, c6, c7, c8, c9, c10⟩ := H11.out.2.2.1.cells
     refine aA (w0 := w11) rfl [.eq (.agg #[.int .i64 r.k, .int .u64 (r.t : Nat), .int .u64 (r.x : Nat), .int .u64 (r.w : Nat), .int .u64 (r.n : Nat), .int .u64 (r.v : Nat), .int .i64 c_0, .int .u64 (c_1 : Nat), .int .u64 (c_2 : Nat), .slice c_3 c_4 c_5, .slice c_6 r.es.length c_7]), .eq (.agg #[.int .i64 r.k, .int .u64 (r.t : Nat), .int .u64 (r.x : Nat), .int .u64 (r.w : Nat), .int .u64 (r.n : Nat), .int .u64 (r.v : Nat), .int .i64 a_0, .int .u64 (a_1 : Nat), .int .u64 (a_2 : Nat), .slice a_3 a_4 a_5, .slice a_6 r.es.length a_7]), .eq (.bool true), .eq (.bool false), .eq (.bool false), .eq (.agg #[.int .i64 r.k, .int .u64 (r.t : Nat), .int .u64 (r.x : Nat), .int .u64 (r.w : Nat), .int .u64 (r.n : Nat), .int .u64 (r.v : Nat), .int .i64 c_0, .int .u64 (c_1 : Nat), .int .u64 (c_2 : Nat), .slice c_3 c_4 c_5, .slice c_6 r.es.length c_7]), .of (pRf r), .eq (.agg #[.int .i64 r.k, .int .u64 (r.t : Nat), .int .u64 (r.x : Nat), .int .u64 (r.w : Nat), .int .u64 (r.n : Nat), .int .u64 (r.v : Nat), .int .i64 x_0, .int .u64 (x_1 : Nat), .int .u64 (x_2 : Nat), .slice x_3 x_4 x_5, .slice x_6 r.es.length x_7]), .eq (.bool true), .eq (.bool false), .eq (.bool false)] (by kernel_rfl) ⟨?_, ?_, ?_, ?_, ?_, ?_, ?_, ?_, ?_, ?_, ?_, ?_, trivial⟩ (fun vs => [(74, (.agg #[.int .i64 r.k, .int .u64 (r.t : Nat), .int .u64 (r.x : Nat), .int .u64 (r.w : Nat), .int .u64 (r.n : Nat), .int .u64 (r.v : Nat), .int .i64 c_0, .int .u64 (c_1 : Nat), .int .u64 (c_2 : Nat), .slice c_3 c_4 c_5, .slice c_6 r.es.length c_7])), (75, (.agg #[.int .i64 r.k, .int .u64 (r.t : Nat), .int .u64 (r.x : Nat), .int .u64 (r.w : Nat), .int .u64 (r.n : Nat), .int .u64 (r.v : Nat), .int .i64 a_0, .int .u64 (a_1 : Nat), .int .u64 (a_2 : Nat), .slice a_3 a_4 a_5, .slice a_6 r.es.length a_7])), (76, (.bool true)), (77, (.bool false)), (78, (.bool false)), (79, (.agg #[.int .i64 r.k, .int .u64 (r.t : Nat), .int .u64 (r.x : Nat), .int .u64 (r.w : Nat), .int .u64 (r.n : Nat), .int .u64 (r.v : Nat), .int .i64 c_0, .int .u64 (c_1 : Nat), .int .u64 (c_2 : Nat), .slice c_3 c_4 c_5, .slice c_6 r.es.length c_7])), (80, vs 6), (81, (.agg #[.int .i64 r.k, .int .u64 (r.t : Nat), .int .u64 (r.x : Nat), .int .u64 (r.w : Nat), .int .u64 (r.n : Nat), .int .u64 (r.v : Nat), .int .i64 x_0, .int .u64 (x_1 : Nat), .int .u64 (x_2 : Nat), .slice x_3 x_4 x_5, .slice x_6 r.es.length x_7])), (82, (.bool true)), (83, (.bool false)), (84, (.bool false))]) (fun _ => rfl) ?_
     ·refine rs fun S a wx K Q hR hK => ?_
      have t16 : a.tmps[16]? = some (.pointer (some ⟨g10, 0, none⟩)) := hR.o 16
      have y0 := (hR.bel.cell lc).trans c0
      have y1 := (hR.bel.cell lc).trans c1
      have y2 := (hR.bel.cell lc).trans c2
      have y3 := (hR.bel.cell lc).trans c3
      have y4 := (hR.bel.cell lc).trans c4
      have y5 := (hR.bel.cell lc).trans c5
      have y6 := (hR.bel.cell lc).trans c6
      have y7 := (hR.bel.cell lc).trans c7
      have y8 := (hR.bel.cell lc).trans c8
      have y9 := (hR.bel.cell lc).trans c9
      have y10 := (hR.bel.cell lc).trans c10
      go_simp
      exact hK _ _ br rfl
     ·refine rs fun S a wx K Q hR hK => ?_
      have t4 : a.tmps[4]? = some (.pointer (some ⟨w.heap.size, 0, none⟩)) := hR.o 4
      have y0 := (hR.bel.cell la).trans a0
      have y1 := (hR.bel.cell la).trans a1
      have y2 := (hR.bel.cell la).trans a2
      have y3 := (hR.bel.cell la).trans a3
      have y4 := (hR.bel.cell la).trans a4
      have y5 := (hR.bel.cell la).trans a5
      have y6 := (hR.bel.cell la).trans a6
      have y7 := (hR.bel.cell la).trans a7
      have y8 := (hR.bel.cell la).trans a8
      have y9 := (hR.bel.cell la).trans a9
      have y10 := (hR.bel.cell la).trans a10
      go_simp
      exact hK _ _ br rfl
     ·refine rs fun S a wx K Q hR hK => ?_
      have t74 := hR.q 0
      have t75 := hR.q 1
      go_simp
      go_at_call 22
      go_fit (fu _ _ _ _ r r _ _ _ (H11.out.2.2.1.r.below hR.bel nl) (H11.out.1.pa.r.below hR.bel nl))
      rintro e w' ⟨rfl, hbt⟩
      rw [Rec.same_refl]
      exact hK _ _ hbt rfl
     ·refine rs fun S a wx K Q hR hK => ?_
      have t76 := hR.q 2
      go_simp
      exact hK _ _ br rfl
     ·refine rs fun S a wx K Q hR hK => ?_
      have t77 := hR.q 3
      go_simp
      exact hK _ _ br rfl
     ·refine rs fun S a wx K Q hR hK => ?_
      have t16 : a.tmps[16]? = some (.pointer (some ⟨g10, 0, none⟩)) := hR.o 16
      have y0 := (hR.bel.cell lc).trans c0
      have y1 := (hR.bel.cell lc).trans c1
      have y2 := (hR.bel.cell lc).trans c2
      have y3 := (hR.bel.cell lc).trans c3
      have y4 := (hR.bel.cell lc).trans c4
      have y5 := (hR.bel.cell lc).trans c5
      have y6 := (hR.bel.cell lc).trans c6
      have y7 := (hR.bel.cell lc).trans c7
      have y8 := (hR.bel.cell lc).trans c8
      have y9 := (hR.bel.cell lc).trans c9
      have y10 := (hR.bel.cell lc).trans c10
      go_simp
      exact hK _ _ br rfl
     ·exact iH _
     ·refine rs fun S a wx K Q hR hK => ?_
      have t79 := hR.q 5
      go_simp
      go_at_call 11
      go_fit (dG _ _ r _ _ (by have := HSr.out.2.2; omega) (by have := HSr.out.2.1; omega) (by have := HSr.out.1; omega) (H11.out.2.2.1.r.below hR.bel nl))
      rintro e w' ⟨⟨vt, rfl, hvt⟩, hbt⟩
      exact hK _ _ hbt (hvt.wider (fun b _ h => hR.new b h))
     ·refine rs fun S a wx K Q hR hK => ?_
      have t9 : a.tmps[9]? = some (.pointer (some ⟨g, 0, none⟩)) := hR.o 9
      have y0 := (hR.bel.cell lx).trans x0
      have y1 := (hR.bel.cell lx).trans x1
      have y2 := (hR.bel.cell lx).trans x2
      have y3 := (hR.bel.cell lx).trans x3
      have y4 := (hR.bel.cell lx).trans x4
      have y5 := (hR.bel.cell lx).trans x5
      have y6 := (hR.bel.cell lx).trans x6
      have y7 := (hR.bel.cell lx).trans x7
      have y8 := (hR.bel.cell lx).trans x8
      have y9 := (hR.bel.cell lx).trans x9
      have y10 := (hR.bel.cell lx).trans x10
      go_simp
      exact hK _ _ br rfl
     ·refine rs fun S a wx K Q hR hK => ?_
      obtain ⟨u80, t80, f80⟩ := hR.f 6
      have t81 := hR.q 7
      have f80b : aI wx S true r u80 := f80
      go_simp
      go_at_call 10
      go_fit (aU _ _ _ _ r r _ _ _ (by have := HSr.out.2.2; omega) f80b (H11.out.2.1.1.r.below hR.bel nl))
      rintro e w' ⟨rfl, hbt⟩
      rw [Rec.same_refl]
      exact hK _ _ hbt rfl
     ·refine rs fun S a wx K Q hR hK => ?_
      have t82 := hR.q 8
      go_simp
      exact hK _ _ br rfl
     ·refine rs fun S a wx K Q hR hK => ?_
      have t78 := hR.q 4
      have t83 := hR.q 9
      go_simp
      exact hK _ _ br rfl
     intro S13 vs w12 hD
     have H12 := hid (And.intro (H11.out.2.2.1.below hD.bel nl) (H11.out.2.2.2.trans (hD.bel.mono H11.out.2.2.2.size)))
     simp only [aM, List.foldl_cons, List.foldl_nil]
     clear hD H11 la lx lc a0 a1 a2 a3 a4 a5 a6 a7 a8 a9 a10 x0 x1 x2 x3 x4 x5 x6 x7 x8 x9 x10 c0 c1 c2 c3 c4 c5 c6 c7 c8 c9 c10
     go_simp
     obtain ⟨c0, c1, c2, c3, c4, c5, c6, c7, c8, c9, c10⟩ := H12.out.1.cells
     go_wp2_with fail
     refine (oQ wr.heap.size (fun b => w9.heap.size ≤ b ∧ b < g10) (fun b h => by omega) r _ w12 H12.out.2.size (by have := HSr.out.2.2; omega) H12.out.1.r).mono ?_
     rintro e w13 ⟨rfl, hb13, _⟩
     have HB13 := hid (HQ.out.trans ((H12.out.2.trans hb13).mono hsr))
     clear hb13 c0 c1 c2 c3 c4 c5 c6 c7 c8 c9 c10 H12
     go_wp2_with fail
     go_roundw
     case rel => exact ⟨j + 1, by omega, by go_num, HB13⟩
     case measure => simp [intOf]; omega
    ·have hj2 : j = 2 := by omega
     subst hj2
     clear HGr lg lx a0 a1 a2 a3 a4 a5 a6 a7 a8 a9 a10
     have lv := HKr.out.lt
     obtain ⟨t0, t1⟩ := dA HKr.out.v0
     obtain ⟨s0, s1⟩ := dA HKr.out.v1
     have l2 : w.heap.size + 2 < wr.heap.size := by omega
     have hinv : (Tryz.prog.info? 31).map (·.size) = some 2 := by kernel_rfl
     go_upto_region 16 with fail
     refine aA (w0 := wr) rfl [.eq (.agg #[.int .u64 (va : Nat), .int .u64 (vb : Nat)]), .eq (.agg #[.int .u64 (va : Nat), .int .u64 (vb : Nat)]), .eq (.agg #[.int .u64 (wa : Nat), .int .u64 (wb : Nat)]), .eq (.agg #[.int .u64 (wa : Nat), .int .u64 (wb : Nat)]), .box 31 #[.int .u64 0, .int .u64 0], .box 31 #[.int .u64 0, .int .u64 0], .sto 4 1, .sto 5 3] (by kernel_rfl) ⟨?_, ?_, ?_, ?_, ?_, ?_, ?_, ?_, trivial⟩ (fun vs => [(87, (.agg #[.int .u64 (va : Nat), .int .u64 (vb : Nat)])), (88, (.agg #[.int .u64 (va : Nat), .int .u64 (vb : Nat)])), (89, (.agg #[.int .u64 (wa : Nat), .int .u64 (wb : Nat)])), (90, (.agg #[.int .u64 (wa : Nat), .int .u64 (wb : Nat)])), (17, vs 4), (18, vs 5)]) (fun _ => rfl) ?_
     ·refine rs fun S a wx K Q hR hK => ?_
      have t6 : a.tmps[6]? = some (.pointer (some ⟨w.heap.size + 2, 0, none⟩)) := hR.o 6
      have y0 := (hR.bel.cell l2).trans t0
      have y1 := (hR.bel.cell l2).trans t1
      go_simp
      exact hK _ _ br rfl
     ·refine rs fun S a wx K Q hR hK => ?_
      have t87 := hR.q 0
      go_simp
      go_at_call 23
      go_fit (dZ _ _ _)
      rintro e w' ⟨rfl, hbt⟩
      exact hK _ _ hbt rfl
     ·refine rs fun S a wx K Q hR hK => ?_
      have t7 : a.tmps[7]? = some (.pointer (some ⟨w.heap.size + 3, 0, none⟩)) := hR.o 7
      have y0 := (hR.bel.cell lv).trans s0
      have y1 := (hR.bel.cell lv).trans s1
      go_simp
      exact hK _ _ br rfl
     ·refine rs fun S a wx K Q hR hK => ?_
      have t89 := hR.q 2
      go_simp
      go_at_call 23
      go_fit (dZ _ _ _)
      rintro e w' ⟨rfl, hbt⟩
      exact hK _ _ hbt rfl
     ·intro w; kernel_rfl
     ·intro w; kernel_rfl
     ·exact StoOK.mk rfl rfl rfl hinv (fun S v w h => ⟨_, h, rfl, by simp [Value.oneCell']⟩)
     ·exact StoOK.mk rfl rfl rfl hinv (fun S v w h => ⟨_, h, rfl, by simp [Value.oneCell']⟩)
     intro S16 vs wd hD
     obtain ⟨h, cs, e5, _, _, hg3, e24, _⟩ := hD.box 6 4 1 _ _ rfl rfl
     obtain ⟨h', cs', e6, _, _, hg3', e26, _⟩ := hD.box 7 5 3 _ _ rfl rfl
     have r1 : vs 1 = .agg #[.int .u64 (va : Nat), .int .u64 (vb : Nat)] := hD.eqs 1 _ rfl
     have r3 : vs 3 = .agg #[.int .u64 (wa : Nat), .int .u64 (wb : Nat)] := hD.eqs 3 _ rfl
     rw [r1] at e24
     rw [r3] at e26
     injection e24 with e24
     injection e26 with e26
     subst e24 e26
     have e5' : vs 4 = .pointer (some ⟨h, 0, none⟩) := e5
     have e6' : vs 5 = .pointer (some ⟨h', 0, none⟩) := e6
     have HV : Hid (wd.heap[h]? = some (.cells #[.int .u64 (va : Nat), .int .u64 (vb : Nat)] 31 (0, 0)) ∧ wd.heap[h']? = some (.cells #[.int .u64 (wa : Nat), .int .u64 (wb : Nat)] 31 (0, 0))) := hid ⟨hg3, hg3'⟩
     have HK4 := hid (HKr.out.below hD.bel)
     have HX4 := hid (And.intro (HXr.out.1.below hD.bel) (HXr.out.2.below hD.bel))
     simp only [e5', e6', aM, List.foldl_cons, List.foldl_nil]
     clear hD e5 e6 e5' e6' r1 r3 hg3 hg3' HKr HXr la lv l2 t0 t1 s0 s1
     go_simp
     have la := HK4.out.pa.lt
     have lb := HK4.out.pb.lt
     have lv := HK4.out.lt
     have l2 : w.heap.size + 2 < wd.heap.size := by omega
     have lx := HX4.out.1.lt
     have ly := HX4.out.2.lt
     have lh : h < wd.heap.size := (Array.getElem?_eq_some_iff.1 HV.out.1).1
     have lh' : h' < wd.heap.size := (Array.getElem?_eq_some_iff.1 HV.out.2).1
     obtain ⟨a0, a1, a2, a3, a4, a5, a6, a7, a8, a9, a10⟩ := HK4.out.pa.cells
     obtain ⟨b0, b1, b2, b3, b4, b5, b6, b7, b8, b9, b10⟩ := HK4.out.pb.cells
     obtain ⟨x0, x1, x2, x3, x4, x5, x6, x7, x8, x9, x10⟩ := HX4.out.1.cells
     obtain ⟨y0, y1, y2, y3, y4, y5, y6, y7, y8, y9, y10⟩ := HX4.out.2.cells
     obtain ⟨t0, t1⟩ := dA HK4.out.v0
     obtain ⟨s0, s1⟩ := dA HK4.out.v1
     obtain ⟨h0, h1⟩ := dA HV.out.1
     obtain ⟨i0, i1⟩ := dA HV.out.2
     obtain ⟨SM, hSM⟩ : ∃ SM, SM = r.same o := ⟨_, rfl⟩
     obtain ⟨CV, hCV⟩ : ∃ CV, CV = qO va vb wa wb := ⟨_, rfl⟩
     obtain ⟨VT, hVT⟩ : ∃ VT : ByteArray, VT = ⟨(dU va vb).toArray⟩ := ⟨_, rfl⟩
     obtain ⟨B1, hB1⟩ : ∃ B1, B1 = decide (vb = 0) := ⟨_, rfl⟩
     have HC := hid (And.intro hSM (And.intro hCV (And.intro hVT hB1)))
     clear hSM hCV hVT
     go_upto_region 17 with fail
     by_cases hv0 : va = 0
     ·have HU : Hid ((decide (va = 0) && decide (vb = 0)) = B1) := hid (by rw [hB1, hv0]; simp)
      have HZ : Hid ((va : Int) = 0) := hid (by omega)
      have HB := hid hB1
      clear hB1 hv0
      refine aA (w0 := wd) rfl ((.eq (.agg #[.int .i64 r.k, .int .u64 (r.t : Nat), .int .u64 (r.x : Nat), .int .u64 (r.w : Nat), .int .u64 (r.n : Nat), .int .u64 (r.v : Nat), .int .i64 a_0, .int .u64 (a_1 : Nat), .int .u64 (a_2 : Nat), .slice a_3 a_4 a_5, .slice a_6 r.es.length a_7])) :: (.eq (.agg #[.int .i64 o.k, .int .u64 (o.t : Nat), .int .u64 (o.x : Nat), .int .u64 (o.w : Nat), .int .u64 (o.n : Nat), .int .u64 (o.v : Nat), .int .i64 b_0, .int .u64 (b_1 : Nat), .int .u64 (b_2 : Nat), .slice b_3 b_4 b_5, .slice b_6 o.es.length b_7])) :: (.eq (.bool SM)) :: (.eq (.agg #[.int .i64 r.k, .int .u64 (r.t : Nat), .int .u64 (r.x : Nat), .int .u64 (r.w : Nat), .int .u64 (r.n : Nat), .int .u64 (r.v : Nat), .int .i64 x_0, .int .u64 (x_1 : Nat), .int .u64 (x_2 : Nat), .slice x_3 x_4 x_5, .slice x_6 r.es.length x_7])) :: (.eq (.agg #[.int .i64 o.k, .int .u64 (o.t : Nat), .int .u64 (o.x : Nat), .int .u64 (o.w : Nat), .int .u64 (o.n : Nat), .int .u64 (o.v : Nat), .int .i64 y_0, .int .u64 (y_1 : Nat), .int .u64 (y_2 : Nat), .slice y_3 y_4 y_5, .slice y_6 o.es.length y_7])) :: (.eq (.bool SM)) :: (.eq (.bool true)) :: (.eq (.bool true)) :: (.eq (.agg #[.int .i64 r.k, .int .u64 (r.t : Nat), .int .u64 (r.x : Nat), .int .u64 (r.w : Nat), .int .u64 (r.n : Nat), .int .u64 (r.v : Nat), .int .i64 a_0, .int .u64 (a_1 : Nat), .int .u64 (a_2 : Nat), .slice a_3 a_4 a_5, .slice a_6 r.es.length a_7])) :: (.of (pRf r)) :: (.eq (.agg #[.int .i64 r.k, .int .u64 (r.t : Nat), .int .u64 (r.x : Nat), .int .u64 (r.w : Nat), .int .u64 (r.n : Nat), .int .u64 (r.v : Nat), .int .i64 x_0, .int .u64 (x_1 : Nat), .int .u64 (x_2 : Nat), .slice x_3 x_4 x_5, .slice x_6 r.es.length x_7])) :: (.eq (.bool true)) :: (.eq (.bool true)) :: (.eq (.bool true)) :: (.eq (.agg #[.int .u64 (va : Nat), .int .u64 (vb : Nat)])) :: (.eq (.agg #[.int .u64 (wa : Nat), .int .u64 (wb : Nat)])) :: (.eq (.int .i64 CV)) :: (.eq (.agg #[.int .u64 (va : Nat), .int .u64 (vb : Nat)])) :: (.eq (.agg #[.int .u64 (wa : Nat), .int .u64 (wb : Nat)])) :: (.eq (.int .i64 CV)) :: (.eq (.bool true)) :: (.eq (.bool true)) :: (.eq (.bool true)) :: (.eq (.agg #[.int .u64 (va : Nat), .int .u64 (vb : Nat)])) :: (.eq (.string VT)) :: (.eq (.agg #[.int .u64 (va : Nat), .int .u64 (vb : Nat)])) :: (.eq (.string VT)) :: (.eq (.bool true)) :: (.eq (.bool true)) :: (.eq (.bool true)) :: (.eq (.agg #[.int .u64 (va : Nat), .int .u64 (vb : Nat)])) :: (.eq (.bool B1)) :: (.eq (.pointer (some ⟨w.heap.size + 2, 0, none⟩))) :: (.eq (.int .u64 (va : Nat))) :: (.eq (.bool true)) :: (.eq (.bool true)) :: (.eq (.pointer (some ⟨w.heap.size + 2, 1, none⟩))) :: (.eq (.int .u64 (vb : Nat))) :: (.eq (.bool B1)) :: (.eq (.bool B1)) :: (.eq (.bool true)) :: (.eq (.bool true)) :: (.eq (.bool true)) :: (.eq (.bool true)) :: (.eq (.bool true)) :: (.eq (.bool true)) :: []) (by kernel_rfl) ⟨?_, ?_, ?_, ?_, ?_, ?_, ?_, ?_, ?_, ?_, ?_, ?_, ?_, ?_, ?_, ?_, ?_, ?_, ?_, ?_, ?_, ?_, ?_, ?_, ?_, ?_, ?_, ?_, ?_, ?_, ?_, ?_, ?_, ?_, ?_, ?_, ?_, ?_, ?_, ?_, ?_, ?_, ?_, ?_, ?_, ?_, ?_, trivial⟩ (fun vs => [(91, (.agg #[.int .i64 r.k, .int .u64 (r.t : Nat), .int .u64 (r.x : Nat), .int .u64 (r.w : Nat), .int .u64 (r.n : Nat), .int .u64 (r.v : Nat), .int .i64 a_0, .int .u64 (a_1 : Nat), .int .u64 (a_2 : Nat), .slice a_3 a_4 a_5, .slice a_6 r.es.length a_7])), (92, (.agg #[.int .i64 o.k, .int .u64 (o.t : Nat), .int .u64 (o.x : Nat), .int .u64 (o.w : Nat), .int .u64 (o.n : Nat), .int .u64 (o.v : Nat), .int .i64 b_0, .int .u64 (b_1 : Nat), .int .u64 (b_2 : Nat), .slice b_3 b_4 b_5, .slice b_6 o.es.length b_7])), (93, (.bool SM)), (94, (.agg #[.int .i64 r.k, .int .u64 (r.t : Nat), .int .u64 (r.x : Nat), .int .u64 (r.w : Nat), .int .u64 (r.n : Nat), .int .u64 (r.v : Nat), .int .i64 x_0, .int .u64 (x_1 : Nat), .int .u64 (x_2 : Nat), .slice x_3 x_4 x_5, .slice x_6 r.es.length x_7])), (95, (.agg #[.int .i64 o.k, .int .u64 (o.t : Nat), .int .u64 (o.x : Nat), .int .u64 (o.w : Nat), .int .u64 (o.n : Nat), .int .u64 (o.v : Nat), .int .i64 y_0, .int .u64 (y_1 : Nat), .int .u64 (y_2 : Nat), .slice y_3 y_4 y_5, .slice y_6 o.es.length y_7])), (96, (.bool SM)), (97, (.bool true)), (98, (.bool true)), (99, (.agg #[.int .i64 r.k, .int .u64 (r.t : Nat), .int .u64 (r.x : Nat), .int .u64 (r.w : Nat), .int .u64 (r.n : Nat), .int .u64 (r.v : Nat), .int .i64 a_0, .int .u64 (a_1 : Nat), .int .u64 (a_2 : Nat), .slice a_3 a_4 a_5, .slice a_6 r.es.length a_7])), (100, vs 9), (101, (.agg #[.int .i64 r.k, .int .u64 (r.t : Nat), .int .u64 (r.x : Nat), .int .u64 (r.w : Nat), .int .u64 (r.n : Nat), .int .u64 (r.v : Nat), .int .i64 x_0, .int .u64 (x_1 : Nat), .int .u64 (x_2 : Nat), .slice x_3 x_4 x_5, .slice x_6 r.es.length x_7])), (102, (.bool true)), (103, (.bool true)), (104, (.bool true)), (105, (.agg #[.int .u64 (va : Nat), .int .u64 (vb : Nat)])), (106, (.agg #[.int .u64 (wa : Nat), .int .u64 (wb : Nat)])), (107, (.int .i64 CV)), (108, (.agg #[.int .u64 (va : Nat), .int .u64 (vb : Nat)])), (109, (.agg #[.int .u64 (wa : Nat), .int .u64 (wb : Nat)])), (110, (.int .i64 CV)), (111, (.bool true)), (112, (.bool true)), (113, (.bool true)), (114, (.agg #[.int .u64 (va : Nat), .int .u64 (vb : Nat)])), (115, (.string VT)), (116, (.agg #[.int .u64 (va : Nat), .int .u64 (vb : Nat)])), (117, (.string VT)), (118, (.bool true)), (119, (.bool true)), (120, (.bool true)), (121, (.agg #[.int .u64 (va : Nat), .int .u64 (vb : Nat)])), (122, (.bool B1)), (123, (.pointer (some ⟨w.heap.size + 2, 0, none⟩))), (124, (.int .u64 (va : Nat))), (125, (.bool true)), (126, (.bool true)), (127, (.pointer (some ⟨w.heap.size + 2, 1, none⟩))), (128, (.int .u64 (vb : Nat))), (129, (.bool B1)), (130, (.bool B1)), (131, (.bool true)), (132, (.bool true)), (133, (.bool true)), (134, (.bool true)), (135, (.bool true)), (8, (.bool true))]) (fun _ => rfl) ?_
      ·refine rs fun S a wx K Q hR hK => ?_
       have t4 : a.tmps[4]? = some (.pointer (some ⟨w.heap.size, 0, none⟩)) := hR.o 4
       have y0 := (hR.bel.cell la).trans a0
       have y1 := (hR.bel.cell la).trans a1
       have y2 := (hR.bel.cell la).trans a2
       have y3 := (hR.bel.cell la).trans a3
       have y4 := (hR.bel.cell la).trans a4
       have y5 := (hR.bel.cell la).trans a5
       have y6 := (hR.bel.cell la).trans a6
       have y7 := (hR.bel.cell la).trans a7
       have y8 := (hR.bel.cell la).trans a8
       have y9 := (hR.bel.cell la).trans a9
       have y10 := (hR.bel.cell la).trans a10
       go_simp
       exact hK _ _ br rfl
      ·refine rs fun S a wx K Q hR hK => ?_
       have t5 : a.tmps[5]? = some (.pointer (some ⟨w.heap.size + 1, 0, none⟩)) := hR.o 5
       have y0 := (hR.bel.cell lb).trans b0
       have y1 := (hR.bel.cell lb).trans b1
       have y2 := (hR.bel.cell lb).trans b2
       have y3 := (hR.bel.cell lb).trans b3
       have y4 := (hR.bel.cell lb).trans b4
       have y5 := (hR.bel.cell lb).trans b5
       have y6 := (hR.bel.cell lb).trans b6
       have y7 := (hR.bel.cell lb).trans b7
       have y8 := (hR.bel.cell lb).trans b8
       have y9 := (hR.bel.cell lb).trans b9
       have y10 := (hR.bel.cell lb).trans b10
       go_simp
       exact hK _ _ br rfl
      ·refine rs fun S a wx K Q hR hK => ?_
       have t91 := hR.q 0
       have t92 := hR.q 1
       go_simp
       go_at_call 22
       go_fit (fu _ _ _ _ r o _ _ _ (HK4.out.pa.r.below hR.bel nl) (HK4.out.pb.r.below hR.bel nl))
       rintro e w' ⟨rfl, hbt⟩
       exact hK _ _ hbt (by rw [HC.out.1]; rfl)
      ·refine rs fun S a wx K Q hR hK => ?_
       have t9 : a.tmps[9]? = some (.pointer (some ⟨g, 0, none⟩)) := hR.o 9
       have y0 := (hR.bel.cell lx).trans x0
       have y1 := (hR.bel.cell lx).trans x1
       have y2 := (hR.bel.cell lx).trans x2
       have y3 := (hR.bel.cell lx).trans x3
       have y4 := (hR.bel.cell lx).trans x4
       have y5 := (hR.bel.cell lx).trans x5
       have y6 := (hR.bel.cell lx).trans x6
       have y7 := (hR.bel.cell lx).trans x7
       have y8 := (hR.bel.cell lx).trans x8
       have y9 := (hR.bel.cell lx).trans x9
       have y10 := (hR.bel.cell lx).trans x10
       go_simp
       exact hK _ _ br rfl
      ·refine rs fun S a wx K Q hR hK => ?_
       have t10 : a.tmps[10]? = some (.pointer (some ⟨g', 0, none⟩)) := hR.o 10
       have y0 := (hR.bel.cell ly).trans y0
       have y1 := (hR.bel.cell ly).trans y1
       have y2 := (hR.bel.cell ly).trans y2
       have y3 := (hR.bel.cell ly).trans y3
       have y4 := (hR.bel.cell ly).trans y4
       have y5 := (hR.bel.cell ly).trans y5
       have y6 := (hR.bel.cell ly).trans y6
       have y7 := (hR.bel.cell ly).trans y7
       have y8 := (hR.bel.cell ly).trans y8
       have y9 := (hR.bel.cell ly).trans y9
       have y10 := (hR.bel.cell ly).trans y10
       go_simp
       exact hK _ _ br rfl
      ·refine rs fun S a wx K Q hR hK => ?_
       have t94 := hR.q 3
       have t95 := hR.q 4
       go_simp
       go_at_call 10
       go_fit (aU _ _ _ _ r o _ _ _ (by have := HSr.out.2.2; omega) (HX4.out.1.r.below hR.bel nl) (HX4.out.2.r.below hR.bel nl))
       rintro e w' ⟨rfl, hbt⟩
       exact hK _ _ hbt (by rw [HC.out.1]; rfl)
      ·refine rs fun S a wx K Q hR hK => ?_
       have t93 := hR.q 2
       have t96 := hR.q 5
       go_simp
       (try go_ints)
       exact hK _ _ br rfl
      ·refine rs fun S a wx K Q hR hK => ?_
       have t97 := hR.q 6
       go_simp
       exact hK _ _ br rfl
      ·refine rs fun S a wx K Q hR hK => ?_
       have t4 : a.tmps[4]? = some (.pointer (some ⟨w.heap.size, 0, none⟩)) := hR.o 4
       have y0 := (hR.bel.cell la).trans a0
       have y1 := (hR.bel.cell la).trans a1
       have y2 := (hR.bel.cell la).trans a2
       have y3 := (hR.bel.cell la).trans a3
       have y4 := (hR.bel.cell la).trans a4
       have y5 := (hR.bel.cell la).trans a5
       have y6 := (hR.bel.cell la).trans a6
       have y7 := (hR.bel.cell la).trans a7
       have y8 := (hR.bel.cell la).trans a8
       have y9 := (hR.bel.cell la).trans a9
       have y10 := (hR.bel.cell la).trans a10
       go_simp
       exact hK _ _ br rfl
      ·exact iH _
      ·refine rs fun S a wx K Q hR hK => ?_
       have t99 := hR.q 8
       go_simp
       go_at_call 11
       go_fit (dG _ _ r _ _ (by have := HSr.out.2.2; omega) (by have := HSr.out.2.1; omega) (by have := HSr.out.1; omega) (HK4.out.pa.r.below hR.bel nl))
       rintro e w' ⟨⟨vt, rfl, hvt⟩, hbt⟩
       exact hK _ _ hbt (hvt.wider (fun b _ h => hR.new b h))
      ·refine rs fun S a wx K Q hR hK => ?_
       have t9 : a.tmps[9]? = some (.pointer (some ⟨g, 0, none⟩)) := hR.o 9
       have y0 := (hR.bel.cell lx).trans x0
       have y1 := (hR.bel.cell lx).trans x1
       have y2 := (hR.bel.cell lx).trans x2
       have y3 := (hR.bel.cell lx).trans x3
       have y4 := (hR.bel.cell lx).trans x4
       have y5 := (hR.bel.cell lx).trans x5
       have y6 := (hR.bel.cell lx).trans x6
       have y7 := (hR.bel.cell lx).trans x7
       have y8 := (hR.bel.cell lx).trans x8
       have y9 := (hR.bel.cell lx).trans x9
       have y10 := (hR.bel.cell lx).trans x10
       go_simp
       exact hK _ _ br rfl
      ·refine rs fun S a wx K Q hR hK => ?_
       obtain ⟨u100, t100, f100⟩ := hR.f 9
       have t101 := hR.q 10
       have f100b : aI wx S true r u100 := f100
       go_simp
       go_at_call 10
       go_fit (aU _ _ _ _ r r _ _ _ (by have := HSr.out.2.2; omega) f100b (HX4.out.1.r.below hR.bel nl))
       rintro e w' ⟨rfl, hbt⟩
       rw [Rec.same_refl]
       exact hK _ _ hbt rfl
      ·refine rs fun S a wx K Q hR hK => ?_
       have t98 := hR.q 7
       have t102 := hR.q 11
       go_simp
       exact hK _ _ br rfl
      ·refine rs fun S a wx K Q hR hK => ?_
       have t103 := hR.q 12
       go_simp
       exact hK _ _ br rfl
      ·refine rs fun S a wx K Q hR hK => ?_
       have t6 : a.tmps[6]? = some (.pointer (some ⟨w.heap.size + 2, 0, none⟩)) := hR.o 6
       have y0 := (hR.bel.cell l2).trans t0
       have y1 := (hR.bel.cell l2).trans t1
       go_simp
       exact hK _ _ br rfl
      ·refine rs fun S a wx K Q hR hK => ?_
       have t7 : a.tmps[7]? = some (.pointer (some ⟨w.heap.size + 3, 0, none⟩)) := hR.o 7
       have y0 := (hR.bel.cell lv).trans s0
       have y1 := (hR.bel.cell lv).trans s1
       go_simp
       exact hK _ _ br rfl
      ·refine rs fun S a wx K Q hR hK => ?_
       have t105 := hR.q 14
       have t106 := hR.q 15
       go_simp
       go_at_call 24
       go_fit (lZ va vb wa wb _)
       rintro e w' ⟨rfl, hbt⟩
       exact hK _ _ hbt (by rw [HC.out.2.1]; rfl)
      ·refine rs fun S a wx K Q hR hK => ?_
       have t17 : a.tmps[17]? = some (.pointer (some ⟨h, 0, none⟩)) := hR.o 17
       have y0 := (hR.bel.cell lh).trans h0
       have y1 := (hR.bel.cell lh).trans h1
       go_simp
       exact hK _ _ br rfl
      ·refine rs fun S a wx K Q hR hK => ?_
       have t18 : a.tmps[18]? = some (.pointer (some ⟨h', 0, none⟩)) := hR.o 18
       have y0 := (hR.bel.cell lh').trans i0
       have y1 := (hR.bel.cell lh').trans i1
       go_simp
       exact hK _ _ br rfl
      ·refine rs fun S a wx K Q hR hK => ?_
       have t108 := hR.q 17
       have t109 := hR.q 18
       go_simp
       go_at_call 25
       go_fit (ma va vb wa wb _)
       rintro e w' ⟨rfl, hbt⟩
       exact hK _ _ hbt (by rw [HC.out.2.1]; rfl)
      ·refine rs fun S a wx K Q hR hK => ?_
       have t107 := hR.q 16
       have t110 := hR.q 19
       go_simp
       (try go_ints)
       exact hK _ _ br rfl
      ·refine rs fun S a wx K Q hR hK => ?_
       have t104 := hR.q 13
       have t111 := hR.q 20
       go_simp
       exact hK _ _ br rfl
      ·refine rs fun S a wx K Q hR hK => ?_
       have t112 := hR.q 21
       go_simp
       exact hK _ _ br rfl
      ·refine rs fun S a wx K Q hR hK => ?_
       have t6 : a.tmps[6]? = some (.pointer (some ⟨w.heap.size + 2, 0, none⟩)) := hR.o 6
       have y0 := (hR.bel.cell l2).trans t0
       have y1 := (hR.bel.cell l2).trans t1
       go_simp
       exact hK _ _ br rfl
      ·refine rs fun S a wx K Q hR hK => ?_
       have t114 := hR.q 23
       go_simp
       go_at_call 26
       go_fit (fM va vb _ H64.out.1 H64.out.2 (HK4.out.below hR.bel).lqAt.lv)
       rintro e w' ⟨rfl, hbt⟩
       exact hK _ _ hbt (by rw [HC.out.2.2.1]; rfl)
      ·refine rs fun S a wx K Q hR hK => ?_
       have t17 : a.tmps[17]? = some (.pointer (some ⟨h, 0, none⟩)) := hR.o 17
       have y0 := (hR.bel.cell lh).trans h0
       have y1 := (hR.bel.cell lh).trans h1
       go_simp
       exact hK _ _ br rfl
      ·refine rs fun S a wx K Q hR hK => ?_
       have t116 := hR.q 25
       go_simp
       go_at_call 27
       go_fit (fO va vb _ H64.out.1 H64.out.2)
       rintro e w' ⟨rfl, hbt⟩
       exact hK _ _ hbt (by rw [HC.out.2.2.1]; rfl)
      ·refine rs fun S a wx K Q hR hK => ?_
       have t115 := hR.q 24
       have t117 := hR.q 26
       go_simp
       (try go_ints)
       exact hK _ _ br rfl
      ·refine rs fun S a wx K Q hR hK => ?_
       have t113 := hR.q 22
       have t118 := hR.q 27
       go_simp
       exact hK _ _ br rfl
      ·refine rs fun S a wx K Q hR hK => ?_
       have t119 := hR.q 28
       go_simp
       exact hK _ _ br rfl
      ·refine rs fun S a wx K Q hR hK => ?_
       have t6 : a.tmps[6]? = some (.pointer (some ⟨w.heap.size + 2, 0, none⟩)) := hR.o 6
       have y0 := (hR.bel.cell l2).trans t0
       have y1 := (hR.bel.cell l2).trans t1
       go_simp
       exact hK _ _ br rfl
      ·refine rs fun S a wx K Q hR hK => ?_
       have t121 := hR.q 30
       go_simp
       go_at_call 28
       go_fit (lY va vb _)
       rintro e w' ⟨rfl, hbt⟩
       exact hK _ _ hbt (by have h0 := HU.out; rw [h0]; rfl)
      ·refine rs fun S a wx K Q hR hK => ?_
       have t6 : a.tmps[6]? = some (.pointer (some ⟨w.heap.size + 2, 0, none⟩)) := hR.o 6
       go_simp
       exact hK _ _ br rfl
      ·refine rs fun S a wx K Q hR hK => ?_
       have t123 := hR.q 32
       have y0 := (hR.bel.cell l2).trans t0
       go_simp
       exact hK _ _ br rfl
      ·refine rs fun S a wx K Q hR hK => ?_
       have t124 := hR.q 33
       have z0 := HZ.out
       go_simp
       (try go_ints)
       exact hK _ _ br rfl
      ·refine rs fun S a wx K Q hR hK => ?_
       have t125 := hR.q 34
       go_simp
       exact hK _ _ br rfl
      ·refine rs fun S a wx K Q hR hK => ?_
       have t6 : a.tmps[6]? = some (.pointer (some ⟨w.heap.size + 2, 0, none⟩)) := hR.o 6
       go_simp
       exact hK _ _ br rfl
      ·refine rs fun S a wx K Q hR hK => ?_
       have t127 := hR.q 36
       have y0 := (hR.bel.cell l2).trans t1
       go_simp
       exact hK _ _ br rfl
      ·refine rs fun S a wx K Q hR hK => ?_
       have t128 := hR.q 37
       have z1 : ((vb : Int) == 0) = B1 := by rw [HB.out, Bool.eq_iff_iff]; simp
       have z2 : decide ((vb : Int) = 0) = B1 := by rw [HB.out, Bool.eq_iff_iff]; simp
       go_simp
       (try go_ints)
       exact hK _ _ br rfl
      ·refine rs fun S a wx K Q hR hK => ?_
       have t126 := hR.q 35
       have t129 := hR.q 38
       go_simp
       exact hK _ _ br rfl
      ·refine rs fun S a wx K Q hR hK => ?_
       have t122 := hR.q 31
       have t130 := hR.q 39
       go_simp
       (try go_ints)
       exact hK _ _ br rfl
      ·refine rs fun S a wx K Q hR hK => ?_
       have t120 := hR.q 29
       have t131 := hR.q 40
       go_simp
       exact hK _ _ br rfl
      ·refine rs fun S a wx K Q hR hK => ?_
       have t132 := hR.q 41
       go_simp
       exact hK _ _ br rfl
      ·refine rs fun S a wx K Q hR hK => ?_
       go_simp
       go_at_call 6
       go_fit (ic _ (HK4.out.below hR.bel).lqAt)
       rintro e w' ⟨rfl, hbt⟩
       exact hK _ _ hbt rfl
      ·refine rs fun S a wx K Q hR hK => ?_
       have t133 := hR.q 42
       have t134 := hR.q 43
       go_simp
       exact hK _ _ br rfl
      ·refine rs fun S a wx K Q hR hK => ?_
       have t135 := hR.q 44
       go_simp
       exact hK _ _ br rfl
      intro S17 vs w20 hD
      have HF := hid (HK4.out.below hD.bel).bel
      simp only [aM, List.foldl_cons, List.foldl_nil]
      clear hD
      go_simp
      go_wp2_with fail
      go_ret
      exact ⟨rfl, HF.out⟩
     ·have HU : Hid ((decide (va = 0) && decide (vb = 0)) = false) := hid (by simp [hv0])
      have HZ : Hid (¬ (va : Int) = 0) := hid (by omega)
      have HB := hid hB1
      clear hB1 hv0
      refine aA (w0 := wd) rfl ((.eq (.agg #[.int .i64 r.k, .int .u64 (r.t : Nat), .int .u64 (r.x : Nat), .int .u64 (r.w : Nat), .int .u64 (r.n : Nat), .int .u64 (r.v : Nat), .int .i64 a_0, .int .u64 (a_1 : Nat), .int .u64 (a_2 : Nat), .slice a_3 a_4 a_5, .slice a_6 r.es.length a_7])) :: (.eq (.agg #[.int .i64 o.k, .int .u64 (o.t : Nat), .int .u64 (o.x : Nat), .int .u64 (o.w : Nat), .int .u64 (o.n : Nat), .int .u64 (o.v : Nat), .int .i64 b_0, .int .u64 (b_1 : Nat), .int .u64 (b_2 : Nat), .slice b_3 b_4 b_5, .slice b_6 o.es.length b_7])) :: (.eq (.bool SM)) :: (.eq (.agg #[.int .i64 r.k, .int .u64 (r.t : Nat), .int .u64 (r.x : Nat), .int .u64 (r.w : Nat), .int .u64 (r.n : Nat), .int .u64 (r.v : Nat), .int .i64 x_0, .int .u64 (x_1 : Nat), .int .u64 (x_2 : Nat), .slice x_3 x_4 x_5, .slice x_6 r.es.length x_7])) :: (.eq (.agg #[.int .i64 o.k, .int .u64 (o.t : Nat), .int .u64 (o.x : Nat), .int .u64 (o.w : Nat), .int .u64 (o.n : Nat), .int .u64 (o.v : Nat), .int .i64 y_0, .int .u64 (y_1 : Nat), .int .u64 (y_2 : Nat), .slice y_3 y_4 y_5, .slice y_6 o.es.length y_7])) :: (.eq (.bool SM)) :: (.eq (.bool true)) :: (.eq (.bool true)) :: (.eq (.agg #[.int .i64 r.k, .int .u64 (r.t : Nat), .int .u64 (r.x : Nat), .int .u64 (r.w : Nat), .int .u64 (r.n : Nat), .int .u64 (r.v : Nat), .int .i64 a_0, .int .u64 (a_1 : Nat), .int .u64 (a_2 : Nat), .slice a_3 a_4 a_5, .slice a_6 r.es.length a_7])) :: (.of (pRf r)) :: (.eq (.agg #[.int .i64 r.k, .int .u64 (r.t : Nat), .int .u64 (r.x : Nat), .int .u64 (r.w : Nat), .int .u64 (r.n : Nat), .int .u64 (r.v : Nat), .int .i64 x_0, .int .u64 (x_1 : Nat), .int .u64 (x_2 : Nat), .slice x_3 x_4 x_5, .slice x_6 r.es.length x_7])) :: (.eq (.bool true)) :: (.eq (.bool true)) :: (.eq (.bool true)) :: (.eq (.agg #[.int .u64 (va : Nat), .int .u64 (vb : Nat)])) :: (.eq (.agg #[.int .u64 (wa : Nat), .int .u64 (wb : Nat)])) :: (.eq (.int .i64 CV)) :: (.eq (.agg #[.int .u64 (va : Nat), .int .u64 (vb : Nat)])) :: (.eq (.agg #[.int .u64 (wa : Nat), .int .u64 (wb : Nat)])) :: (.eq (.int .i64 CV)) :: (.eq (.bool true)) :: (.eq (.bool true)) :: (.eq (.bool true)) :: (.eq (.agg #[.int .u64 (va : Nat), .int .u64 (vb : Nat)])) :: (.eq (.string VT)) :: (.eq (.agg #[.int .u64 (va : Nat), .int .u64 (vb : Nat)])) :: (.eq (.string VT)) :: (.eq (.bool true)) :: (.eq (.bool true)) :: (.eq (.bool true)) :: (.eq (.agg #[.int .u64 (va : Nat), .int .u64 (vb : Nat)])) :: (.eq (.bool false)) :: (.eq (.pointer (some ⟨w.heap.size + 2, 0, none⟩))) :: (.eq (.int .u64 (va : Nat))) :: (.eq (.bool false)) :: (.eq (.bool false)) :: (.skip) :: (.skip) :: (.skip) :: (.eq ((Value.bool false))) :: (.eq (.bool true)) :: (.eq (.bool true)) :: (.eq (.bool true)) :: (.eq (.bool true)) :: (.eq (.bool true)) :: (.eq (.bool true)) :: []) (by kernel_rfl) ⟨?_, ?_, ?_, ?_, ?_, ?_, ?_, ?_, ?_, ?_, ?_, ?_, ?_, ?_, ?_, ?_, ?_, ?_, ?_, ?_, ?_, ?_, ?_, ?_, ?_, ?_, ?_, ?_, ?_, ?_, ?_, ?_, ?_, ?_, ?_, ?_, ?_, ?_, ?_, ?_, ?_, ?_, ?_, ?_, trivial⟩ (fun vs => [(91, (.agg #[.int .i64 r.k, .int .u64 (r.t : Nat), .int .u64 (r.x : Nat), .int .u64 (r.w : Nat), .int .u64 (r.n : Nat), .int .u64 (r.v : Nat), .int .i64 a_0, .int .u64 (a_1 : Nat), .int .u64 (a_2 : Nat), .slice a_3 a_4 a_5, .slice a_6 r.es.length a_7])), (92, (.agg #[.int .i64 o.k, .int .u64 (o.t : Nat), .int .u64 (o.x : Nat), .int .u64 (o.w : Nat), .int .u64 (o.n : Nat), .int .u64 (o.v : Nat), .int .i64 b_0, .int .u64 (b_1 : Nat), .int .u64 (b_2 : Nat), .slice b_3 b_4 b_5, .slice b_6 o.es.length b_7])), (93, (.bool SM)), (94, (.agg #[.int .i64 r.k, .int .u64 (r.t : Nat), .int .u64 (r.x : Nat), .int .u64 (r.w : Nat), .int .u64 (r.n : Nat), .int .u64 (r.v : Nat), .int .i64 x_0, .int .u64 (x_1 : Nat), .int .u64 (x_2 : Nat), .slice x_3 x_4 x_5, .slice x_6 r.es.length x_7])), (95, (.agg #[.int .i64 o.k, .int .u64 (o.t : Nat), .int .u64 (o.x : Nat), .int .u64 (o.w : Nat), .int .u64 (o.n : Nat), .int .u64 (o.v : Nat), .int .i64 y_0, .int .u64 (y_1 : Nat), .int .u64 (y_2 : Nat), .slice y_3 y_4 y_5, .slice y_6 o.es.length y_7])), (96, (.bool SM)), (97, (.bool true)), (98, (.bool true)), (99, (.agg #[.int .i64 r.k, .int .u64 (r.t : Nat), .int .u64 (r.x : Nat), .int .u64 (r.w : Nat), .int .u64 (r.n : Nat), .int .u64 (r.v : Nat), .int .i64 a_0, .int .u64 (a_1 : Nat), .int .u64 (a_2 : Nat), .slice a_3 a_4 a_5, .slice a_6 r.es.length a_7])), (100, vs 9), (101, (.agg #[.int .i64 r.k, .int .u64 (r.t : Nat), .int .u64 (r.x : Nat), .int .u64 (r.w : Nat), .int .u64 (r.n : Nat), .int .u64 (r.v : Nat), .int .i64 x_0, .int .u64 (x_1 : Nat), .int .u64 (x_2 : Nat), .slice x_3 x_4 x_5, .slice x_6 r.es.length x_7])), (102, (.bool true)), (103, (.bool true)), (104, (.bool true)), (105, (.agg #[.int .u64 (va : Nat), .int .u64 (vb : Nat)])), (106, (.agg #[.int .u64 (wa : Nat), .int .u64 (wb : Nat)])), (107, (.int .i64 CV)), (108, (.agg #[.int .u64 (va : Nat), .int .u64 (vb : Nat)])), (109, (.agg #[.int .u64 (wa : Nat), .int .u64 (wb : Nat)])), (110, (.int .i64 CV)), (111, (.bool true)), (112, (.bool true)), (113, (.bool true)), (114, (.agg #[.int .u64 (va : Nat), .int .u64 (vb : Nat)])), (115, (.string VT)), (116, (.agg #[.int .u64 (va : Nat), .int .u64 (vb : Nat)])), (117, (.string VT)), (118, (.bool true)), (119, (.bool true)), (120, (.bool true)), (121, (.agg #[.int .u64 (va : Nat), .int .u64 (vb : Nat)])), (122, (.bool false)), (123, (.pointer (some ⟨w.heap.size + 2, 0, none⟩))), (124, (.int .u64 (va : Nat))), (125, (.bool false)), (126, (.bool false)), (127, undef), (128, undef), (129, undef), (130, ((Value.bool false))), (131, (.bool true)), (132, (.bool true)), (133, (.bool true)), (134, (.bool true)), (135, (.bool true)), (8, (.bool true))]) (fun _ => rfl) ?_
      ·refine rs fun S a wx K Q hR hK => ?_
       have t4 : a.tmps[4]? = some (.pointer (some ⟨w.heap.size, 0, none⟩)) := hR.o 4
       have y0 := (hR.bel.cell la).trans a0
       have y1 := (hR.bel.cell la).trans a1
       have y2 := (hR.bel.cell la).trans a2
       have y3 := (hR.bel.cell la).trans a3
       have y4 := (hR.bel.cell la).trans a4
       have y5 := (hR.bel.cell la).trans a5
       have y6 := (hR.bel.cell la).trans a6
       have y7 := (hR.bel.cell la).trans a7
       have y8 := (hR.bel.cell la).trans a8
       have y9 := (hR.bel.cell la).trans a9
       have y10 := (hR.bel.cell la).trans a10
       go_simp
       exact hK _ _ br rfl
      ·refine rs fun S a wx K Q hR hK => ?_
       have t5 : a.tmps[5]? = some (.pointer (some ⟨w.heap.size + 1, 0, none⟩)) := hR.o 5
       have y0 := (hR.bel.cell lb).trans b0
       have y1 := (hR.bel.cell lb).trans b1
       have y2 := (hR.bel.cell lb).trans b2
       have y3 := (hR.bel.cell lb).trans b3
       have y4 := (hR.bel.cell lb).trans b4
       have y5 := (hR.bel.cell lb).trans b5
       have y6 := (hR.bel.cell lb).trans b6
       have y7 := (hR.bel.cell lb).trans b7
       have y8 := (hR.bel.cell lb).trans b8
       have y9 := (hR.bel.cell lb).trans b9
       have y10 := (hR.bel.cell lb).trans b10
       go_simp
       exact hK _ _ br rfl
      ·refine rs fun S a wx K Q hR hK => ?_
       have t91 := hR.q 0
       have t92 := hR.q 1
       go_simp
       go_at_call 22
       go_fit (fu _ _ _ _ r o _ _ _ (HK4.out.pa.r.below hR.bel nl) (HK4.out.pb.r.below hR.bel nl))
       rintro e w' ⟨rfl, hbt⟩
       exact hK _ _ hbt (by rw [HC.out.1]; rfl)
      ·refine rs fun S a wx K Q hR hK => ?_
       have t9 : a.tmps[9]? = some (.pointer (some ⟨g, 0, none⟩)) := hR.o 9
       have y0 := (hR.bel.cell lx).trans x0
       have y1 := (hR.bel.cell lx).trans x1
       have y2 := (hR.bel.cell lx).trans x2
       have y3 := (hR.bel.cell lx).trans x3
       have y4 := (hR.bel.cell lx).trans x4
       have y5 := (hR.bel.cell lx).trans x5
       have y6 := (hR.bel.cell lx).trans x6
       have y7 := (hR.bel.cell lx).trans x7
       have y8 := (hR.bel.cell lx).trans x8
       have y9 := (hR.bel.cell lx).trans x9
       have y10 := (hR.bel.cell lx).trans x10
       go_simp
       exact hK _ _ br rfl
      ·refine rs fun S a wx K Q hR hK => ?_
       have t10 : a.tmps[10]? = some (.pointer (some ⟨g', 0, none⟩)) := hR.o 10
       have y0 := (hR.bel.cell ly).trans y0
       have y1 := (hR.bel.cell ly).trans y1
       have y2 := (hR.bel.cell ly).trans y2
       have y3 := (hR.bel.cell ly).trans y3
       have y4 := (hR.bel.cell ly).trans y4
       have y5 := (hR.bel.cell ly).trans y5
       have y6 := (hR.bel.cell ly).trans y6
       have y7 := (hR.bel.cell ly).trans y7
       have y8 := (hR.bel.cell ly).trans y8
       have y9 := (hR.bel.cell ly).trans y9
       have y10 := (hR.bel.cell ly).trans y10
       go_simp
       exact hK _ _ br rfl
      ·refine rs fun S a wx K Q hR hK => ?_
       have t94 := hR.q 3
       have t95 := hR.q 4
       go_simp
       go_at_call 10
       go_fit (aU _ _ _ _ r o _ _ _ (by have := HSr.out.2.2; omega) (HX4.out.1.r.below hR.bel nl) (HX4.out.2.r.below hR.bel nl))
       rintro e w' ⟨rfl, hbt⟩
       exact hK _ _ hbt (by rw [HC.out.1]; rfl)
      ·refine rs fun S a wx K Q hR hK => ?_
       have t93 := hR.q 2
       have t96 := hR.q 5
       go_simp
       (try go_ints)
       exact hK _ _ br rfl
      ·refine rs fun S a wx K Q hR hK => ?_
       have t97 := hR.q 6
       go_simp
       exact hK _ _ br rfl
      ·refine rs fun S a wx K Q hR hK => ?_
       have t4 : a.tmps[4]? = some (.pointer (some ⟨w.heap.size, 0, none⟩)) := hR.o 4
       have y0 := (hR.bel.cell la).trans a0
       have y1 := (hR.bel.cell la).trans a1
       have y2 := (hR.bel.cell la).trans a2
       have y3 := (hR.bel.cell la).trans a3
       have y4 := (hR.bel.cell la).trans a4
       have y5 := (hR.bel.cell la).trans a5
       have y6 := (hR.bel.cell la).trans a6
       have y7 := (hR.bel.cell la).trans a7
       have y8 := (hR.bel.cell la).trans a8
       have y9 := (hR.bel.cell la).trans a9
       have y10 := (hR.bel.cell la).trans a10
       go_simp
       exact hK _ _ br rfl
      ·exact iH _
      ·refine rs fun S a wx K Q hR hK => ?_
       have t99 := hR.q 8
       go_simp
       go_at_call 11
       go_fit (dG _ _ r _ _ (by have := HSr.out.2.2; omega) (by have := HSr.out.2.1; omega) (by have := HSr.out.1; omega) (HK4.out.pa.r.below hR.bel nl))
       rintro e w' ⟨⟨vt, rfl, hvt⟩, hbt⟩
       exact hK _ _ hbt (hvt.wider (fun b _ h => hR.new b h))
      ·refine rs fun S a wx K Q hR hK => ?_
       have t9 : a.tmps[9]? = some (.pointer (some ⟨g, 0, none⟩)) := hR.o 9
       have y0 := (hR.bel.cell lx).trans x0
       have y1 := (hR.bel.cell lx).trans x1
       have y2 := (hR.bel.cell lx).trans x2
       have y3 := (hR.bel.cell lx).trans x3
       have y4 := (hR.bel.cell lx).trans x4
       have y5 := (hR.bel.cell lx).trans x5
       have y6 := (hR.bel.cell lx).trans x6
       have y7 := (hR.bel.cell lx).trans x7
       have y8 := (hR.bel.cell lx).trans x8
       have y9 := (hR.bel.cell lx).trans x9
       have y10 := (hR.bel.cell lx).trans x10
       go_simp
       exact hK _ _ br rfl
      ·refine rs fun S a wx K Q hR hK => ?_
       obtain ⟨u100, t100, f100⟩ := hR.f 9
       have t101 := hR.q 10
       have f100b : aI wx S true r u100 := f100
       go_simp
       go_at_call 10
       go_fit (aU _ _ _ _ r r _ _ _ (by have := HSr.out.2.2; omega) f100b (HX4.out.1.r.below hR.bel nl))
       rintro e w' ⟨rfl, hbt⟩
       rw [Rec.same_refl]
       exact hK _ _ hbt rfl
      ·refine rs fun S a wx K Q hR hK => ?_
       have t98 := hR.q 7
       have t102 := hR.q 11
       go_simp
       exact hK _ _ br rfl
      ·refine rs fun S a wx K Q hR hK => ?_
       have t103 := hR.q 12
       go_simp
       exact hK _ _ br rfl
      ·refine rs fun S a wx K Q hR hK => ?_
       have t6 : a.tmps[6]? = some (.pointer (some ⟨w.heap.size + 2, 0, none⟩)) := hR.o 6
       have y0 := (hR.bel.cell l2).trans t0
       have y1 := (hR.bel.cell l2).trans t1
       go_simp
       exact hK _ _ br rfl
      ·refine rs fun S a wx K Q hR hK => ?_
       have t7 : a.tmps[7]? = some (.pointer (some ⟨w.heap.size + 3, 0, none⟩)) := hR.o 7
       have y0 := (hR.bel.cell lv).trans s0
       have y1 := (hR.bel.cell lv).trans s1
       go_simp
       exact hK _ _ br rfl
      ·refine rs fun S a wx K Q hR hK => ?_
       have t105 := hR.q 14
       have t106 := hR.q 15
       go_simp
       go_at_call 24
       go_fit (lZ va vb wa wb _)
       rintro e w' ⟨rfl, hbt⟩
       exact hK _ _ hbt (by rw [HC.out.2.1]; rfl)
      ·refine rs fun S a wx K Q hR hK => ?_
       have t17 : a.tmps[17]? = some (.pointer (some ⟨h, 0, none⟩)) := hR.o 17
       have y0 := (hR.bel.cell lh).trans h0
       have y1 := (hR.bel.cell lh).trans h1
       go_simp
       exact hK _ _ br rfl
      ·refine rs fun S a wx K Q hR hK => ?_
       have t18 : a.tmps[18]? = some (.pointer (some ⟨h', 0, none⟩)) := hR.o 18
       have y0 := (hR.bel.cell lh').trans i0
       have y1 := (hR.bel.cell lh').trans i1
       go_simp
       exact hK _ _ br rfl
      ·refine rs fun S a wx K Q hR hK => ?_
       have t108 := hR.q 17
       have t109 := hR.q 18
       go_simp
       go_at_call 25
       go_fit (ma va vb wa wb _)
       rintro e w' ⟨rfl, hbt⟩
       exact hK _ _ hbt (by rw [HC.out.2.1]; rfl)
      ·refine rs fun S a wx K Q hR hK => ?_
       have t107 := hR.q 16
       have t110 := hR.q 19
       go_simp
       (try go_ints)
       exact hK _ _ br rfl
      ·refine rs fun S a wx K Q hR hK => ?_
       have t104 := hR.q 13
       have t111 := hR.q 20
       go_simp
       exact hK _ _ br rfl
      ·refine rs fun S a wx K Q hR hK => ?_
       have t112 := hR.q 21
       go_simp
       exact hK _ _ br rfl
      ·refine rs fun S a wx K Q hR hK => ?_
       have t6 : a.tmps[6]? = some (.pointer (some ⟨w.heap.size + 2, 0, none⟩)) := hR.o 6
       have y0 := (hR.bel.cell l2).trans t0
       have y1 := (hR.bel.cell l2).trans t1
       go_simp
       exact hK _ _ br rfl
      ·refine rs fun S a wx K Q hR hK => ?_
       have t114 := hR.q 23
       go_simp
       go_at_call 26
       go_fit (fM va vb _ H64.out.1 H64.out.2 (HK4.out.below hR.bel).lqAt.lv)
       rintro e w' ⟨rfl, hbt⟩
       exact hK _ _ hbt (by rw [HC.out.2.2.1]; rfl)
      ·refine rs fun S a wx K Q hR hK => ?_
       have t17 : a.tmps[17]? = some (.pointer (some ⟨h, 0, none⟩)) := hR.o 17
       have y0 := (hR.bel.cell lh).trans h0
       have y1 := (hR.bel.cell lh).trans h1
       go_simp
       exact hK _ _ br rfl
      ·refine rs fun S a wx K Q hR hK => ?_
       have t116 := hR.q 25
       go_simp
       go_at_call 27
       go_fit (fO va vb _ H64.out.1 H64.out.2)
       rintro e w' ⟨rfl, hbt⟩
       exact hK _ _ hbt (by rw [HC.out.2.2.1]; rfl)
      ·refine rs fun S a wx K Q hR hK => ?_
       have t115 := hR.q 24
       have t117 := hR.q 26
       go_simp
       (try go_ints)
       exact hK _ _ br rfl
      ·refine rs fun S a wx K Q hR hK => ?_
       have t113 := hR.q 22
       have t118 := hR.q 27
       go_simp
       exact hK _ _ br rfl
      ·refine rs fun S a wx K Q hR hK => ?_
       have t119 := hR.q 28
       go_simp
       exact hK _ _ br rfl
      ·refine rs fun S a wx K Q hR hK => ?_
       have t6 : a.tmps[6]? = some (.pointer (some ⟨w.heap.size + 2, 0, none⟩)) := hR.o 6
       have y0 := (hR.bel.cell l2).trans t0
       have y1 := (hR.bel.cell l2).trans t1
       go_simp
       exact hK _ _ br rfl
      ·refine rs fun S a wx K Q hR hK => ?_
       have t121 := hR.q 30
       go_simp
       go_at_call 28
       go_fit (lY va vb _)
       rintro e w' ⟨rfl, hbt⟩
       exact hK _ _ hbt (by have h0 := HU.out; rw [h0]; rfl)
      ·refine rs fun S a wx K Q hR hK => ?_
       have t6 : a.tmps[6]? = some (.pointer (some ⟨w.heap.size + 2, 0, none⟩)) := hR.o 6
       go_simp
       exact hK _ _ br rfl
      ·refine rs fun S a wx K Q hR hK => ?_
       have t123 := hR.q 32
       have y0 := (hR.bel.cell l2).trans t0
       go_simp
       exact hK _ _ br rfl
      ·refine rs fun S a wx K Q hR hK => ?_
       have t124 := hR.q 33
       have z0 := HZ.out
       have z1 : ((va : Int) == 0) = false := by simpa using z0
       go_simp
       (try go_ints)
       exact hK _ _ br rfl
      ·refine rs fun S a wx K Q hR hK => ?_
       have t125 := hR.q 34
       go_simp
       exact hK _ _ br rfl
      ·refine rs fun S a wx K Q hR hK => ?_
       have t126 := hR.q 35
       obtain ⟨u129, t129, f129⟩ := hR.dep 38 _ _ (by kernel_rfl) rfl rfl rfl; replace f129 : u129 = undef := f129; subst f129
       go_simp
       exact hK _ _ br rfl
      ·refine rs fun S a wx K Q hR hK => ?_
       have t122 := hR.q 31
       have t130 := hR.q 39
       go_simp
       (try go_ints)
       exact hK _ _ br rfl
      ·refine rs fun S a wx K Q hR hK => ?_
       have t120 := hR.q 29
       have t131 := hR.q 40
       go_simp
       exact hK _ _ br rfl
      ·refine rs fun S a wx K Q hR hK => ?_
       have t132 := hR.q 41
       go_simp
       exact hK _ _ br rfl
      ·refine rs fun S a wx K Q hR hK => ?_
       go_simp
       go_at_call 6
       go_fit (ic _ (HK4.out.below hR.bel).lqAt)
       rintro e w' ⟨rfl, hbt⟩
       exact hK _ _ hbt rfl
      ·refine rs fun S a wx K Q hR hK => ?_
       have t133 := hR.q 42
       have t134 := hR.q 43
       go_simp
       exact hK _ _ br rfl
      ·refine rs fun S a wx K Q hR hK => ?_
       have t135 := hR.q 44
       go_simp
       exact hK _ _ br rfl
      intro S17 vs w20 hD
      have HF := hid (HK4.out.below hD.bel).bel
      simp only [aM, List.foldl_cons, List.foldl_nil]
      clear hD
      go_simp
      go_wp2_with fail
      go_ret
      exact ⟨rfl, HF.out⟩
end Go.Proofs.YtmgbhhmipmgcpaaGreatDoor
