/- The law WireLines, walked. -/
import Derived.Test.YtlpgokcapdjgjaaGreatDoorY77
import Derived.Test.YtlpgokcapdjgjaaGreatDoorY73
import Derived.Test.YtlpgokcapdjgjaaGreatDoorY80
set_option maxHeartbeats 8000000
set_option maxRecDepth 100000
namespace Go.Proofs.YtlpgokcapdjgjaaGreatDoor
open Go.RowKit Go
set_option linter.unusedVariables false
set_option linter.unusedSimpArgs false
def wk1 : Rec := ⟨1, 1, 0, 0, 0, 0, .zero, []⟩
def wk2 : Rec := ⟨6, 1, 0, 0, 0, 0, .zero, []⟩
theorem EN : rM [wk1, wk2] = 0 := by decide +kernel
theorem CK : (encR [wk1, wk2]).length = 14 := by decide +kernel
theorem EO : qM (encR [wk1, wk2]) = ([⟨wk1, 0, 7⟩, ⟨wk2, 7, 14⟩], 14, 0) := by kernel_rfl
theorem EP : qM ((encR [wk1, wk2]).take 10) = ([⟨wk1, 0, 7⟩], 7, 1) := by kernel_rfl
theorem Be : ∀ p, p < 14 → (bg ((encR [wk1, wk2]).drop p)).rule = 0 → ((bg ((encR [wk1, wk2]).drop p)).kind = 1 ∨ (bg ((encR [wk1, wk2]).drop p)).kind = 6) ∧ (bg ((encR [wk1, wk2]).drop p)).pay.length ≤ 14 := by decide +kernel
theorem ze : ∀ p, p < 14 → (bg (((encR [wk1, wk2]).take 10).drop p)).rule = 0 → ((bg (((encR [wk1, wk2]).take 10).drop p)).kind = 1 ∨ (bg (((encR [wk1, wk2]).take 10).drop p)).kind = 6) ∧ (bg (((encR [wk1, wk2]).take 10).drop p)).pay.length ≤ 14 := by decide +kernel
def wkS : List UInt8 := [98, 101, 103, 105, 110, 32, 49, 10, 35, 10, 10, 99, 111, 109, 109, 105, 116, 32, 120]
theorem Fy : bE [120] = none := Ai (fun n h => by
 have h5 := dJ n
 rw [← h] at h5
 have h6 : n = numOf [120] := h5.symm
 have h7 : numOf [120] = 72 := by decide
 rw [h7] at h6
 subst h6
 simp [Lib.decDigits] at h)
theorem EQ : aM [99, 111, 109, 109, 105, 116, 32, 120] = none := by
 have hc : cuts 32 [99, 111, 109, 109, 105, 116, 32, 120] = [[99, 111, 109, 109, 105, 116], [120]] := by decide
 unfold aM
 rw [hc]
 simp only
 rw [Fy]
 split <;> rfl
theorem DN : aM [98, 101, 103, 105, 110, 32, 49] = some wk1 := by
 have h := pK (r := wk1) ((Rec.right_iff _).1 (by decide)) ⟨by decide, by decide, by decide, by decide, by decide, aY, by simp [wk1]⟩
 have ht : wk1.told = [98, 101, 103, 105, 110, 32, 49] := by
  have h1 : Lib.decDigits 1 = [49] := by simp [Lib.decDigits]
  unfold Rec.told Rec.words Rec.tail wk1
  simp only [h1]
  rfl
 rw [ht] at h
 exact h
theorem CL : dK (lns wkS) 0 [] = ([], 4, 50) := by
 have hl : lns wkS = [[98, 101, 103, 105, 110, 32, 49], [35], [], [99, 111, 109, 109, 105, 116, 32, 120]] := by decide
 rw [hl, pR _ _ _ (by decide) DN, ll _ _ _ (by decide), ll _ _ _ (by decide), sG _ _ _ (by decide) EQ]
theorem kG {w : World} {base sz : Nat} {e : TypeId} {v : Value} {xs : List Value} {n : Nat} (h : w.ownsRow base e sz v n xs) (hn : 0 < n) :
  ∃ g cap, v = .slice (some ⟨g, 0, none⟩) n cap ∧ base ≤ g ∧ g < w.heap.size ∧ n ≤ cap ∧ ∀ k x, xs[k]? = some x → w.cell? ⟨g, k, none⟩ = some x := by
 obtain ⟨hl, h⟩ := h
 rcases h with ⟨h, h2⟩ | ⟨g, cap, cur, hv, hb, hg, hn2, hm, hs, ht⟩
 ·omega
 ·refine ⟨g, cap, hv, hb, (Array.getElem?_eq_some_iff.1 hg).1, hn2, fun k x hk => ?_⟩
  rw [cell_of_row w _ _ _ _ _ hg]
  have hkl := (List.getElem?_eq_some_iff.1 hk).1
  rw [← ht, List.getElem?_take, if_pos (by omega)] at hk
  simpa using hk
theorem nE {w : World} {S : Nat → Prop} {x : Plc} {cs : List Value} (h : plI.P w S x cs) : ∃ k0 k1 k2 k3 k4 k5 k6 k7, cs = [.int .i64 x.q.k, .int .u64 (x.q.t : Nat), .int .u64 (x.q.x : Nat), .int .u64 (x.q.w : Nat), .int .u64 (x.q.n : Nat), .int .u64 (x.q.v : Nat), .int .i64 k0, .int .u64 (k1 : Nat), .int .u64 (k2 : Nat), .slice k3 k4 k5, .slice k6 x.q.es.length k7, .int .i64 (x.fr : Nat), .int .i64 (x.tp : Nat)] := by
 obtain ⟨c, rfl, hr⟩ := h
 obtain ⟨k0, k1, k2, k3, k4, k5, k6, k7, e, _⟩ := hr.conc
 have := tC e
 subst this
 exact ⟨k0, k1, k2, k3, k4, k5, k6, k7, rfl⟩
theorem CO (w : World) (a b : Rec) (ca cb : List Value) (ha : aI w (fun _ => True) false a (.agg ca.toArray)) (hb : aI w (fun _ => True) false b (.agg cb.toArray)) (g : Nat) (T : TypeId) (hg : w.heap[g]? = some (.cells (ca ++ cb).toArray T (0, 0))) : ny Ce w (fun _ => True) [a, b] (.slice (some ⟨g, 0, none⟩) 2 2) := by
 have la : ca.length = 11 := by have := (jm ha).1; simpa using this
 have lb : cb.length = 11 := by have := (jm hb).1; simpa using this
 refine ⟨ca ++ cb, ⟨by simp [Ce]; omega, by simp, _, _, rfl, by simp, fun _ => ⟨_, _, rfl, trivial, fun j hj => ⟨?_, fun h => by cases h⟩⟩⟩, ca, cb, rfl, ha, cb, [], by simp, hb, rfl⟩
 rw [cell_of_row w _ _ _ _ _ hg, Nat.zero_add]
 simp [hj]
theorem zL (w : World) (k : Nat) (hk : k ≤ 7) : aI w (fun _ => True) false ⟨(k : Int), 1, 0, 0, 0, 0, .zero, []⟩ (.agg [.int .i64 (k : Int), .int .u64 1, .int .u64 0, .int .u64 0, .int .u64 0, .int .u64 0, .int .i64 0, .int .u64 0, .int .u64 0, .slice none 0 0, .slice none 0 0].toArray) :=
 ⟨_, _, _, _, _, rfl, by show (-9223372036854775808 : Int) ≤ (k : Int); omega, by show (k : Int) ≤ 9223372036854775807; omega, ⟨by show (1 : Nat) < 18446744073709551616; omega, by show (0 : Nat) < 18446744073709551616; omega, by show (0 : Nat) < 18446744073709551616; omega, by show (0 : Nat) < 18446744073709551616; omega, by show (0 : Nat) < 18446744073709551616; omega, aY, by simp⟩, (ku w _).unown, Sl.nil w _ false 4⟩
theorem qR (w : World) (hL : Lq w.heap.size w) : Calls Tryz.prog 7 #[] w fun e w' => e = .returned (.bool true) ∧ Below w.heap.size w w' := by
 obtain ⟨X, hX⟩ : ∃ X, X = w.alloc (.cells #[.int .i64 1, .int .u64 1, .int .u64 0, .int .u64 0, .int .u64 0, .int .u64 0, .int .i64 0, .int .u64 0, .int .u64 0, .slice none 0 0, .slice none 0 0, .int .i64 6, .int .u64 1, .int .u64 0, .int .u64 0, .int .u64 0, .int .u64 0, .int .i64 0, .int .u64 0, .int .u64 0, .slice none 0 0, .slice none 0 0] 73) := ⟨_, rfl⟩
 have hbX : Below w.heap.size w X := by rw [hX]; exact br.alloc nl _
 have hgX : X.heap[w.heap.size]? = some (.cells #[.int .i64 1, .int .u64 1, .int .u64 0, .int .u64 0, .int .u64 0, .int .u64 0, .int .i64 0, .int .u64 0, .int .u64 0, .slice none 0 0, .slice none 0 0, .int .i64 6, .int .u64 1, .int .u64 0, .int .u64 0, .int .u64 0, .int .u64 0, .int .i64 0, .int .u64 0, .int .u64 0, .slice none 0 0, .slice none 0 0] 73 (0, 0)) := by rw [hX]; exact aa _ _ _ rfl
 have HE := hid (qG [wk1, wk2] (by
  intro q hq
  simp only [List.mem_cons, List.not_mem_nil, or_false] at hq
  rcases hq with rfl | rfl
  ·exact fun S v w hv => oh S false _ (.inl rfl) v w (by decide) (by decide) hv
  ·exact fun S v w hv => oh S false _ (.inr rfl) v w (by decide) (by decide) hv) _ _ X (by simp) (by
  intro q hq
  simp only [List.mem_cons, List.not_mem_nil, or_false] at hq
  rcases hq with rfl | rfl
  ·decide
  ·decide) (CO X wk1 wk2 _ _ (zL X 1 (by omega)) (zL X 6 (by omega)) w.heap.size 73 hgX))
 have HB0 := hid (And.intro hbX (hL.below hbX))
 have HX := hid hX
 clear hbX hgX hX hL
 go_enter Tryz.func7, Tryz.ntmps7
 go_wp2_with fail
 rw [← HX.out]
 refine HE.out.mono ?_
 rintro e w1 ⟨hgo, _, hb1⟩
 obtain ⟨bv, rfl, hown⟩ := hgo EN
 rw [CK] at hown
 obtain ⟨gb, cb, rfl, hgb, hgl, hcp, _⟩ := kG hown (by omega)
 obtain ⟨EB, hEB⟩ : ∃ EB, EB = encR [wk1, wk2] := ⟨_, rfl⟩
 rw [← hEB] at hown
 have hEl : EB.length = 14 := by rw [hEB]; exact CK
 have hrep : aF w1 (fun _ => True) false EB (.slice (some ⟨gb, 0, none⟩) EB.length cb) := by
  rw [← hEl] at hown
  exact Sl.unown ((aF.of_owns hown).keep (by omega) (fun _ _ _ => rfl) (fun _ _ _ => trivial))
 have hs1 := hb1.size
 have hbw1 : Below w.heap.size w w1 := HB0.out.1.trans (hb1.mono HB0.out.1.size)
 have HD1 := hid (kF _ false EB (fun p hp hr S pv w hv => by
  have hf := Be p (by omega) (by rw [← hEB]; exact hr)
  rw [← hEB] at hf
  exact kU S true _ hf.1 _ pv w (by omega) hv) _ w1 hrep (by omega))
 rw [hEl] at HD1
 have H1 := hid (And.intro hrep (And.intro hbw1 (And.intro hEl (And.intro hEB (HB0.out.2.below (hb1.mono HB0.out.1.size))))))
 clear hgo hown hrep hbw1 hb1 hEB hEl
 go_wp2_with fail
 refine HD1.out.mono ?_
 rintro e w2 ⟨sv, acc, n2, rl2, rfl, hd2, hrow2, hb2⟩
 rw [H1.out.2.2.2.1, EO] at hd2
 simp only [Prod.mk.injEq] at hd2
 obtain ⟨rfl, rfl, rfl⟩ := hd2
 obtain ⟨ys2, hi2, _, ho2, hg2⟩ := hrow2.resolve_left (fun h => by cases h.2)
 obtain ⟨gs2, cs2, rfl, hl2a, hl2b, _, hc2⟩ := kG ho2 (by decide)
 obtain ⟨ca, m1, rest, rfl, _, hpa, cbb, m2, rest2, rfl, _, hpb, rfl, _⟩ := hg2
 obtain ⟨p0, p1, p2, p3, p4, p5, p6, p7, rfl⟩ := nE hpa
 obtain ⟨q0, q1, q2, q3, q4, q5, q6, q7, rfl⟩ := nE hpb
 have u11 : w2.cell? ⟨gs2, 11, none⟩ = some (.int .i64 0) := hc2 11 _ rfl
 have u12 : w2.cell? ⟨gs2, 12, none⟩ = some (.int .i64 7) := hc2 12 _ rfl
 have u13 : w2.cell? ⟨gs2, 13, none⟩ = some (.int .i64 6) := hc2 13 _ rfl
 have u24 : w2.cell? ⟨gs2, 24, none⟩ = some (.int .i64 7) := hc2 24 _ rfl
 have u25 : w2.cell? ⟨gs2, 25, none⟩ = some (.int .i64 14) := hc2 25 _ rfl
 have hrep2 : aF w2 (fun _ => True) false (EB.take 10) (.slice (some ⟨gb, 0, none⟩) 10 cb) := by
  have h := (aF.below H1.out.1 hb2 nl).cut 0 10 cb (by rw [H1.out.2.2.1]; omega) (by omega)
  simpa [Addr.add] using h
 have hs2 := hb2.size
 have HD2 := hid (kF _ false (EB.take 10) (fun p hp hr S pv w hv => by
  have hf := ze p (by rw [List.length_take] at hp; omega) (by rw [← H1.out.2.2.2.1]; exact hr)
  rw [← H1.out.2.2.2.1] at hf
  exact kU S true _ hf.1 _ pv w (by omega) hv) _ w2 hrep2 (by rw [List.length_take, H1.out.2.2.1]; decide))
 have H2 := hid (And.intro (H1.out.2.1.trans (hb2.mono H1.out.2.1.size)) (H1.out.2.2.2.2.below (hb2.mono H1.out.2.1.size)))
 clear hrow2 hb2 ho2 hc2 hpa hpb hrep2
 have k10 : (10 : Int) ≤ (cb : Int) := by omega
 go_wp2_with fail
 refine HD2.out.mono ?_
 rintro e w3 ⟨sv3, acc3, n3, rl3, rfl, hd3, hrow3, hb3⟩
 rw [H1.out.2.2.2.1, EP] at hd3
 simp only [Prod.mk.injEq] at hd3
 obtain ⟨rfl, rfl, rfl⟩ := hd3
 obtain ⟨ys3, hi3, _, ho3, hg3⟩ := hrow3.resolve_left (fun h => by cases h.2)
 obtain ⟨gs3, cs3, rfl, hl3a, hl3b, _, hc3⟩ := kG ho3 (by decide)
 obtain ⟨cc, m3, rest3, rfl, _, hpc, rfl, _⟩ := hg3
 obtain ⟨r0, r1, r2, r3, r4, r5, r6, r7, rfl⟩ := nE hpc
 have v1 : w3.cell? ⟨gs3, 1, none⟩ = some (.int .u64 1) := hc3 1 _ rfl
 replace u11 := (hb3.cell (p := ⟨gs2, 11, none⟩) hl2b).trans u11
 replace u12 := (hb3.cell (p := ⟨gs2, 12, none⟩) hl2b).trans u12
 replace u13 := (hb3.cell (p := ⟨gs2, 13, none⟩) hl2b).trans u13
 replace u24 := (hb3.cell (p := ⟨gs2, 24, none⟩) hl2b).trans u24
 replace u25 := (hb3.cell (p := ⟨gs2, 25, none⟩) hl2b).trans u25
 have hs3 := hb3.size
 have HLN := hid (kW ⟨wkS.toArray⟩ w3 (by decide) ((H2.out.2.below (hb3.mono (by have := H2.out.1.size; omega))).mono (by have := H2.out.1.size; omega)))
 have H3 := hid (H2.out.1.trans (hb3.mono (by have := H2.out.1.size; omega)))
 clear hrow3 hb3 ho3 hc3 hpc
 go_wp2_with fail
 refine HLN.out.mono ?_
 rintro e w4 ⟨sv4, n4, er4, rs4, rfl, hd4, hrow4, hb4⟩
 rw [show (⟨wkS.toArray⟩ : ByteArray).data.toList = wkS from rfl, CL] at hd4
 simp only [Prod.mk.injEq] at hd4
 obtain ⟨rfl, rfl, rfl⟩ := hd4
 obtain ⟨sa4, sc4, rfl⟩ := aS.form hrow4
 replace u11 := (hb4.cell (p := ⟨gs2, 11, none⟩) (by show gs2 < w3.heap.size; omega)).trans u11
 replace u12 := (hb4.cell (p := ⟨gs2, 12, none⟩) (by show gs2 < w3.heap.size; omega)).trans u12
 replace u13 := (hb4.cell (p := ⟨gs2, 13, none⟩) (by show gs2 < w3.heap.size; omega)).trans u13
 replace u24 := (hb4.cell (p := ⟨gs2, 24, none⟩) (by show gs2 < w3.heap.size; omega)).trans u24
 replace u25 := (hb4.cell (p := ⟨gs2, 25, none⟩) (by show gs2 < w3.heap.size; omega)).trans u25
 replace v1 := (hb4.cell (p := ⟨gs3, 1, none⟩) hl3b).trans v1
 have H4 := hid (H3.out.trans (hb4.mono H3.out.size))
 clear hrow4 hb4
 go_wp2_with fail
 go_ret
 exact ⟨rfl, H4.out⟩
theorem rV (s : ByteArray) (w : World) (hL : Lq w.heap.size w) : Calls Tryz.prog 3 #[.string s] w fun e w' => e = .returned (.bool true) ∧ Below w.heap.size w w' := by
 by_cases hs : 600 < s.size
 ·have t1 : (600 : Int) < (s.size : Int) := by omega
  have HL := hid hL
  clear hL
  go_enter Tryz.func3, Tryz.ntmps3
  go_wp2_with fail
  refine (qR w HL.out).mono ?_
  rintro e w2 ⟨rfl, hb2⟩
  go_wp2_with fail
  go_ret
  exact ⟨rfl, hb2⟩
 have t1 : ¬ (600 : Int) < (s.size : Int) := by omega
 have HR := hid (vg s w (by omega))
 have HL := hid hL
 obtain ⟨rs, hrs⟩ : ∃ rs, rs = (dK (lns s.data.toList) 0 []).1 := ⟨_, rfl⟩
 have HQ : Hid ((∀ q ∈ rs, q.p.depth ≤ 900 ∧ q.p.size ≤ 1000 ∧ q.es.length ≤ 100000) ∧ rs.length ≤ 100000) := hid (by
  constructor
  ·intro q hq
   rw [hrs] at hq
   rcases mW _ _ _ _ hq with h | ⟨y, hy, h⟩
   ·cases h
   ·have h1 := wm h
    have h2 := aV 10 s.data.toList y (Db hy)
    rw [af] at h2
    exact ⟨h1.2.1, by omega, by omega⟩
  ·have h1 := mX (lns s.data.toList) 0 []
   have h2 := xR s.data.toList
   rw [af] at h2
   rw [← hrs] at h1
   simp only [List.length_nil] at h1
   omega)
 have HS := hid (show s.size ≤ 600 by omega)
 have HRS := hid hrs
 clear hL hs hrs
 go_enter Tryz.func3, Tryz.ntmps3
 go_wp2_with fail
 refine HR.out.mono ?_
 rintro e w1 ⟨rv, n, er, rs', rfl, ht, hrow1, hb1⟩
 obtain rfl : rs' = rs := by rw [HRS.out, ht]
 have hs1 := hb1.size
 have HLN := hid (kW s w1 (by have := HS.out; omega) ((HL.out.below hb1).mono hs1))
 obtain ⟨ra, rc, rfl⟩ := aS.form hrow1
 have H1 := hid (And.intro ht (And.intro (aS.mk' hrow1 hs1) hb1))
 clear ht hrow1 hb1
 go_wp2_with fail
 refine HLN.out.mono ?_
 rintro e w2 ⟨lv, n2, er2, rs2, rfl, ht2, hrow2, hb2⟩
 rw [H1.out.1] at ht2
 simp only [Prod.mk.injEq] at ht2
 obtain ⟨rfl, rfl, rfl⟩ := ht2
 have hs2 := hb2.size
 obtain ⟨la, lc, rfl⟩ := aS.form hrow2
 have hl2 := aS.mk' (hrow2.imp id (fun m => m.less (show w1.heap.size ≤ w1.heap.size + 6 by omega))) hs2
 have HSM := hid (vo _ _ _ w1 w2 w1.heap.size w.heap.size HQ.out.1 HQ.out.2 hl2 H1.out.2.1 nl hs2 hb2)
 have H2 := hid (H1.out.2.2.trans (hb2.mono hs1))
 clear hrow2 hb2 hl2
 go_wp2_with fail
 refine HSM.out.mono ?_
 rintro e w3 ⟨rfl, hb3⟩
 have H3 := hid (H2.out.trans (hb3.mono hs1))
 clear hb3
 go_wp2_with fail
 refine (qR w3 ((HL.out.below H3.out).mono H3.out.size)).mono ?_
 rintro e w4 ⟨rfl, hb4⟩
 have H4 := hid (H3.out.trans (hb4.mono H3.out.size))
 clear hb4
 go_wp2_with fail
 go_ret
 exact ⟨rfl, H4.out⟩
end Go.Proofs.YtlpgokcapdjgjaaGreatDoor
