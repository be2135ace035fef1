/- Walks. -/
import Derived.Test.YtmgbhhmipmgcpaaGreatDoorQV24
set_option maxHeartbeats 8000000
set_option maxRecDepth 100000
namespace Go.Proofs.YtmgbhhmipmgcpaaGreatDoor
open Go.RowKit Go
set_option linter.unusedVariables false
set_option linter.unusedSimpArgs false
theorem sQ (S : Nat → Prop) (own : Bool) (r : Rec) (k0 : Int) (k1 k2 : Nat) (k3 : Option Addr) (k4 k5 : Nat) (k6 : Option Addr) (n6 k7 : Nat) (w : World) (hsz : r.p.size ≤ 900) (hle : n6 ≤ 10000) (hn6 : n6 = r.es.length) (hk : r.k = 5) (hr : r.right = true)
  (HV : Hid (aI w S own r (.agg #[.int .i64 5, .int .u64 r.t, .int .u64 r.x, .int .u64 r.w, .int .u64 r.n, .int .u64 r.v, .int .i64 k0, .int .u64 k1, .int .u64 k2, .slice k3 k4 k5, .slice k6 n6 k7]) ∧ r.nums ∧ av w S own r.p (.agg #[.int .i64 k0, .int .u64 k1, .int .u64 k2, .slice k3 k4 k5]) ∧ bZ w S own r.es (.slice k6 n6 k7))) :
  Calls Tryz.prog 17 #[.agg #[.int .i64 5, .int .u64 r.t, .int .u64 r.x, .int .u64 r.w, .int .u64 r.n, .int .u64 r.v, .int .i64 k0, .int .u64 k1, .int .u64 k2, .slice k3 k4 k5, .slice k6 n6 k7]] w fun e w' => e = .returned (.string ⟨r.told.toArray⟩) ∧ Below w.heap.size w w' := by
 have hb0 : Below w.heap.size w (w.alloc (.cells #[.int .i64 5, .int .u64 r.t, .int .u64 r.x, .int .u64 r.w, .int .u64 r.n, .int .u64 r.v, .int .i64 k0, .int .u64 k1, .int .u64 k2, .slice k3 k4 k5, .slice k6 n6 k7] 37)) := br.alloc nl _
 obtain ⟨DT, DX, DV, TO, hT⟩ := Tl.mk' r HV.out.2.1
 have zT := hT.z1
 have zX := hT.z2
 have zV := hT.z3
 have zO := hT.z4
 have HT := hid hT
 obtain ⟨WB, hWB⟩ : ∃ WB : ByteArray, WB = ⟨(aC 5).toArray⟩ := ⟨_, rfl⟩
 have zW : WB.size ≤ 6 := by rw [hWB]; decide
 have hw := eQ 5 (by omega) (by omega)
 have HW : Hid (gI[5]? = some (.string WB)) := hid (by rw [hWB]; exact hw)
 have HWB := hid hWB
 have HB0 := hid hb0
 have HNK := hid (And.intro hn6 hk)
 clear hT hWB hw hb0 hn6 hk
 go_enter Tryz.func17, Tryz.ntmps17
 go_wp2_with fail
 refine (aJ _ own r _ _ hsz (HV.out.1.below HB0.out nl)).mono ?_
 rintro e W ⟨rfl, hbR⟩
 rw [hr]
 have hbx : W.heap[w.heap.size]? = some (.cells #[.int .i64 5, .int .u64 r.t, .int .u64 r.x, .int .u64 r.w, .int .u64 r.n, .int .u64 r.v, .int .i64 k0, .int .u64 k1, .int .u64 k2, .slice k3 k4 k5, .slice k6 n6 k7] 37 (0, 0)) := (hbR.block _ (by simp)).trans (aa _ _ _ rfl)
 have hB := HB0.out.trans (hbR.mono (by simp))
 have l0 := (Array.getElem?_eq_some_iff.1 hbx).1
 have b0 : W.cell? ⟨w.heap.size, 0, none⟩ = some (.int .i64 5) := by rw [cell_of_row W _ 0 _ _ _ hbx]; rfl
 have b1 : W.cell? ⟨w.heap.size, 1, none⟩ = some (.int .u64 r.t) := by rw [cell_of_row W _ 1 _ _ _ hbx]; rfl
 have b2 : W.cell? ⟨w.heap.size, 2, none⟩ = some (.int .u64 r.x) := by rw [cell_of_row W _ 2 _ _ _ hbx]; rfl
 have b3 : W.cell? ⟨w.heap.size, 3, none⟩ = some (.int .u64 r.w) := by rw [cell_of_row W _ 3 _ _ _ hbx]; rfl
 have b4 : W.cell? ⟨w.heap.size, 4, none⟩ = some (.int .u64 r.n) := by rw [cell_of_row W _ 4 _ _ _ hbx]; rfl
 have b5 : W.cell? ⟨w.heap.size, 5, none⟩ = some (.int .u64 r.v) := by rw [cell_of_row W _ 5 _ _ _ hbx]; rfl
 have HB := hid (And.intro hB hbx)
 clear hbR hbx hB
 go_wp2_with fail
 refine aA (w0 := W) rfl [.of (dO), .eq (.pointer (some ⟨w.heap.size, 0, none⟩)), .eq (.int .i64 5), .of (bX WB), .eq (.string WB), .eq (.string (WB ++ ⟨#[32]⟩)), .eq (.pointer (some ⟨w.heap.size, 1, none⟩)), .eq (.int .u64 r.t), .eq (.string DT), .eq (.string (WB ++ ⟨#[32]⟩ ++ DT)), .eq (.string (WB ++ ⟨#[32]⟩ ++ DT))] (by kernel_rfl) ⟨?_, ?_, ?_, ?_, ?_, ?_, ?_, ?_, ?_, ?_, ?_, ?_, ?_, trivial⟩ (fun vs => [(9, vs 0), (10, (.pointer (some ⟨w.heap.size, 0, none⟩))), (11, (.int .i64 5)), (12, vs 3), (13, (.string WB)), (14, (.string (WB ++ ⟨#[32]⟩))), (15, (.pointer (some ⟨w.heap.size, 1, none⟩))), (16, (.int .u64 r.t)), (17, (.string DT)), (18, (.string (WB ++ ⟨#[32]⟩ ++ DT))), (3, (.string (WB ++ ⟨#[32]⟩ ++ DT)))]) (fun _ => rfl) ?_
 ·exact dh
 ·refine rs fun S a wx K Q hR hK => ?_
  go_simp
  go_at_call 52
  refine (bW _).mono ?_
  rintro e w' ⟨rfl, rfl⟩
  exact hK _ _ (br.alloc nl _) ⟨_, rfl, by simp, hR.new _ nl, aa _ _ _ rfl⟩
 ·refine rs fun S a wx K Q hR hK => ?_
  have t1 : a.tmps[1]? = some (.pointer (some ⟨w.heap.size, 0, none⟩)) := hR.o 1
  go_simp
  exact hK _ _ br rfl
 ·refine rs fun S a wx K Q hR hK => ?_
  have t10 := hR.q 1
  have y0 := (hR.bel.cell l0).trans b0
  go_simp
  exact hK _ _ br rfl
 ·exact bY _
 ·refine rs fun S a wx K Q hR hK => ?_
  obtain ⟨u9, t9, f9⟩ := hR.f 0
  have t11 := hR.q 2
  obtain ⟨g9, rfl, hg9, hS9, hw9⟩ := (show dO S u9 wx from f9)
  go_simp
  exact hK _ _ br ⟨g9, 5, by simp, hg9, hS9, by rw [cell_of_row wx _ _ _ _ _ hw9]; exact HW.out⟩
 ·refine rs fun S a wx K Q hR hK => ?_
  obtain ⟨u12, t12, f12⟩ := hR.f 3
  obtain ⟨g12, o12, rfl, _, _, y12⟩ := (show bX WB S u12 wx from f12)
  go_simp
  exact hK _ _ br rfl
 ·refine rs fun S a wx K Q hR hK => ?_
  have t13 := hR.q 4
  have q : ¬ 9223372036854775807 < WB.size + 1 := by omega
  go_simp
  (try go_ints)
  exact hK _ _ br rfl
 ·refine rs fun S a wx K Q hR hK => ?_
  have t1 : a.tmps[1]? = some (.pointer (some ⟨w.heap.size, 0, none⟩)) := hR.o 1
  go_simp
  exact hK _ _ br rfl
 ·refine rs fun S a wx K Q hR hK => ?_
  have t15 := hR.q 6
  have y0 := (hR.bel.cell l0).trans b1
  go_simp
  exact hK _ _ br rfl
 ·refine rs fun S a wx K Q hR hK => ?_
  have t16 := hR.q 7
  go_simp
  go_at_call 53
  refine (HT.out.dt _).mono ?_
  rintro e w' ⟨rfl, rfl⟩
  exact hK _ _ br rfl
 ·refine rs fun S a wx K Q hR hK => ?_
  have t14 := hR.q 5
  have t17 := hR.q 8
  have q : ¬ 9223372036854775807 < WB.size + 1 + DT.size := by omega
  go_simp
  (try go_ints)
  exact hK _ _ br rfl
 ·refine rs fun S a wx K Q hR hK => ?_
  have t18 := hR.q 9
  go_simp
  exact hK _ _ br rfl
 intro S1 vs w1 hD
 have hb1 := hD.bel
 have l1 : w.heap.size < w1.heap.size := by have := hb1.size; omega
 have HB1 := hid hb1
 have c0 := (hb1.cell l0).trans b0
 have c2 := (hb1.cell l0).trans b2
 have c3 := (hb1.cell l0).trans b3
 have c4 := (hb1.cell l0).trans b4
 have c5 := (hb1.cell l0).trans b5
 simp only [aM, List.foldl_cons, List.foldl_nil]
 clear hD b0 b1 b2 b3 b4 b5 hb1
 obtain ⟨S3, hS3⟩ : ∃ S3, S3 = WB ++ ⟨#[32]⟩ ++ DT := ⟨_, rfl⟩
 have zS : S3.size ≤ 27 := by rw [hS3, ByteArray.size_append, ByteArray.size_append, show (ByteArray.mk #[32]).size = 1 from rfl]; omega
 rw [← hS3]
 have HS3 := hid hS3
 have ht3 : S3.data.toList = aC 5 ++ (32 :: Lib.decDigits r.t) := by rw [hS3, HWB.out, HT.out.e1]; simp [ByteArray.data_append]
 have HT3 := hid ht3
 clear hS3 ht3
 have hlw : w.heap.size ≤ W.heap.size := by omega
 have hbx1 : w1.heap[w.heap.size]? = some (.cells #[.int .i64 5, .int .u64 r.t, .int .u64 r.x, .int .u64 r.w, .int .u64 r.n, .int .u64 r.v, .int .i64 k0, .int .u64 k1, .int .u64 k2, .slice k3 k4 k5, .slice k6 n6 k7] 37 (0, 0)) := (HB1.out.block _ l0).trans HB.out.2
 have c6 : w1.cell? ⟨w.heap.size, 6, none⟩ = some (.int .i64 k0) := by rw [cell_of_row w1 _ 6 _ _ _ hbx1]; rfl
 have c7 : w1.cell? ⟨w.heap.size, 7, none⟩ = some (.int .u64 k1) := by rw [cell_of_row w1 _ 7 _ _ _ hbx1]; rfl
 have c8 : w1.cell? ⟨w.heap.size, 8, none⟩ = some (.int .u64 k2) := by rw [cell_of_row w1 _ 8 _ _ _ hbx1]; rfl
 have c9 : w1.cell? ⟨w.heap.size, 9, none⟩ = some (.slice k3 k4 k5) := by rw [cell_of_row w1 _ 9 _ _ _ hbx1]; rfl
 have HX1 := hid hbx1
 have hB1 : Below w.heap.size w w1 := HB.out.1.trans (HB1.out.mono hlw)
 have htl := Ex.told_len r.p HV.out.2.2.1.nums
 have hpr := xu HNK.out.2 hr
 obtain ⟨PT, hPT⟩ : ∃ PT : ByteArray, PT = ⟨r.p.text.toArray⟩ := ⟨_, rfl⟩
 have hpt : PT.data.toList = r.p.told := by rw [hPT]; simp [Ex.text, hpr]
 have zP : PT.size ≤ 100000 := by rw [← ah, hpt]; omega
 have HPT := hid (And.intro hPT (And.intro hpt hB1))
 have q1 : ¬ 9223372036854775807 < S3.size + 1 := by omega
 have q2 : ¬ 9223372036854775807 < S3.size + 1 + PT.size := by omega
 clear c2 c3 c4 c5 hbx1 hPT hpt hB1 hpr
 go_simp
 go_wp2_with fail
 refine (qg S own r.p _ _ hsz (HV.out.2.2.1.below HPT.out.2.2 nl)).mono ?_
 rintro e w2 ⟨rfl, hb2⟩
 rw [← HPT.out.1]
 have hx2 : w2.heap[w.heap.size]? = some (.cells #[.int .i64 5, .int .u64 r.t, .int .u64 r.x, .int .u64 r.w, .int .u64 r.n, .int .u64 r.v, .int .i64 k0, .int .u64 k1, .int .u64 k2, .slice k3 k4 k5, .slice k6 n6 k7] 37 (0, 0)) := (hb2.block _ l1).trans HX1.out
 have HX2 := hid (And.intro hx2 (HPT.out.2.2.trans (hb2.mono (by omega))))
 have l2 : w.heap.size < w2.heap.size := (Array.getElem?_eq_some_iff.1 hx2).1
 clear c0 c6 c7 c8 c9 hb2 hx2
 go_wp2_with fail
 go_loopw [3, 4] (fun s i wr => ∃ j : Nat, ∃ SX : ByteArray, j ≤ n6 ∧ i = .int .i64 j ∧ s = .string SX ∧ SX.data.toList = aC 5 ++ (32 :: Lib.decDigits r.t) ++ (32 :: r.p.told) ++ (r.es.take j).flatMap (fun e => 32 :: e.told) ∧ SX.size ≤ 200000 + 100 * j ∧ Below w2.heap.size w2 wr) (fun _ i _ => n6 - (intOf i).toNat)
 case atStart =>
  refine ⟨0, _, by omega, rfl, rfl, by simp [ByteArray.data_append, HT3.out, HPT.out.2.1], ?_, br⟩
  rw [ByteArray.size_append, ByteArray.size_append, show (ByteArray.mk #[32]).size = 1 from rfl]; omega
 case round =>
  obtain ⟨j, SX, hj, rfl, rfl, hsx, zX1, hbr⟩ := hrel
  have hxr : wr.heap[w.heap.size]? = some (.cells #[.int .i64 5, .int .u64 r.t, .int .u64 r.x, .int .u64 r.w, .int .u64 r.n, .int .u64 r.v, .int .i64 k0, .int .u64 k1, .int .u64 k2, .slice k3 k4 k5, .slice k6 n6 k7] 37 (0, 0)) := (hbr.block _ l2).trans HX2.out.1
  have c10 : wr.cell? ⟨w.heap.size, 10, none⟩ = some (.slice k6 n6 k7) := by rw [cell_of_row wr _ 10 _ _ _ hxr]; rfl
  have hbw : Below w.heap.size w wr := HX2.out.2.trans (hbr.mono (by omega))
  have HSX := hid (And.intro hsx (And.intro hbr hbw))
  clear hsx hbr hbw hxr
  by_cases hlt : j < n6
  ·have hltE : j < r.es.length := by rw [← HNK.out.1]; exact hlt
   have hnk := HNK.out.1
   have hes0 := HV.out.2.2.2
   rw [hnk] at hes0
   obtain ⟨bl, off, hk6, _, d0, d1, d2, d3, _⟩ := (hes0.below HSX.out.2.2 nl).part j hltE
   obtain ⟨hx64, hw64, hn64⟩ := HV.out.2.1.2.2.2.2.2.2 r.es[j] (List.getElem_mem hltE)
   have lx := ak _ hx64
   have lw := ak _ hw64
   have ln := ak _ hn64
   obtain ⟨EX, hEX⟩ : ∃ EX : ByteArray, EX = ⟨(Lib.decDigits r.es[j].x).toArray⟩ := ⟨_, rfl⟩
   obtain ⟨EV, hEV⟩ : ∃ EV : ByteArray, EV = ⟨(dU r.es[j].w r.es[j].n).toArray⟩ := ⟨_, rfl⟩
   have zE : EX.size ≤ 20 := by rw [hEX, ← ah]; simpa using lx
   have zV2 : EV.size ≤ 41 := by rw [hEV, ← ah]; simp [dU]; omega
   have HD := hid (And.intro (fun W => show Calls Tryz.prog 53 #[.int .u64 (r.es[j].x : Nat)] W (fun e w' => e = .returned (.string EX) ∧ w' = W) by rw [hEX]; exact dP _ W hx64) (fun W => show Calls Tryz.prog 27 #[.agg #[.int .u64 (r.es[j].w : Nat), .int .u64 (r.es[j].n : Nat)]] W (fun e w' => e = .returned (.string EV) ∧ Below W.heap.size W w') by rw [hEV]; exact fO _ _ W hw64 hn64))
   have HE := hid (And.intro hEX hEV)
   have HTK := hid (bI r.es j hltE)
   rw [hk6] at c10 ⊢
   obtain ⟨M, hM⟩ : ∃ M, M = r.es[j].m := ⟨_, rfl⟩
   have HM := hid hM
   rw [← hM] at d3
   clear hnk hes0 hk6 lx lw ln hEX hEV hx64 hw64 hn64 hM
   go_wp2_with fail
   obtain ⟨w3, hw3⟩ : ∃ w3, w3 = wr.alloc (.cells #[.int .u64 (r.es[j].x : Nat), .int .u64 (r.es[j].w : Nat), .int .u64 (r.es[j].n : Nat), .bool M] 102) := ⟨_, rfl⟩
   obtain ⟨eb, heb⟩ : ∃ eb, eb = wr.heap.size := ⟨_, rfl⟩
   have hb3 : Below wr.heap.size wr w3 := by rw [hw3]; exact br.alloc nl _
   have hh3 : w3.heap[eb]? = some (.cells #[.int .u64 (r.es[j].x : Nat), .int .u64 (r.es[j].w : Nat), .int .u64 (r.es[j].n : Nat), .bool M] 102 (0, 0)) := by rw [hw3, heb]; exact aa _ _ _ rfl
   have l3 : eb < w3.heap.size := (Array.getElem?_eq_some_iff.1 hh3).1
   have g0 : w3.cell? ⟨eb, 0, none⟩ = some (.int .u64 (r.es[j].x : Nat)) := by rw [cell_of_row w3 _ 0 _ _ _ hh3]; rfl
   have g1 : w3.cell? ⟨eb, 1, none⟩ = some (.int .u64 (r.es[j].w : Nat)) := by rw [cell_of_row w3 _ 1 _ _ _ hh3]; rfl
   have g2 : w3.cell? ⟨eb, 2, none⟩ = some (.int .u64 (r.es[j].n : Nat)) := by rw [cell_of_row w3 _ 2 _ _ _ hh3]; rfl
   have g3 : w3.cell? ⟨eb, 3, none⟩ = some (.bool M) := by rw [cell_of_row w3 _ 3 _ _ _ hh3]; rfl
   rw [← hw3, ← heb]
   have HB3 := hid hb3
   clear hw3 hb3 hh3 heb d0 d1 d2 d3 c10
   have q1 : ¬ 9223372036854775807 < SX.size + 1 := by omega
   have q2 : ¬ 9223372036854775807 < SX.size + 1 + EX.size := by omega
   have q3 : ¬ 9223372036854775807 < SX.size + 1 + EX.size + 1 := by omega
   have q4 : ¬ 9223372036854775807 < SX.size + 1 + EX.size + 1 + EV.size := by omega
   have hbW : Below w3.heap.size w3 w3 := br
   go_region_held3 (fun w' => w'.cell? ⟨eb, 0, none⟩ = some (.int .u64 (r.es[j].x : Nat)) ∧ w'.cell? ⟨eb, 1, none⟩ = some (.int .u64 (r.es[j].w : Nat)) ∧ w'.cell? ⟨eb, 2, none⟩ = some (.int .u64 (r.es[j].n : Nat)))
    (first
     | exact ⟨(hbW.cell l3).trans g0, (hbW.cell l3).trans g1, (hbW.cell l3).trans g2⟩
     | go_keep)
    (first
     | (go_at_call 53; go_fit (HD.out.1 _); rintro e w' ⟨rfl, rfl⟩)
     | (go_at_call 27; go_fit (HD.out.2 _); rintro e w' ⟨rfl, hbx⟩; replace hbW := hbW.drew.trans (hbx.mono hbW.size); clear hbx))
   have hb4 := hbW
   have h3 := (hb4.cell l3).trans g3
   have HB4 := hid (HSX.out.2.1.trans ((HB3.out.trans (hb4.mono HB3.out.size)).mono HSX.out.2.1.size))
   clear hbW q1 q2 q3 q4
   obtain ⟨S4X, hS4⟩ : ∃ S4X, S4X = SX ++ ⟨#[32]⟩ ++ EX ++ ⟨#[58]⟩ ++ EV := ⟨_, rfl⟩
   have zS4 : S4X.size ≤ 200000 + 100 * j + 63 := by rw [hS4]; simp only [ByteArray.size_append, show (ByteArray.mk #[32]).size = 1 from rfl, show (ByteArray.mk #[58]).size = 1 from rfl]; omega
   have q1 : ¬ 9223372036854775807 < S4X.size + 2 := by omega
   rw [← hS4]
   have HS4 := hid hS4
   clear hb4 g0 g1 g2 g3 hS4
   go_simp
   cases M with
   | true =>
    go_wp2_with fail
    go_roundw
    case rel =>
     refine ⟨j + 1, _, by omega, by go_num, rfl, ?_, ?_, HB4.out⟩
     ·rw [HTK.out, List.flatMap_append, ← List.append_assoc, ← HSX.out.1, HS4.out]
      simp [ByteArray.data_append, Ent.told, HE.out.1, HE.out.2, ← HM.out, cB]
     ·rw [ByteArray.size_append, show (ByteArray.mk #[58, 49]).size = 2 from rfl]; omega
    case measure => simp [intOf]; omega
   | false =>
    go_wp2_with fail
    go_roundw
    case rel =>
     refine ⟨j + 1, _, by omega, by go_num, rfl, ?_, ?_, HB4.out⟩
     ·rw [HTK.out, List.flatMap_append, ← List.append_assoc, ← HSX.out.1, HS4.out]
      simp [ByteArray.data_append, Ent.told, HE.out.1, HE.out.2, ← HM.out, cB]
     ·rw [ByteArray.size_append, show (ByteArray.mk #[58, 48]).size = 2 from rfl]; omega
    case measure => simp [intOf]; omega
  ·have hj2 : j = n6 := by omega
   subst hj2
   go_wp2_with fail
   go_ret
   refine ⟨bz ?_, HSX.out.2.2⟩
   rw [eP, HSX.out.1]
   have e := HNK.out.1
   simp [HNK.out.2, Rec.tail, e, List.flatMap_map]
theorem pg (S : Nat → Prop) (own : Bool) (r : Rec) (v : Value) (w : World) (hsz : r.p.size ≤ 900) (hle : r.es.length ≤ 10000) (hv : aI w S own r v) :
  Calls Tryz.prog 17 #[v] w fun e w' => e = .returned (.string ⟨r.text.toArray⟩) ∧ Below w.heap.size w w' := by
 obtain ⟨k0, k1, k2, k3, k4, k5, k6, k7, rfl, hk1, hk2, hnums, he, hes⟩ := hv.conc
 cases hr : r.right with
 | true =>
  obtain ⟨h1, h7, _, _⟩ := (Rec.right_iff r).1 hr
  have ht : r.text = r.told := by unfold Rec.text; rw [if_pos hr]
  rw [ht]
  have hc : r.k = 1 ∨ r.k = 2 ∨ r.k = 3 ∨ r.k = 4 ∨ r.k = 5 ∨ r.k = 6 ∨ r.k = 7 := by omega
  rcases hc with hk | hk | hk | hk | hk | hk | hk <;> rw [hk] at hv ⊢
  ·exact sJ S own r k0 k1 k2 k3 k4 k5 k6 _ k7 w hsz hle rfl hk hr (hid ⟨hv, hnums, he, hes⟩)
  ·exact sN S own r k0 k1 k2 k3 k4 k5 k6 _ k7 w hsz hle rfl hk hr (hid ⟨hv, hnums, he, hes⟩)
  ·exact sO S own r k0 k1 k2 k3 k4 k5 k6 _ k7 w hsz hle rfl hk hr (hid ⟨hv, hnums, he, hes⟩)
  ·exact sP S own r k0 k1 k2 k3 k4 k5 k6 _ k7 w hsz hle rfl hk hr (hid ⟨hv, hnums, he, hes⟩)
  ·exact sQ S own r k0 k1 k2 k3 k4 k5 k6 _ k7 w hsz hle rfl hk hr (hid ⟨hv, hnums, he, hes⟩)
  ·exact sK S own r k0 k1 k2 k3 k4 k5 k6 _ k7 w hsz hle rfl hk hr (hid ⟨hv, hnums, he, hes⟩)
  ·exact sM S own r k0 k1 k2 k3 k4 k5 k6 _ k7 w hsz hle rfl hk hr (hid ⟨hv, hnums, he, hes⟩)
 | false =>
  have ht : r.text = [] := by unfold Rec.text; rw [hr]; simp
  rw [ht]
  have hb0 : ∀ o, Below w.heap.size w (w.alloc o) := fun o => br.alloc nl o
  have HV := hid (And.intro hv hb0)
  have HR := hid hr
  clear hv hb0 he hes ht hr
  go_enter Tryz.func17, Tryz.ntmps17
  go_wp2_with fail
  refine (aJ S own r _ _ hsz (HV.out.1.below (HV.out.2 _) nl)).mono ?_
  rintro e w1 ⟨rfl, hb1⟩
  rw [HR.out]
  have HB := hid ((HV.out.2 _).trans (hb1.mono (by simp)))
  clear hb1
  go_wp2_with fail
  go_ret
  exact ⟨rfl, HB.out⟩
end Go.Proofs.YtmgbhhmipmgcpaaGreatDoor
