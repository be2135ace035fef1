/- Walks. -/
import Derived.Test.YtmgbhhmipmgcpaaGreatDoorQ55
set_option maxHeartbeats 8000000
set_option maxRecDepth 100000
namespace Go.Proofs.YtmgbhhmipmgcpaaGreatDoor
open Go.RowKit Go
set_option linter.unusedVariables false
set_option linter.unusedSimpArgs false
theorem eP (r : Rec) : r.told = aC r.k ++ ((32 :: Lib.decDigits r.t) ++ r.tail.flatMap (fun y => 32 :: y)) := by
 unfold Rec.told Rec.words
 rw [Lib.join_cons]
 simp [Lib.joinTail, List.flatMap_def]
theorem xu {r : Rec} (hk : r.k = 5) (h : r.right = true) : r.p.right = true := ((Rec.right_iff r).1 h).2.2.1 hk
def gI : Array Value := #[.string ⟨#[]⟩, .string ⟨#[98, 101, 103, 105, 110]⟩, .string ⟨#[114, 101, 97, 100]⟩, .string ⟨#[119, 114, 105, 116, 101]⟩, .string ⟨#[100, 101, 108, 101, 116, 101]⟩, .string ⟨#[112, 114, 101, 100]⟩, .string ⟨#[99, 111, 109, 109, 105, 116]⟩, .string ⟨#[97, 98, 111, 114, 116]⟩]
theorem eQ (k : Nat) (h1 : 1 ≤ k) (h7 : k ≤ 7) : gI[k]? = some (.string ⟨(aC k).toArray⟩) := by
 have hc : k = 1 ∨ k = 2 ∨ k = 3 ∨ k = 4 ∨ k = 5 ∨ k = 6 ∨ k = 7 := by omega
 rcases hc with rfl | rfl | rfl | rfl | rfl | rfl | rfl <;> rfl
theorem bW (w : World) : Calls Tryz.prog 52 #[] w fun e w' => e = .returned (.slice (some ⟨w.heap.size, 0, none⟩) 8 8) ∧ w' = w.alloc (.cells gI 9) := by
 go_enter Tryz.func52, Tryz.ntmps52
 go_wp2_with fail
 go_ret
 exact ⟨rfl, rfl⟩
theorem fO (a b : Nat) (w : World) (ha : a < 18446744073709551616) (hb : b < 18446744073709551616) : Calls Tryz.prog 27 #[.agg #[.int .u64 a, .int .u64 b]] w fun e w' => e = .returned (.string ⟨(dU a b).toArray⟩) ∧ Below w.heap.size w w' := by
 have hl := ak a ha
 have hl2 := ak b hb
 go_enter Tryz.func27, Tryz.ntmps27
 go_wp2_with fail
 go_quiet ((go_at_call 53; exact Calls.quiet_of_same (dP _ _ (by assumption))))
 go_wp2_with fail
 go_ret
 exact ⟨bz (by simp [dU]), below_drewN (br.alloc nl _) _⟩
def dO (S : Nat → Prop) (v : Value) (w : World) : Prop := ∃ g, v = .slice (some ⟨g, 0, none⟩) 8 8 ∧ g < w.heap.size ∧ S g ∧ w.heap[g]? = some (.cells gI 9 (0, 0))
theorem dh : iD dO := fun S S' v w w' hk hs hS h => by
 obtain ⟨g, h1, h2, h3, h4⟩ := h
 exact ⟨g, h1, by omega, hS g h2 h3, (hk g h3 h2).trans h4⟩
def bX (x : ByteArray) (S : Nat → Prop) (v : Value) (w : World) : Prop := ∃ g o, v = .pointer (some ⟨g, o, none⟩) ∧ g < w.heap.size ∧ S g ∧ w.cell? ⟨g, o, none⟩ = some (.string x)
theorem bY (x : ByteArray) : iD (bX x) := fun S S' v w w' hk hs hS h => by
 obtain ⟨g, o, h1, h2, h3, h4⟩ := h
 exact ⟨g, o, h1, by omega, hS g h2 h3, by rw [World.cell?_of_block (w := w) (a := ⟨g, o, none⟩) (hk g h3 h2)]; exact h4⟩
structure Tl (r : Rec) (DT DX DV TO : ByteArray) : Prop where
 dt : ∀ W, Calls Tryz.prog 53 #[.int .u64 r.t] W fun e w' => e = .returned (.string DT) ∧ w' = W
 dx : ∀ W, Calls Tryz.prog 53 #[.int .u64 r.x] W fun e w' => e = .returned (.string DX) ∧ w' = W
 dv : ∀ W, Calls Tryz.prog 53 #[.int .u64 r.v] W fun e w' => e = .returned (.string DV) ∧ w' = W
 tv : ∀ W, Calls Tryz.prog 27 #[.agg #[.int .u64 r.w, .int .u64 r.n]] W fun e w' => e = .returned (.string TO) ∧ Below W.heap.size W w'
 e1 : DT = ⟨(Lib.decDigits r.t).toArray⟩
 e2 : DX = ⟨(Lib.decDigits r.x).toArray⟩
 e3 : DV = ⟨(Lib.decDigits r.v).toArray⟩
 e4 : TO = ⟨(dU r.w r.n).toArray⟩
 z1 : DT.size ≤ 20
 z2 : DX.size ≤ 20
 z3 : DV.size ≤ 20
 z4 : TO.size ≤ 41
theorem Tl.mk' (r : Rec) (h : r.nums) : ∃ DT DX DV TO, Tl r DT DX DV TO := by
 obtain ⟨ht, hx, hw, hn, hv, _⟩ := h
 have l1 := ak r.t ht
 have l2 := ak r.x hx
 have l3 := ak r.v hv
 have l4 := ak r.w hw
 have l5 := ak r.n hn
 refine ⟨_, _, _, _, fun W => dP _ W ht, fun W => dP _ W hx, fun W => dP _ W hv, fun W => fO _ _ W hw hn, rfl, rfl, rfl, rfl, ?_, ?_, ?_, ?_⟩
 ·rw [← ah]; simpa using l1
 ·rw [← ah]; simpa using l2
 ·rw [← ah]; simpa using l3
 ·rw [← ah]; simp [dU]; omega
theorem sJ (S : Nat → Prop) (own : Bool) (r : Rec) (k0 : Int) (k1 k2 : Nat) (k3 : Option Addr) (k4 k5 : Nat) (k6 : Option Addr) (n6 k7 : Nat) (w : World) (hsz : r.p.size ≤ 900) (hle : n6 ≤ 10000) (hn6 : n6 = r.es.length) (hk : r.k = 1) (hr : r.right = true)
  (HV : Hid (aI w S own r (.agg #[.int .i64 1, .int .u64 r.t, .int .u64 r.x, .int .u64 r.w, .int .u64 r.n, .int .u64 r.v, .int .i64 k0, .int .u64 k1, .int .u64 k2, .slice k3 k4 k5, .slice k6 n6 k7]) ∧ r.nums ∧ av w S own r.p (.agg #[.int .i64 k0, .int .u64 k1, .int .u64 k2, .slice k3 k4 k5]) ∧ bZ w S own r.es (.slice k6 n6 k7))) :
  Calls Tryz.prog 17 #[.agg #[.int .i64 1, .int .u64 r.t, .int .u64 r.x, .int .u64 r.w, .int .u64 r.n, .int .u64 r.v, .int .i64 k0, .int .u64 k1, .int .u64 k2, .slice k3 k4 k5, .slice k6 n6 k7]] w fun e w' => e = .returned (.string ⟨r.told.toArray⟩) ∧ Below w.heap.size w w' := by
 have hb0 : Below w.heap.size w (w.alloc (.cells #[.int .i64 1, .int .u64 r.t, .int .u64 r.x, .int .u64 r.w, .int .u64 r.n, .int .u64 r.v, .int .i64 k0, .int .u64 k1, .int .u64 k2, .slice k3 k4 k5, .slice k6 n6 k7] 37)) := br.alloc nl _
 obtain ⟨DT, DX, DV, TO, hT⟩ := Tl.mk' r HV.out.2.1
 have zT := hT.z1
 have zX := hT.z2
 have zV := hT.z3
 have zO := hT.z4
 have HT := hid hT
 obtain ⟨WB, hWB⟩ : ∃ WB : ByteArray, WB = ⟨(aC 1).toArray⟩ := ⟨_, rfl⟩
 have zW : WB.size ≤ 6 := by rw [hWB]; decide
 have hw := eQ 1 (by omega) (by omega)
 have HW : Hid (gI[1]? = some (.string WB)) := hid (by rw [hWB]; exact hw)
 have HWB := hid hWB
 have HB0 := hid hb0
 have HNK := hid (And.intro hn6 hk)
 clear hT hWB hw hb0 hn6 hk
 go_enter Tryz.func17, Tryz.ntmps17
 go_wp2_with fail
 refine (aJ _ own r _ _ hsz (HV.out.1.below HB0.out nl)).mono ?_
 rintro e W ⟨rfl, hbR⟩
 rw [hr]
 have hbx : W.heap[w.heap.size]? = some (.cells #[.int .i64 1, .int .u64 r.t, .int .u64 r.x, .int .u64 r.w, .int .u64 r.n, .int .u64 r.v, .int .i64 k0, .int .u64 k1, .int .u64 k2, .slice k3 k4 k5, .slice k6 n6 k7] 37 (0, 0)) := (hbR.block _ (by simp)).trans (aa _ _ _ rfl)
 have hB := HB0.out.trans (hbR.mono (by simp))
 have l0 := (Array.getElem?_eq_some_iff.1 hbx).1
 have b0 : W.cell? ⟨w.heap.size, 0, none⟩ = some (.int .i64 1) := by rw [cell_of_row W _ 0 _ _ _ hbx]; rfl
 have b1 : W.cell? ⟨w.heap.size, 1, none⟩ = some (.int .u64 r.t) := by rw [cell_of_row W _ 1 _ _ _ hbx]; rfl
 have b2 : W.cell? ⟨w.heap.size, 2, none⟩ = some (.int .u64 r.x) := by rw [cell_of_row W _ 2 _ _ _ hbx]; rfl
 have b3 : W.cell? ⟨w.heap.size, 3, none⟩ = some (.int .u64 r.w) := by rw [cell_of_row W _ 3 _ _ _ hbx]; rfl
 have b4 : W.cell? ⟨w.heap.size, 4, none⟩ = some (.int .u64 r.n) := by rw [cell_of_row W _ 4 _ _ _ hbx]; rfl
 have b5 : W.cell? ⟨w.heap.size, 5, none⟩ = some (.int .u64 r.v) := by rw [cell_of_row W _ 5 _ _ _ hbx]; rfl
 have HB := hid (And.intro hB hbx)
 clear hbR hbx hB
 go_wp2_with fail
 refine aA (w0 := W) rfl [.of (dO), .eq (.pointer (some ⟨w.heap.size, 0, none⟩)), .eq (.int .i64 1), .of (bX WB), .eq (.string WB), .eq (.string (WB ++ ⟨#[32]⟩)), .eq (.pointer (some ⟨w.heap.size, 1, none⟩)), .eq (.int .u64 r.t), .eq (.string DT), .eq (.string (WB ++ ⟨#[32]⟩ ++ DT)), .eq (.string (WB ++ ⟨#[32]⟩ ++ DT))] (by kernel_rfl) ⟨?_, ?_, ?_, ?_, ?_, ?_, ?_, ?_, ?_, ?_, ?_, ?_, ?_, trivial⟩ (fun vs => [(9, vs 0), (10, (.pointer (some ⟨w.heap.size, 0, none⟩))), (11, (.int .i64 1)), (12, vs 3), (13, (.string WB)), (14, (.string (WB ++ ⟨#[32]⟩))), (15, (.pointer (some ⟨w.heap.size, 1, none⟩))), (16, (.int .u64 r.t)), (17, (.string DT)), (18, (.string (WB ++ ⟨#[32]⟩ ++ DT))), (3, (.string (WB ++ ⟨#[32]⟩ ++ DT)))]) (fun _ => rfl) ?_
 ·exact dh
 ·refine rs fun S a wx K Q hR hK => ?_
  go_simp
  go_at_call 52
  refine (bW _).mono ?_
  rintro e w' ⟨rfl, rfl⟩
  exact hK _ _ (br.alloc nl _) ⟨_, rfl, by simp, hR.new _ nl, aa _ _ _ rfl⟩
 ·refine rs fun S a wx K Q hR hK => ?_
  have t1 : a.tmps[1]? = some (.pointer (some ⟨w.heap.size, 0, none⟩)) := hR.o 1
  go_simp
  exact hK _ _ br rfl
 ·refine rs fun S a wx K Q hR hK => ?_
  have t10 := hR.q 1
  have y0 := (hR.bel.cell l0).trans b0
  go_simp
  exact hK _ _ br rfl
 ·exact bY _
 ·refine rs fun S a wx K Q hR hK => ?_
  obtain ⟨u9, t9, f9⟩ := hR.f 0
  have t11 := hR.q 2
  obtain ⟨g9, rfl, hg9, hS9, hw9⟩ := (show dO S u9 wx from f9)
  go_simp
  exact hK _ _ br ⟨g9, 1, by simp, hg9, hS9, by rw [cell_of_row wx _ _ _ _ _ hw9]; exact HW.out⟩
 ·refine rs fun S a wx K Q hR hK => ?_
  obtain ⟨u12, t12, f12⟩ := hR.f 3
  obtain ⟨g12, o12, rfl, _, _, y12⟩ := (show bX WB S u12 wx from f12)
  go_simp
  exact hK _ _ br rfl
 ·refine rs fun S a wx K Q hR hK => ?_
  have t13 := hR.q 4
  have q : ¬ 9223372036854775807 < WB.size + 1 := by omega
  go_simp
  (try go_ints)
  exact hK _ _ br rfl
 ·refine rs fun S a wx K Q hR hK => ?_
  have t1 : a.tmps[1]? = some (.pointer (some ⟨w.heap.size, 0, none⟩)) := hR.o 1
  go_simp
  exact hK _ _ br rfl
 ·refine rs fun S a wx K Q hR hK => ?_
  have t15 := hR.q 6
  have y0 := (hR.bel.cell l0).trans b1
  go_simp
  exact hK _ _ br rfl
 ·refine rs fun S a wx K Q hR hK => ?_
  have t16 := hR.q 7
  go_simp
  go_at_call 53
  refine (HT.out.dt _).mono ?_
  rintro e w' ⟨rfl, rfl⟩
  exact hK _ _ br rfl
 ·refine rs fun S a wx K Q hR hK => ?_
  have t14 := hR.q 5
  have t17 := hR.q 8
  have q : ¬ 9223372036854775807 < WB.size + 1 + DT.size := by omega
  go_simp
  (try go_ints)
  exact hK _ _ br rfl
 ·refine rs fun S a wx K Q hR hK => ?_
  have t18 := hR.q 9
  go_simp
  exact hK _ _ br rfl
 intro S1 vs w1 hD
 have hb1 := hD.bel
 have l1 : w.heap.size < w1.heap.size := by have := hb1.size; omega
 have HB1 := hid hb1
 have c0 := (hb1.cell l0).trans b0
 have c2 := (hb1.cell l0).trans b2
 have c3 := (hb1.cell l0).trans b3
 have c4 := (hb1.cell l0).trans b4
 have c5 := (hb1.cell l0).trans b5
 simp only [aM, List.foldl_cons, List.foldl_nil]
 clear hD b0 b1 b2 b3 b4 b5 hb1
 obtain ⟨S3, hS3⟩ : ∃ S3, S3 = WB ++ ⟨#[32]⟩ ++ DT := ⟨_, rfl⟩
 have zS : S3.size ≤ 27 := by rw [hS3, ByteArray.size_append, ByteArray.size_append, show (ByteArray.mk #[32]).size = 1 from rfl]; omega
 rw [← hS3]
 have HS3 := hid hS3
 have ht3 : S3.data.toList = aC 1 ++ (32 :: Lib.decDigits r.t) := by rw [hS3, HWB.out, HT.out.e1]; simp [ByteArray.data_append]
 have HT3 := hid ht3
 clear hS3 ht3
 have hlw : w.heap.size ≤ W.heap.size := by omega
 go_wp2_with fail
 go_ret
 refine ⟨bz ?_, HB.out.1.trans (HB1.out.mono hlw)⟩
 rw [eP]
 simp [ByteArray.data_append, HT3.out, HNK.out.2, Rec.tail]
theorem sK (S : Nat → Prop) (own : Bool) (r : Rec) (k0 : Int) (k1 k2 : Nat) (k3 : Option Addr) (k4 k5 : Nat) (k6 : Option Addr) (n6 k7 : Nat) (w : World) (hsz : r.p.size ≤ 900) (hle : n6 ≤ 10000) (hn6 : n6 = r.es.length) (hk : r.k = 6) (hr : r.right = true)
  (HV : Hid (aI w S own r (.agg #[.int .i64 6, .int .u64 r.t, .int .u64 r.x, .int .u64 r.w, .int .u64 r.n, .int .u64 r.v, .int .i64 k0, .int .u64 k1, .int .u64 k2, .slice k3 k4 k5, .slice k6 n6 k7]) ∧ r.nums ∧ av w S own r.p (.agg #[.int .i64 k0, .int .u64 k1, .int .u64 k2, .slice k3 k4 k5]) ∧ bZ w S own r.es (.slice k6 n6 k7))) :
  Calls Tryz.prog 17 #[.agg #[.int .i64 6, .int .u64 r.t, .int .u64 r.x, .int .u64 r.w, .int .u64 r.n, .int .u64 r.v, .int .i64 k0, .int .u64 k1, .int .u64 k2, .slice k3 k4 k5, .slice k6 n6 k7]] w fun e w' => e = .returned (.string ⟨r.told.toArray⟩) ∧ Below w.heap.size w w' := by
 have hb0 : Below w.heap.size w (w.alloc (.cells #[.int .i64 6, .int .u64 r.t, .int .u64 r.x, .int .u64 r.w, .int .u64 r.n, .int .u64 r.v, .int .i64 k0, .int .u64 k1, .int .u64 k2, .slice k3 k4 k5, .slice k6 n6 k7] 37)) := br.alloc nl _
 obtain ⟨DT, DX, DV, TO, hT⟩ := Tl.mk' r HV.out.2.1
 have zT := hT.z1
 have zX := hT.z2
 have zV := hT.z3
 have zO := hT.z4
 have HT := hid hT
 obtain ⟨WB, hWB⟩ : ∃ WB : ByteArray, WB = ⟨(aC 6).toArray⟩ := ⟨_, rfl⟩
 have zW : WB.size ≤ 6 := by rw [hWB]; decide
 have hw := eQ 6 (by omega) (by omega)
 have HW : Hid (gI[6]? = some (.string WB)) := hid (by rw [hWB]; exact hw)
 have HWB := hid hWB
 have HB0 := hid hb0
 have HNK := hid (And.intro hn6 hk)
 clear hT hWB hw hb0 hn6 hk
 go_enter Tryz.func17, Tryz.ntmps17
 go_wp2_with fail
 refine (aJ _ own r _ _ hsz (HV.out.1.below HB0.out nl)).mono ?_
 rintro e W ⟨rfl, hbR⟩
 rw [hr]
 have hbx : W.heap[w.heap.size]? = some (.cells #[.int .i64 6, .int .u64 r.t, .int .u64 r.x, .int .u64 r.w, .int .u64 r.n, .int .u64 r.v, .int .i64 k0, .int .u64 k1, .int .u64 k2, .slice k3 k4 k5, .slice k6 n6 k7] 37 (0, 0)) := (hbR.block _ (by simp)).trans (aa _ _ _ rfl)
 have hB := HB0.out.trans (hbR.mono (by simp))
 have l0 := (Array.getElem?_eq_some_iff.1 hbx).1
 have b0 : W.cell? ⟨w.heap.size, 0, none⟩ = some (.int .i64 6) := by rw [cell_of_row W _ 0 _ _ _ hbx]; rfl
 have b1 : W.cell? ⟨w.heap.size, 1, none⟩ = some (.int .u64 r.t) := by rw [cell_of_row W _ 1 _ _ _ hbx]; rfl
 have b2 : W.cell? ⟨w.heap.size, 2, none⟩ = some (.int .u64 r.x) := by rw [cell_of_row W _ 2 _ _ _ hbx]; rfl
 have b3 : W.cell? ⟨w.heap.size, 3, none⟩ = some (.int .u64 r.w) := by rw [cell_of_row W _ 3 _ _ _ hbx]; rfl
 have b4 : W.cell? ⟨w.heap.size, 4, none⟩ = some (.int .u64 r.n) := by rw [cell_of_row W _ 4 _ _ _ hbx]; rfl
 have b5 : W.cell? ⟨w.heap.size, 5, none⟩ = some (.int .u64 r.v) := by rw [cell_of_row W _ 5 _ _ _ hbx]; rfl
 have HB := hid (And.intro hB hbx)
 clear hbR hbx hB
 go_wp2_with fail
 refine aA (w0 := W) rfl [.of (dO), .eq (.pointer (some ⟨w.heap.size, 0, none⟩)), .eq (.int .i64 6), .of (bX WB), .eq (.string WB), .eq (.string (WB ++ ⟨#[32]⟩)), .eq (.pointer (some ⟨w.heap.size, 1, none⟩)), .eq (.int .u64 r.t), .eq (.string DT), .eq (.string (WB ++ ⟨#[32]⟩ ++ DT)), .eq (.string (WB ++ ⟨#[32]⟩ ++ DT))] (by kernel_rfl) ⟨?_, ?_, ?_, ?_, ?_, ?_, ?_, ?_, ?_, ?_, ?_, ?_, ?_, trivial⟩ (fun vs => [(9, vs 0), (10, (.pointer (some ⟨w.heap.size, 0, none⟩))), (11, (.int .i64 6)), (12, vs 3), (13, (.string WB)), (14, (.string (WB ++ ⟨#[32]⟩))), (15, (.pointer (some ⟨w.heap.size, 1, none⟩))), (16, (.int .u64 r.t)), (17, (.string DT)), (18, (.string (WB ++ ⟨#[32]⟩ ++ DT))), (3, (.string (WB ++ ⟨#[32]⟩ ++ DT)))]) (fun _ => rfl) ?_
 ·exact dh
 ·refine rs fun S a wx K Q hR hK => ?_
  go_simp
  go_at_call 52
  refine (bW _).mono ?_
  rintro e w' ⟨rfl, rfl⟩
  exact hK _ _ (br.alloc nl _) ⟨_, rfl, by simp, hR.new _ nl, aa _ _ _ rfl⟩
 ·refine rs fun S a wx K Q hR hK => ?_
  have t1 : a.tmps[1]? = some (.pointer (some ⟨w.heap.size, 0, none⟩)) := hR.o 1
  go_simp
  exact hK _ _ br rfl
 ·refine rs fun S a wx K Q hR hK => ?_
  have t10 := hR.q 1
  have y0 := (hR.bel.cell l0).trans b0
  go_simp
  exact hK _ _ br rfl
 ·exact bY _
 ·refine rs fun S a wx K Q hR hK => ?_
  obtain ⟨u9, t9, f9⟩ := hR.f 0
  have t11 := hR.q 2
  obtain ⟨g9, rfl, hg9, hS9, hw9⟩ := (show dO S u9 wx from f9)
  go_simp
  exact hK _ _ br ⟨g9, 6, by simp, hg9, hS9, by rw [cell_of_row wx _ _ _ _ _ hw9]; exact HW.out⟩
 ·refine rs fun S a wx K Q hR hK => ?_
  obtain ⟨u12, t12, f12⟩ := hR.f 3
  obtain ⟨g12, o12, rfl, _, _, y12⟩ := (show bX WB S u12 wx from f12)
  go_simp
  exact hK _ _ br rfl
 ·refine rs fun S a wx K Q hR hK => ?_
  have t13 := hR.q 4
  have q : ¬ 9223372036854775807 < WB.size + 1 := by omega
  go_simp
  (try go_ints)
  exact hK _ _ br rfl
 ·refine rs fun S a wx K Q hR hK => ?_
  have t1 : a.tmps[1]? = some (.pointer (some ⟨w.heap.size, 0, none⟩)) := hR.o 1
  go_simp
  exact hK _ _ br rfl
 ·refine rs fun S a wx K Q hR hK => ?_
  have t15 := hR.q 6
  have y0 := (hR.bel.cell l0).trans b1
  go_simp
  exact hK _ _ br rfl
 ·refine rs fun S a wx K Q hR hK => ?_
  have t16 := hR.q 7
  go_simp
  go_at_call 53
  refine (HT.out.dt _).mono ?_
  rintro e w' ⟨rfl, rfl⟩
  exact hK _ _ br rfl
 ·refine rs fun S a wx K Q hR hK => ?_
  have t14 := hR.q 5
  have t17 := hR.q 8
  have q : ¬ 9223372036854775807 < WB.size + 1 + DT.size := by omega
  go_simp
  (try go_ints)
  exact hK _ _ br rfl
 ·refine rs fun S a wx K Q hR hK => ?_
  have t18 := hR.q 9
  go_simp
  exact hK _ _ br rfl
 intro S1 vs w1 hD
 have hb1 := hD.bel
 have l1 : w.heap.size < w1.heap.size := by have := hb1.size; omega
 have HB1 := hid hb1
 have c0 := (hb1.cell l0).trans b0
 have c2 := (hb1.cell l0).trans b2
 have c3 := (hb1.cell l0).trans b3
 have c4 := (hb1.cell l0).trans b4
 have c5 := (hb1.cell l0).trans b5
 simp only [aM, List.foldl_cons, List.foldl_nil]
 clear hD b0 b1 b2 b3 b4 b5 hb1
 obtain ⟨S3, hS3⟩ : ∃ S3, S3 = WB ++ ⟨#[32]⟩ ++ DT := ⟨_, rfl⟩
 have zS : S3.size ≤ 27 := by rw [hS3, ByteArray.size_append, ByteArray.size_append, show (ByteArray.mk #[32]).size = 1 from rfl]; omega
 rw [← hS3]
 have HS3 := hid hS3
 have ht3 : S3.data.toList = aC 6 ++ (32 :: Lib.decDigits r.t) := by rw [hS3, HWB.out, HT.out.e1]; simp [ByteArray.data_append]
 have HT3 := hid ht3
 clear hS3 ht3
 have hlw : w.heap.size ≤ W.heap.size := by omega
 go_wp2_with fail
 go_ret
 refine ⟨bz ?_, HB.out.1.trans (HB1.out.mono hlw)⟩
 rw [eP]
 simp [ByteArray.data_append, HT3.out, HNK.out.2, Rec.tail]
theorem sM (S : Nat → Prop) (own : Bool) (r : Rec) (k0 : Int) (k1 k2 : Nat) (k3 : Option Addr) (k4 k5 : Nat) (k6 : Option Addr) (n6 k7 : Nat) (w : World) (hsz : r.p.size ≤ 900) (hle : n6 ≤ 10000) (hn6 : n6 = r.es.length) (hk : r.k = 7) (hr : r.right = true)
  (HV : Hid (aI w S own r (.agg #[.int .i64 7, .int .u64 r.t, .int .u64 r.x, .int .u64 r.w, .int .u64 r.n, .int .u64 r.v, .int .i64 k0, .int .u64 k1, .int .u64 k2, .slice k3 k4 k5, .slice k6 n6 k7]) ∧ r.nums ∧ av w S own r.p (.agg #[.int .i64 k0, .int .u64 k1, .int .u64 k2, .slice k3 k4 k5]) ∧ bZ w S own r.es (.slice k6 n6 k7))) :
  Calls Tryz.prog 17 #[.agg #[.int .i64 7, .int .u64 r.t, .int .u64 r.x, .int .u64 r.w, .int .u64 r.n, .int .u64 r.v, .int .i64 k0, .int .u64 k1, .int .u64 k2, .slice k3 k4 k5, .slice k6 n6 k7]] w fun e w' => e = .returned (.string ⟨r.told.toArray⟩) ∧ Below w.heap.size w w' := by
 have hb0 : Below w.heap.size w (w.alloc (.cells #[.int .i64 7, .int .u64 r.t, .int .u64 r.x, .int .u64 r.w, .int .u64 r.n, .int .u64 r.v, .int .i64 k0, .int .u64 k1, .int .u64 k2, .slice k3 k4 k5, .slice k6 n6 k7] 37)) := br.alloc nl _
 obtain ⟨DT, DX, DV, TO, hT⟩ := Tl.mk' r HV.out.2.1
 have zT := hT.z1
 have zX := hT.z2
 have zV := hT.z3
 have zO := hT.z4
 have HT := hid hT
 obtain ⟨WB, hWB⟩ : ∃ WB : ByteArray, WB = ⟨(aC 7).toArray⟩ := ⟨_, rfl⟩
 have zW : WB.size ≤ 6 := by rw [hWB]; decide
 have hw := eQ 7 (by omega) (by omega)
 have HW : Hid (gI[7]? = some (.string WB)) := hid (by rw [hWB]; exact hw)
 have HWB := hid hWB
 have HB0 := hid hb0
 have HNK := hid (And.intro hn6 hk)
 clear hT hWB hw hb0 hn6 hk
 go_enter Tryz.func17, Tryz.ntmps17
 go_wp2_with fail
 refine (aJ _ own r _ _ hsz (HV.out.1.below HB0.out nl)).mono ?_
 rintro e W ⟨rfl, hbR⟩
 rw [hr]
 have hbx : W.heap[w.heap.size]? = some (.cells #[.int .i64 7, .int .u64 r.t, .int .u64 r.x, .int .u64 r.w, .int .u64 r.n, .int .u64 r.v, .int .i64 k0, .int .u64 k1, .int .u64 k2, .slice k3 k4 k5, .slice k6 n6 k7] 37 (0, 0)) := (hbR.block _ (by simp)).trans (aa _ _ _ rfl)
 have hB := HB0.out.trans (hbR.mono (by simp))
 have l0 := (Array.getElem?_eq_some_iff.1 hbx).1
 have b0 : W.cell? ⟨w.heap.size, 0, none⟩ = some (.int .i64 7) := by rw [cell_of_row W _ 0 _ _ _ hbx]; rfl
 have b1 : W.cell? ⟨w.heap.size, 1, none⟩ = some (.int .u64 r.t) := by rw [cell_of_row W _ 1 _ _ _ hbx]; rfl
 have b2 : W.cell? ⟨w.heap.size, 2, none⟩ = some (.int .u64 r.x) := by rw [cell_of_row W _ 2 _ _ _ hbx]; rfl
 have b3 : W.cell? ⟨w.heap.size, 3, none⟩ = some (.int .u64 r.w) := by rw [cell_of_row W _ 3 _ _ _ hbx]; rfl
 have b4 : W.cell? ⟨w.heap.size, 4, none⟩ = some (.int .u64 r.n) := by rw [cell_of_row W _ 4 _ _ _ hbx]; rfl
 have b5 : W.cell? ⟨w.heap.size, 5, none⟩ = some (.int .u64 r.v) := by rw [cell_of_row W _ 5 _ _ _ hbx]; rfl
 have HB := hid (And.intro hB hbx)
 clear hbR hbx hB
 go_wp2_with fail
 refine aA (w0 := W) rfl [.of (dO), .eq (.pointer (some ⟨w.heap.size, 0, none⟩)), .eq (.int .i64 7), .of (bX WB), .eq (.string WB), .eq (.string (WB ++ ⟨#[32]⟩)), .eq (.pointer (some ⟨w.heap.size, 1, none⟩)), .eq (.int .u64 r.t), .eq (.string DT), .eq (.string (WB ++ ⟨#[32]⟩ ++ DT)), .eq (.string (WB ++ ⟨#[32]⟩ ++ DT))] (by kernel_rfl) ⟨?_, ?_, ?_, ?_, ?_, ?_, ?_, ?_, ?_, ?_, ?_, ?_, ?_, trivial⟩ (fun vs => [(9, vs 0), (10, (.pointer (some ⟨w.heap.size, 0, none⟩))), (11, (.int .i64 7)), (12, vs 3), (13, (.string WB)), (14, (.string (WB ++ ⟨#[32]⟩))), (15, (.pointer (some ⟨w.heap.size, 1, none⟩))), (16, (.int .u64 r.t)), (17, (.string DT)), (18, (.string (WB ++ ⟨#[32]⟩ ++ DT))), (3, (.string (WB ++ ⟨#[32]⟩ ++ DT)))]) (fun _ => rfl) ?_
 ·exact dh
 ·refine rs fun S a wx K Q hR hK => ?_
  go_simp
  go_at_call 52
  refine (bW _).mono ?_
  rintro e w' ⟨rfl, rfl⟩
  exact hK _ _ (br.alloc nl _) ⟨_, rfl, by simp, hR.new _ nl, aa _ _ _ rfl⟩
 ·refine rs fun S a wx K Q hR hK => ?_
  have t1 : a.tmps[1]? = some (.pointer (some ⟨w.heap.size, 0, none⟩)) := hR.o 1
  go_simp
  exact hK _ _ br rfl
 ·refine rs fun S a wx K Q hR hK => ?_
  have t10 := hR.q 1
  have y0 := (hR.bel.cell l0).trans b0
  go_simp
  exact hK _ _ br rfl
 ·exact bY _
 ·refine rs fun S a wx K Q hR hK => ?_
  obtain ⟨u9, t9, f9⟩ := hR.f 0
  have t11 := hR.q 2
  obtain ⟨g9, rfl, hg9, hS9, hw9⟩ := (show dO S u9 wx from f9)
  go_simp
  exact hK _ _ br ⟨g9, 7, by simp, hg9, hS9, by rw [cell_of_row wx _ _ _ _ _ hw9]; exact HW.out⟩
 ·refine rs fun S a wx K Q hR hK => ?_
  obtain ⟨u12, t12, f12⟩ := hR.f 3
  obtain ⟨g12, o12, rfl, _, _, y12⟩ := (show bX WB S u12 wx from f12)
  go_simp
  exact hK _ _ br rfl
 ·refine rs fun S a wx K Q hR hK => ?_
  have t13 := hR.q 4
  have q : ¬ 9223372036854775807 < WB.size + 1 := by omega
  go_simp
  (try go_ints)
  exact hK _ _ br rfl
 ·refine rs fun S a wx K Q hR hK => ?_
  have t1 : a.tmps[1]? = some (.pointer (some ⟨w.heap.size, 0, none⟩)) := hR.o 1
  go_simp
  exact hK _ _ br rfl
 ·refine rs fun S a wx K Q hR hK => ?_
  have t15 := hR.q 6
  have y0 := (hR.bel.cell l0).trans b1
  go_simp
  exact hK _ _ br rfl
 ·refine rs fun S a wx K Q hR hK => ?_
  have t16 := hR.q 7
  go_simp
  go_at_call 53
  refine (HT.out.dt _).mono ?_
  rintro e w' ⟨rfl, rfl⟩
  exact hK _ _ br rfl
 ·refine rs fun S a wx K Q hR hK => ?_
  have t14 := hR.q 5
  have t17 := hR.q 8
  have q : ¬ 9223372036854775807 < WB.size + 1 + DT.size := by omega
  go_simp
  (try go_ints)
  exact hK _ _ br rfl
 ·refine rs fun S a wx K Q hR hK => ?_
  have t18 := hR.q 9
  go_simp
  exact hK _ _ br rfl
 intro S1 vs w1 hD
 have hb1 := hD.bel
 have l1 : w.heap.size < w1.heap.size := by have := hb1.size; omega
 have HB1 := hid hb1
 have c0 := (hb1.cell l0).trans b0
 have c2 := (hb1.cell l0).trans b2
 have c3 := (hb1.cell l0).trans b3
 have c4 := (hb1.cell l0).trans b4
 have c5 := (hb1.cell l0).trans b5
 simp only [aM, List.foldl_cons, List.foldl_nil]
 clear hD b0 b1 b2 b3 b4 b5 hb1
 obtain ⟨S3, hS3⟩ : ∃ S3, S3 = WB ++ ⟨#[32]⟩ ++ DT := ⟨_, rfl⟩
 have zS : S3.size ≤ 27 := by rw [hS3, ByteArray.size_append, ByteArray.size_append, show (ByteArray.mk #[32]).size = 1 from rfl]; omega
 rw [← hS3]
 have HS3 := hid hS3
 have ht3 : S3.data.toList = aC 7 ++ (32 :: Lib.decDigits r.t) := by rw [hS3, HWB.out, HT.out.e1]; simp [ByteArray.data_append]
 have HT3 := hid ht3
 clear hS3 ht3
 have hlw : w.heap.size ≤ W.heap.size := by omega
 go_wp2_with fail
 go_ret
 refine ⟨bz ?_, HB.out.1.trans (HB1.out.mono hlw)⟩
 rw [eP]
 simp [ByteArray.data_append, HT3.out, HNK.out.2, Rec.tail]
theorem sN (S : Nat → Prop) (own : Bool) (r : Rec) (k0 : Int) (k1 k2 : Nat) (k3 : Option Addr) (k4 k5 : Nat) (k6 : Option Addr) (n6 k7 : Nat) (w : World) (hsz : r.p.size ≤ 900) (hle : n6 ≤ 10000) (hn6 : n6 = r.es.length) (hk : r.k = 2) (hr : r.right = true)
  (HV : Hid (aI w S own r (.agg #[.int .i64 2, .int .u64 r.t, .int .u64 r.x, .int .u64 r.w, .int .u64 r.n, .int .u64 r.v, .int .i64 k0, .int .u64 k1, .int .u64 k2, .slice k3 k4 k5, .slice k6 n6 k7]) ∧ r.nums ∧ av w S own r.p (.agg #[.int .i64 k0, .int .u64 k1, .int .u64 k2, .slice k3 k4 k5]) ∧ bZ w S own r.es (.slice k6 n6 k7))) :
  Calls Tryz.prog 17 #[.agg #[.int .i64 2, .int .u64 r.t, .int .u64 r.x, .int .u64 r.w, .int .u64 r.n, .int .u64 r.v, .int .i64 k0, .int .u64 k1, .int .u64 k2, .slice k3 k4 k5, .slice k6 n6 k7]] w fun e w' => e = .returned (.string ⟨r.told.toArray⟩) ∧ Below w.heap.size w w' := by
 have hb0 : Below w.heap.size w (w.alloc (.cells #[.int .i64 2, .int .u64 r.t, .int .u64 r.x, .int .u64 r.w, .int .u64 r.n, .int .u64 r.v, .int .i64 k0, .int .u64 k1, .int .u64 k2, .slice k3 k4 k5, .slice k6 n6 k7] 37)) := br.alloc nl _
 obtain ⟨DT, DX, DV, TO, hT⟩ := Tl.mk' r HV.out.2.1
 have zT := hT.z1
 have zX := hT.z2
 have zV := hT.z3
 have zO := hT.z4
 have HT := hid hT
 obtain ⟨WB, hWB⟩ : ∃ WB : ByteArray, WB = ⟨(aC 2).toArray⟩ := ⟨_, rfl⟩
 have zW : WB.size ≤ 6 := by rw [hWB]; decide
 have hw := eQ 2 (by omega) (by omega)
 have HW : Hid (gI[2]? = some (.string WB)) := hid (by rw [hWB]; exact hw)
 have HWB := hid hWB
 have HB0 := hid hb0
 have HNK := hid (And.intro hn6 hk)
 clear hT hWB hw hb0 hn6 hk
 go_enter Tryz.func17, Tryz.ntmps17
 go_wp2_with fail
 refine (aJ _ own r _ _ hsz (HV.out.1.below HB0.out nl)).mono ?_
 rintro e W ⟨rfl, hbR⟩
 rw [hr]
 have hbx : W.heap[w.heap.size]? = some (.cells #[.int .i64 2, .int .u64 r.t, .int .u64 r.x, .int .u64 r.w, .int .u64 r.n, .int .u64 r.v, .int .i64 k0, .int .u64 k1, .int .u64 k2, .slice k3 k4 k5, .slice k6 n6 k7] 37 (0, 0)) := (hbR.block _ (by simp)).trans (aa _ _ _ rfl)
 have hB := HB0.out.trans (hbR.mono (by simp))
 have l0 := (Array.getElem?_eq_some_iff.1 hbx).1
 have b0 : W.cell? ⟨w.heap.size, 0, none⟩ = some (.int .i64 2) := by rw [cell_of_row W _ 0 _ _ _ hbx]; rfl
 have b1 : W.cell? ⟨w.heap.size, 1, none⟩ = some (.int .u64 r.t) := by rw [cell_of_row W _ 1 _ _ _ hbx]; rfl
 have b2 : W.cell? ⟨w.heap.size, 2, none⟩ = some (.int .u64 r.x) := by rw [cell_of_row W _ 2 _ _ _ hbx]; rfl
 have b3 : W.cell? ⟨w.heap.size, 3, none⟩ = some (.int .u64 r.w) := by rw [cell_of_row W _ 3 _ _ _ hbx]; rfl
 have b4 : W.cell? ⟨w.heap.size, 4, none⟩ = some (.int .u64 r.n) := by rw [cell_of_row W _ 4 _ _ _ hbx]; rfl
 have b5 : W.cell? ⟨w.heap.size, 5, none⟩ = some (.int .u64 r.v) := by rw [cell_of_row W _ 5 _ _ _ hbx]; rfl
 have HB := hid (And.intro hB hbx)
 clear hbR hbx hB
 go_wp2_with fail
 refine aA (w0 := W) rfl [.of (dO), .eq (.pointer (some ⟨w.heap.size, 0, none⟩)), .eq (.int .i64 2), .of (bX WB), .eq (.string WB), .eq (.string (WB ++ ⟨#[32]⟩)), .eq (.pointer (some ⟨w.heap.size, 1, none⟩)), .eq (.int .u64 r.t), .eq (.string DT), .eq (.string (WB ++ ⟨#[32]⟩ ++ DT)), .eq (.string (WB ++ ⟨#[32]⟩ ++ DT))] (by kernel_rfl) ⟨?_, ?_, ?_, ?_, ?_, ?_, ?_, ?_, ?_, ?_, ?_, ?_, ?_, trivial⟩ (fun vs => [(9, vs 0), (10, (.pointer (some ⟨w.heap.size, 0, none⟩))), (11, (.int .i64 2)), (12, vs 3), (13, (.string WB)), (14, (.string (WB ++ ⟨#[32]⟩))), (15, (.pointer (some ⟨w.heap.size, 1, none⟩))), (16, (.int .u64 r.t)), (17, (.string DT)), (18, (.string (WB ++ ⟨#[32]⟩ ++ DT))), (3, (.string (WB ++ ⟨#[32]⟩ ++ DT)))]) (fun _ => rfl) ?_
 ·exact dh
 ·refine rs fun S a wx K Q hR hK => ?_
  go_simp
  go_at_call 52
  refine (bW _).mono ?_
  rintro e w' ⟨rfl, rfl⟩
  exact hK _ _ (br.alloc nl _) ⟨_, rfl, by simp, hR.new _ nl, aa _ _ _ rfl⟩
 ·refine rs fun S a wx K Q hR hK => ?_
  have t1 : a.tmps[1]? = some (.pointer (some ⟨w.heap.size, 0, none⟩)) := hR.o 1
  go_simp
  exact hK _ _ br rfl
 ·refine rs fun S a wx K Q hR hK => ?_
  have t10 := hR.q 1
  have y0 := (hR.bel.cell l0).trans b0
  go_simp
  exact hK _ _ br rfl
 ·exact bY _
 ·refine rs fun S a wx K Q hR hK => ?_
  obtain ⟨u9, t9, f9⟩ := hR.f 0
  have t11 := hR.q 2
  obtain ⟨g9, rfl, hg9, hS9, hw9⟩ := (show dO S u9 wx from f9)
  go_simp
  exact hK _ _ br ⟨g9, 2, by simp, hg9, hS9, by rw [cell_of_row wx _ _ _ _ _ hw9]; exact HW.out⟩
 ·refine rs fun S a wx K Q hR hK => ?_
  obtain ⟨u12, t12, f12⟩ := hR.f 3
  obtain ⟨g12, o12, rfl, _, _, y12⟩ := (show bX WB S u12 wx from f12)
  go_simp
  exact hK _ _ br rfl
 ·refine rs fun S a wx K Q hR hK => ?_
  have t13 := hR.q 4
  have q : ¬ 9223372036854775807 < WB.size + 1 := by omega
  go_simp
  (try go_ints)
  exact hK _ _ br rfl
 ·refine rs fun S a wx K Q hR hK => ?_
  have t1 : a.tmps[1]? = some (.pointer (some ⟨w.heap.size, 0, none⟩)) := hR.o 1
  go_simp
  exact hK _ _ br rfl
 ·refine rs fun S a wx K Q hR hK => ?_
  have t15 := hR.q 6
  have y0 := (hR.bel.cell l0).trans b1
  go_simp
  exact hK _ _ br rfl
 ·refine rs fun S a wx K Q hR hK => ?_
  have t16 := hR.q 7
  go_simp
  go_at_call 53
  refine (HT.out.dt _).mono ?_
  rintro e w' ⟨rfl, rfl⟩
  exact hK _ _ br rfl
 ·refine rs fun S a wx K Q hR hK => ?_
  have t14 := hR.q 5
  have t17 := hR.q 8
  have q : ¬ 9223372036854775807 < WB.size + 1 + DT.size := by omega
  go_simp
  (try go_ints)
  exact hK _ _ br rfl
 ·refine rs fun S a wx K Q hR hK => ?_
  have t18 := hR.q 9
  go_simp
  exact hK _ _ br rfl
 intro S1 vs w1 hD
 have hb1 := hD.bel
 have l1 : w.heap.size < w1.heap.size := by have := hb1.size; omega
 have HB1 := hid hb1
 have c0 := (hb1.cell l0).trans b0
 have c2 := (hb1.cell l0).trans b2
 have c3 := (hb1.cell l0).trans b3
 have c4 := (hb1.cell l0).trans b4
 have c5 := (hb1.cell l0).trans b5
 simp only [aM, List.foldl_cons, List.foldl_nil]
 clear hD b0 b1 b2 b3 b4 b5 hb1
 obtain ⟨S3, hS3⟩ : ∃ S3, S3 = WB ++ ⟨#[32]⟩ ++ DT := ⟨_, rfl⟩
 have zS : S3.size ≤ 27 := by rw [hS3, ByteArray.size_append, ByteArray.size_append, show (ByteArray.mk #[32]).size = 1 from rfl]; omega
 rw [← hS3]
 have HS3 := hid hS3
 have ht3 : S3.data.toList = aC 2 ++ (32 :: Lib.decDigits r.t) := by rw [hS3, HWB.out, HT.out.e1]; simp [ByteArray.data_append]
 have HT3 := hid ht3
 clear hS3 ht3
 have hlw : w.heap.size ≤ W.heap.size := by omega
 go_simp
 go_wp2_with fail
 refine aA (w0 := w1) rfl [.eq (.string S3), .eq (.string (S3 ++ ⟨#[32]⟩)), .eq (.pointer (some ⟨w.heap.size, 2, none⟩)), .eq (.int .u64 r.x), .eq (.string DX), .eq (.string (S3 ++ ⟨#[32]⟩ ++ DX)), .eq (.string (S3 ++ ⟨#[32]⟩ ++ DX ++ ⟨#[32]⟩)), .eq (.pointer (some ⟨w.heap.size, 3, none⟩)), .eq (.agg #[.int .u64 r.w, .int .u64 r.n]), .eq (.string TO), .eq (.string (S3 ++ ⟨#[32]⟩ ++ DX ++ ⟨#[32]⟩ ++ TO)), .eq (.string (S3 ++ ⟨#[32]⟩ ++ DX ++ ⟨#[32]⟩ ++ TO))] (by kernel_rfl) ⟨?_, ?_, ?_, ?_, ?_, ?_, ?_, ?_, ?_, ?_, ?_, ?_, trivial⟩ (fun vs => [(23, (.string S3)), (24, (.string (S3 ++ ⟨#[32]⟩))), (25, (.pointer (some ⟨w.heap.size, 2, none⟩))), (26, (.int .u64 r.x)), (27, (.string DX)), (28, (.string (S3 ++ ⟨#[32]⟩ ++ DX))), (29, (.string (S3 ++ ⟨#[32]⟩ ++ DX ++ ⟨#[32]⟩))), (30, (.pointer (some ⟨w.heap.size, 3, none⟩))), (31, (.agg #[.int .u64 r.w, .int .u64 r.n])), (32, (.string TO)), (33, (.string (S3 ++ ⟨#[32]⟩ ++ DX ++ ⟨#[32]⟩ ++ TO))), (2, (.string (S3 ++ ⟨#[32]⟩ ++ DX ++ ⟨#[32]⟩ ++ TO)))]) (fun _ => rfl) ?_
 ·refine rs fun S a wx K Q hR hK => ?_
  have t3 : a.tmps[3]? = some (.string S3) := hR.o 3
  go_simp
  exact hK _ _ br rfl
 ·refine rs fun S a wx K Q hR hK => ?_
  have t23 := hR.q 0
  have q : ¬ 9223372036854775807 < S3.size + 1 := by omega
  go_simp
  (try go_ints)
  exact hK _ _ br rfl
 ·refine rs fun S a wx K Q hR hK => ?_
  have t1 : a.tmps[1]? = some (.pointer (some ⟨w.heap.size, 0, none⟩)) := hR.o 1
  go_simp
  exact hK _ _ br rfl
 ·refine rs fun S a wx K Q hR hK => ?_
  have t25 := hR.q 2
  have y0 := (hR.bel.cell l1).trans c2
  go_simp
  exact hK _ _ br rfl
 ·refine rs fun S a wx K Q hR hK => ?_
  have t26 := hR.q 3
  go_simp
  go_at_call 53
  refine (HT.out.dx _).mono ?_
  rintro e w' ⟨rfl, rfl⟩
  exact hK _ _ br rfl
 ·refine rs fun S a wx K Q hR hK => ?_
  have t24 := hR.q 1
  have t27 := hR.q 4
  have q : ¬ 9223372036854775807 < S3.size + 1 + DX.size := by omega
  go_simp
  (try go_ints)
  exact hK _ _ br rfl
 ·refine rs fun S a wx K Q hR hK => ?_
  have t28 := hR.q 5
  have q : ¬ 9223372036854775807 < S3.size + 1 + DX.size + 1 := by omega
  go_simp
  (try go_ints)
  exact hK _ _ br rfl
 ·refine rs fun S a wx K Q hR hK => ?_
  have t1 : a.tmps[1]? = some (.pointer (some ⟨w.heap.size, 0, none⟩)) := hR.o 1
  go_simp
  exact hK _ _ br rfl
 ·refine rs fun S a wx K Q hR hK => ?_
  have t30 := hR.q 7
  have y0 := (hR.bel.cell l1).trans c3
  have y1 := (hR.bel.cell l1).trans c4
  go_simp
  exact hK _ _ br rfl
 ·refine rs fun S a wx K Q hR hK => ?_
  have t31 := hR.q 8
  go_simp
  go_at_call 27
  refine (HT.out.tv _).mono ?_
  rintro e w' ⟨rfl, hbx⟩
  exact hK _ _ hbx rfl
 ·refine rs fun S a wx K Q hR hK => ?_
  have t29 := hR.q 6
  have t32 := hR.q 9
  have q : ¬ 9223372036854775807 < S3.size + 1 + DX.size + 1 + TO.size := by omega
  go_simp
  (try go_ints)
  exact hK _ _ br rfl
 ·refine rs fun S a wx K Q hR hK => ?_
  have t33 := hR.q 10
  go_simp
  exact hK _ _ br rfl
 intro S2 vs2 w2 hD2
 have HB2 := hid (HB.out.1.trans ((HB1.out.trans (hD2.bel.mono HB1.out.size)).mono hlw))
 simp only [aM, List.foldl_cons, List.foldl_nil]
 clear hD2 c0 c2 c3 c4 c5
 go_simp
 go_wp2_with fail
 go_ret
 refine ⟨bz ?_, HB2.out⟩
 rw [eP]
 simp [ByteArray.data_append, HT3.out, HNK.out.2, Rec.tail, HT.out.e2, HT.out.e4]
theorem sO (S : Nat → Prop) (own : Bool) (r : Rec) (k0 : Int) (k1 k2 : Nat) (k3 : Option Addr) (k4 k5 : Nat) (k6 : Option Addr) (n6 k7 : Nat) (w : World) (hsz : r.p.size ≤ 900) (hle : n6 ≤ 10000) (hn6 : n6 = r.es.length) (hk : r.k = 3) (hr : r.right = true)
  (HV : Hid (aI w S own r (.agg #[.int .i64 3, .int .u64 r.t, .int .u64 r.x, .int .u64 r.w, .int .u64 r.n, .int .u64 r.v, .int .i64 k0, .int .u64 k1, .int .u64 k2, .slice k3 k4 k5, .slice k6 n6 k7]) ∧ r.nums ∧ av w S own r.p (.agg #[.int .i64 k0, .int .u64 k1, .int .u64 k2, .slice k3 k4 k5]) ∧ bZ w S own r.es (.slice k6 n6 k7))) :
  Calls Tryz.prog 17 #[.agg #[.int .i64 3, .int .u64 r.t, .int .u64 r.x, .int .u64 r.w, .int .u64 r.n, .int .u64 r.v, .int .i64 k0, .int .u64 k1, .int .u64 k2, .slice k3 k4 k5, .slice k6 n6 k7]] w fun e w' => e = .returned (.string ⟨r.told.toArray⟩) ∧ Below w.heap.size w w' := by
 have hb0 : Below w.heap.size w (w.alloc (.cells #[.int .i64 3, .int .u64 r.t, .int .u64 r.x, .int .u64 r.w, .int .u64 r.n, .int .u64 r.v, .int .i64 k0, .int .u64 k1, .int .u64 k2, .slice k3 k4 k5, .slice k6 n6 k7] 37)) := br.alloc nl _
 obtain ⟨DT, DX, DV, TO, hT⟩ := Tl.mk' r HV.out.2.1
 have zT := hT.z1
 have zX := hT.z2
 have zV := hT.z3
 have zO := hT.z4
 have HT := hid hT
 obtain ⟨WB, hWB⟩ : ∃ WB : ByteArray, WB = ⟨(aC 3).toArray⟩ := ⟨_, rfl⟩
 have zW : WB.size ≤ 6 := by rw [hWB]; decide
 have hw := eQ 3 (by omega) (by omega)
 have HW : Hid (gI[3]? = some (.string WB)) := hid (by rw [hWB]; exact hw)
 have HWB := hid hWB
 have HB0 := hid hb0
 have HNK := hid (And.intro hn6 hk)
 clear hT hWB hw hb0 hn6 hk
 go_enter Tryz.func17, Tryz.ntmps17
 go_wp2_with fail
 refine (aJ _ own r _ _ hsz (HV.out.1.below HB0.out nl)).mono ?_
 rintro e W ⟨rfl, hbR⟩
 rw [hr]
 have hbx : W.heap[w.heap.size]? = some (.cells #[.int .i64 3, .int .u64 r.t, .int .u64 r.x, .int .u64 r.w, .int .u64 r.n, .int .u64 r.v, .int .i64 k0, .int .u64 k1, .int .u64 k2, .slice k3 k4 k5, .slice k6 n6 k7] 37 (0, 0)) := (hbR.block _ (by simp)).trans (aa _ _ _ rfl)
 have hB := HB0.out.trans (hbR.mono (by simp))
 have l0 := (Array.getElem?_eq_some_iff.1 hbx).1
 have b0 : W.cell? ⟨w.heap.size, 0, none⟩ = some (.int .i64 3) := by rw [cell_of_row W _ 0 _ _ _ hbx]; rfl
 have b1 : W.cell? ⟨w.heap.size, 1, none⟩ = some (.int .u64 r.t) := by rw [cell_of_row W _ 1 _ _ _ hbx]; rfl
 have b2 : W.cell? ⟨w.heap.size, 2, none⟩ = some (.int .u64 r.x) := by rw [cell_of_row W _ 2 _ _ _ hbx]; rfl
 have b3 : W.cell? ⟨w.heap.size, 3, none⟩ = some (.int .u64 r.w) := by rw [cell_of_row W _ 3 _ _ _ hbx]; rfl
 have b4 : W.cell? ⟨w.heap.size, 4, none⟩ = some (.int .u64 r.n) := by rw [cell_of_row W _ 4 _ _ _ hbx]; rfl
 have b5 : W.cell? ⟨w.heap.size, 5, none⟩ = some (.int .u64 r.v) := by rw [cell_of_row W _ 5 _ _ _ hbx]; rfl
 have HB := hid (And.intro hB hbx)
 clear hbR hbx hB
 go_wp2_with fail
 refine aA (w0 := W) rfl [.of (dO), .eq (.pointer (some ⟨w.heap.size, 0, none⟩)), .eq (.int .i64 3), .of (bX WB), .eq (.string WB), .eq (.string (WB ++ ⟨#[32]⟩)), .eq (.pointer (some ⟨w.heap.size, 1, none⟩)), .eq (.int .u64 r.t), .eq (.string DT), .eq (.string (WB ++ ⟨#[32]⟩ ++ DT)), .eq (.string (WB ++ ⟨#[32]⟩ ++ DT))] (by kernel_rfl) ⟨?_, ?_, ?_, ?_, ?_, ?_, ?_, ?_, ?_, ?_, ?_, ?_, ?_, trivial⟩ (fun vs => [(9, vs 0), (10, (.pointer (some ⟨w.heap.size, 0, none⟩))), (11, (.int .i64 3)), (12, vs 3), (13, (.string WB)), (14, (.string (WB ++ ⟨#[32]⟩))), (15, (.pointer (some ⟨w.heap.size, 1, none⟩))), (16, (.int .u64 r.t)), (17, (.string DT)), (18, (.string (WB ++ ⟨#[32]⟩ ++ DT))), (3, (.string (WB ++ ⟨#[32]⟩ ++ DT)))]) (fun _ => rfl) ?_
 ·exact dh
 ·refine rs fun S a wx K Q hR hK => ?_
  go_simp
  go_at_call 52
  refine (bW _).mono ?_
  rintro e w' ⟨rfl, rfl⟩
  exact hK _ _ (br.alloc nl _) ⟨_, rfl, by simp, hR.new _ nl, aa _ _ _ rfl⟩
 ·refine rs fun S a wx K Q hR hK => ?_
  have t1 : a.tmps[1]? = some (.pointer (some ⟨w.heap.size, 0, none⟩)) := hR.o 1
  go_simp
  exact hK _ _ br rfl
 ·refine rs fun S a wx K Q hR hK => ?_
  have t10 := hR.q 1
  have y0 := (hR.bel.cell l0).trans b0
  go_simp
  exact hK _ _ br rfl
 ·exact bY _
 ·refine rs fun S a wx K Q hR hK => ?_
  obtain ⟨u9, t9, f9⟩ := hR.f 0
  have t11 := hR.q 2
  obtain ⟨g9, rfl, hg9, hS9, hw9⟩ := (show dO S u9 wx from f9)
  go_simp
  exact hK _ _ br ⟨g9, 3, by simp, hg9, hS9, by rw [cell_of_row wx _ _ _ _ _ hw9]; exact HW.out⟩
 ·refine rs fun S a wx K Q hR hK => ?_
  obtain ⟨u12, t12, f12⟩ := hR.f 3
  obtain ⟨g12, o12, rfl, _, _, y12⟩ := (show bX WB S u12 wx from f12)
  go_simp
  exact hK _ _ br rfl
 ·refine rs fun S a wx K Q hR hK => ?_
  have t13 := hR.q 4
  have q : ¬ 9223372036854775807 < WB.size + 1 := by omega
  go_simp
  (try go_ints)
  exact hK _ _ br rfl
 ·refine rs fun S a wx K Q hR hK => ?_
  have t1 : a.tmps[1]? = some (.pointer (some ⟨w.heap.size, 0, none⟩)) := hR.o 1
  go_simp
  exact hK _ _ br rfl
 ·refine rs fun S a wx K Q hR hK => ?_
  have t15 := hR.q 6
  have y0 := (hR.bel.cell l0).trans b1
  go_simp
  exact hK _ _ br rfl
 ·refine rs fun S a wx K Q hR hK => ?_
  have t16 := hR.q 7
  go_simp
  go_at_call 53
  refine (HT.out.dt _).mono ?_
  rintro e w' ⟨rfl, rfl⟩
  exact hK _ _ br rfl
 ·refine rs fun S a wx K Q hR hK => ?_
  have t14 := hR.q 5
  have t17 := hR.q 8
  have q : ¬ 9223372036854775807 < WB.size + 1 + DT.size := by omega
  go_simp
  (try go_ints)
  exact hK _ _ br rfl
 ·refine rs fun S a wx K Q hR hK => ?_
  have t18 := hR.q 9
  go_simp
  exact hK _ _ br rfl
 intro S1 vs w1 hD
 have hb1 := hD.bel
 have l1 : w.heap.size < w1.heap.size := by have := hb1.size; omega
 have HB1 := hid hb1
 have c0 := (hb1.cell l0).trans b0
 have c2 := (hb1.cell l0).trans b2
 have c3 := (hb1.cell l0).trans b3
 have c4 := (hb1.cell l0).trans b4
 have c5 := (hb1.cell l0).trans b5
 simp only [aM, List.foldl_cons, List.foldl_nil]
 clear hD b0 b1 b2 b3 b4 b5 hb1
 obtain ⟨S3, hS3⟩ : ∃ S3, S3 = WB ++ ⟨#[32]⟩ ++ DT := ⟨_, rfl⟩
 have zS : S3.size ≤ 27 := by rw [hS3, ByteArray.size_append, ByteArray.size_append, show (ByteArray.mk #[32]).size = 1 from rfl]; omega
 rw [← hS3]
 have HS3 := hid hS3
 have ht3 : S3.data.toList = aC 3 ++ (32 :: Lib.decDigits r.t) := by rw [hS3, HWB.out, HT.out.e1]; simp [ByteArray.data_append]
 have HT3 := hid ht3
 clear hS3 ht3
 have hlw : w.heap.size ≤ W.heap.size := by omega
 go_simp
 go_wp2_with fail
 refine aA (w0 := w1) rfl [.eq (.string S3), .eq (.string (S3 ++ ⟨#[32]⟩)), .eq (.pointer (some ⟨w.heap.size, 2, none⟩)), .eq (.int .u64 r.x), .eq (.string DX), .eq (.string (S3 ++ ⟨#[32]⟩ ++ DX)), .eq (.string (S3 ++ ⟨#[32]⟩ ++ DX ++ ⟨#[32]⟩)), .eq (.pointer (some ⟨w.heap.size, 5, none⟩)), .eq (.int .u64 r.v), .eq (.string DV), .eq (.string (S3 ++ ⟨#[32]⟩ ++ DX ++ ⟨#[32]⟩ ++ DV)), .eq (.string (S3 ++ ⟨#[32]⟩ ++ DX ++ ⟨#[32]⟩ ++ DV))] (by kernel_rfl) ⟨?_, ?_, ?_, ?_, ?_, ?_, ?_, ?_, ?_, ?_, ?_, ?_, trivial⟩ (fun vs => [(36, (.string S3)), (37, (.string (S3 ++ ⟨#[32]⟩))), (38, (.pointer (some ⟨w.heap.size, 2, none⟩))), (39, (.int .u64 r.x)), (40, (.string DX)), (41, (.string (S3 ++ ⟨#[32]⟩ ++ DX))), (42, (.string (S3 ++ ⟨#[32]⟩ ++ DX ++ ⟨#[32]⟩))), (43, (.pointer (some ⟨w.heap.size, 5, none⟩))), (44, (.int .u64 r.v)), (45, (.string DV)), (46, (.string (S3 ++ ⟨#[32]⟩ ++ DX ++ ⟨#[32]⟩ ++ DV))), (2, (.string (S3 ++ ⟨#[32]⟩ ++ DX ++ ⟨#[32]⟩ ++ DV)))]) (fun _ => rfl) ?_
 ·refine rs fun S a wx K Q hR hK => ?_
  have t3 : a.tmps[3]? = some (.string S3) := hR.o 3
  go_simp
  exact hK _ _ br rfl
 ·refine rs fun S a wx K Q hR hK => ?_
  have t36 := hR.q 0
  have q : ¬ 9223372036854775807 < S3.size + 1 := by omega
  go_simp
  (try go_ints)
  exact hK _ _ br rfl
 ·refine rs fun S a wx K Q hR hK => ?_
  have t1 : a.tmps[1]? = some (.pointer (some ⟨w.heap.size, 0, none⟩)) := hR.o 1
  go_simp
  exact hK _ _ br rfl
 ·refine rs fun S a wx K Q hR hK => ?_
  have t38 := hR.q 2
  have y0 := (hR.bel.cell l1).trans c2
  go_simp
  exact hK _ _ br rfl
 ·refine rs fun S a wx K Q hR hK => ?_
  have t39 := hR.q 3
  go_simp
  go_at_call 53
  refine (HT.out.dx _).mono ?_
  rintro e w' ⟨rfl, rfl⟩
  exact hK _ _ br rfl
 ·refine rs fun S a wx K Q hR hK => ?_
  have t37 := hR.q 1
  have t40 := hR.q 4
  have q : ¬ 9223372036854775807 < S3.size + 1 + DX.size := by omega
  go_simp
  (try go_ints)
  exact hK _ _ br rfl
 ·refine rs fun S a wx K Q hR hK => ?_
  have t41 := hR.q 5
  have q : ¬ 9223372036854775807 < S3.size + 1 + DX.size + 1 := by omega
  go_simp
  (try go_ints)
  exact hK _ _ br rfl
 ·refine rs fun S a wx K Q hR hK => ?_
  have t1 : a.tmps[1]? = some (.pointer (some ⟨w.heap.size, 0, none⟩)) := hR.o 1
  go_simp
  exact hK _ _ br rfl
 ·refine rs fun S a wx K Q hR hK => ?_
  have t43 := hR.q 7
  have y0 := (hR.bel.cell l1).trans c5
  go_simp
  exact hK _ _ br rfl
 ·refine rs fun S a wx K Q hR hK => ?_
  have t44 := hR.q 8
  go_simp
  go_at_call 53
  refine (HT.out.dv _).mono ?_
  rintro e w' ⟨rfl, rfl⟩
  exact hK _ _ br rfl
 ·refine rs fun S a wx K Q hR hK => ?_
  have t42 := hR.q 6
  have t45 := hR.q 9
  have q : ¬ 9223372036854775807 < S3.size + 1 + DX.size + 1 + DV.size := by omega
  go_simp
  (try go_ints)
  exact hK _ _ br rfl
 ·refine rs fun S a wx K Q hR hK => ?_
  have t46 := hR.q 10
  go_simp
  exact hK _ _ br rfl
 intro S2 vs2 w2 hD2
 have HB2 := hid (HB.out.1.trans ((HB1.out.trans (hD2.bel.mono HB1.out.size)).mono hlw))
 simp only [aM, List.foldl_cons, List.foldl_nil]
 clear hD2 c0 c2 c3 c4 c5
 go_simp
 go_wp2_with fail
 go_ret
 refine ⟨bz ?_, HB2.out⟩
 rw [eP]
 simp [ByteArray.data_append, HT3.out, HNK.out.2, Rec.tail, HT.out.e2, HT.out.e3]
theorem sP (S : Nat → Prop) (own : Bool) (r : Rec) (k0 : Int) (k1 k2 : Nat) (k3 : Option Addr) (k4 k5 : Nat) (k6 : Option Addr) (n6 k7 : Nat) (w : World) (hsz : r.p.size ≤ 900) (hle : n6 ≤ 10000) (hn6 : n6 = r.es.length) (hk : r.k = 4) (hr : r.right = true)
  (HV : Hid (aI w S own r (.agg #[.int .i64 4, .int .u64 r.t, .int .u64 r.x, .int .u64 r.w, .int .u64 r.n, .int .u64 r.v, .int .i64 k0, .int .u64 k1, .int .u64 k2, .slice k3 k4 k5, .slice k6 n6 k7]) ∧ r.nums ∧ av w S own r.p (.agg #[.int .i64 k0, .int .u64 k1, .int .u64 k2, .slice k3 k4 k5]) ∧ bZ w S own r.es (.slice k6 n6 k7))) :
  Calls Tryz.prog 17 #[.agg #[.int .i64 4, .int .u64 r.t, .int .u64 r.x, .int .u64 r.w, .int .u64 r.n, .int .u64 r.v, .int .i64 k0, .int .u64 k1, .int .u64 k2, .slice k3 k4 k5, .slice k6 n6 k7]] w fun e w' => e = .returned (.string ⟨r.told.toArray⟩) ∧ Below w.heap.size w w' := by
 have hb0 : Below w.heap.size w (w.alloc (.cells #[.int .i64 4, .int .u64 r.t, .int .u64 r.x, .int .u64 r.w, .int .u64 r.n, .int .u64 r.v, .int .i64 k0, .int .u64 k1, .int .u64 k2, .slice k3 k4 k5, .slice k6 n6 k7] 37)) := br.alloc nl _
 obtain ⟨DT, DX, DV, TO, hT⟩ := Tl.mk' r HV.out.2.1
 have zT := hT.z1
 have zX := hT.z2
 have zV := hT.z3
 have zO := hT.z4
 have HT := hid hT
 obtain ⟨WB, hWB⟩ : ∃ WB : ByteArray, WB = ⟨(aC 4).toArray⟩ := ⟨_, rfl⟩
 have zW : WB.size ≤ 6 := by rw [hWB]; decide
 have hw := eQ 4 (by omega) (by omega)
 have HW : Hid (gI[4]? = some (.string WB)) := hid (by rw [hWB]; exact hw)
 have HWB := hid hWB
 have HB0 := hid hb0
 have HNK := hid (And.intro hn6 hk)
 clear hT hWB hw hb0 hn6 hk
 go_enter Tryz.func17, Tryz.ntmps17
 go_wp2_with fail
 refine (aJ _ own r _ _ hsz (HV.out.1.below HB0.out nl)).mono ?_
 rintro e W ⟨rfl, hbR⟩
 rw [hr]
 have hbx : W.heap[w.heap.size]? = some (.cells #[.int .i64 4, .int .u64 r.t, .int .u64 r.x, .int .u64 r.w, .int .u64 r.n, .int .u64 r.v, .int .i64 k0, .int .u64 k1, .int .u64 k2, .slice k3 k4 k5, .slice k6 n6 k7] 37 (0, 0)) := (hbR.block _ (by simp)).trans (aa _ _ _ rfl)
 have hB := HB0.out.trans (hbR.mono (by simp))
 have l0 := (Array.getElem?_eq_some_iff.1 hbx).1
 have b0 : W.cell? ⟨w.heap.size, 0, none⟩ = some (.int .i64 4) := by rw [cell_of_row W _ 0 _ _ _ hbx]; rfl
 have b1 : W.cell? ⟨w.heap.size, 1, none⟩ = some (.int .u64 r.t) := by rw [cell_of_row W _ 1 _ _ _ hbx]; rfl
 have b2 : W.cell? ⟨w.heap.size, 2, none⟩ = some (.int .u64 r.x) := by rw [cell_of_row W _ 2 _ _ _ hbx]; rfl
 have b3 : W.cell? ⟨w.heap.size, 3, none⟩ = some (.int .u64 r.w) := by rw [cell_of_row W _ 3 _ _ _ hbx]; rfl
 have b4 : W.cell? ⟨w.heap.size, 4, none⟩ = some (.int .u64 r.n) := by rw [cell_of_row W _ 4 _ _ _ hbx]; rfl
 have b5 : W.cell? ⟨w.heap.size, 5, none⟩ = some (.int .u64 r.v) := by rw [cell_of_row W _ 5 _ _ _ hbx]; rfl
 have HB := hid (And.intro hB hbx)
 clear hbR hbx hB
 go_wp2_with fail
 refine aA (w0 := W) rfl [.of (dO), .eq (.pointer (some ⟨w.heap.size, 0, none⟩)), .eq (.int .i64 4), .of (bX WB), .eq (.string WB), .eq (.string (WB ++ ⟨#[32]⟩)), .eq (.pointer (some ⟨w.heap.size, 1, none⟩)), .eq (.int .u64 r.t), .eq (.string DT), .eq (.string (WB ++ ⟨#[32]⟩ ++ DT)), .eq (.string (WB ++ ⟨#[32]⟩ ++ DT))] (by kernel_rfl) ⟨?_, ?_, ?_, ?_, ?_, ?_, ?_, ?_, ?_, ?_, ?_, ?_, ?_, trivial⟩ (fun vs => [(9, vs 0), (10, (.pointer (some ⟨w.heap.size, 0, none⟩))), (11, (.int .i64 4)), (12, vs 3), (13, (.string WB)), (14, (.string (WB ++ ⟨#[32]⟩))), (15, (.pointer (some ⟨w.heap.size, 1, none⟩))), (16, (.int .u64 r.t)), (17, (.string DT)), (18, (.string (WB ++ ⟨#[32]⟩ ++ DT))), (3, (.string (WB ++ ⟨#[32]⟩ ++ DT)))]) (fun _ => rfl) ?_
 ·exact dh
 ·refine rs fun S a wx K Q hR hK => ?_
  go_simp
  go_at_call 52
  refine (bW _).mono ?_
  rintro e w' ⟨rfl, rfl⟩
  exact hK _ _ (br.alloc nl _) ⟨_, rfl, by simp, hR.new _ nl, aa _ _ _ rfl⟩
 ·refine rs fun S a wx K Q hR hK => ?_
  have t1 : a.tmps[1]? = some (.pointer (some ⟨w.heap.size, 0, none⟩)) := hR.o 1
  go_simp
  exact hK _ _ br rfl
 ·refine rs fun S a wx K Q hR hK => ?_
  have t10 := hR.q 1
  have y0 := (hR.bel.cell l0).trans b0
  go_simp
  exact hK _ _ br rfl
 ·exact bY _
 ·refine rs fun S a wx K Q hR hK => ?_
  obtain ⟨u9, t9, f9⟩ := hR.f 0
  have t11 := hR.q 2
  obtain ⟨g9, rfl, hg9, hS9, hw9⟩ := (show dO S u9 wx from f9)
  go_simp
  exact hK _ _ br ⟨g9, 4, by simp, hg9, hS9, by rw [cell_of_row wx _ _ _ _ _ hw9]; exact HW.out⟩
 ·refine rs fun S a wx K Q hR hK => ?_
  obtain ⟨u12, t12, f12⟩ := hR.f 3
  obtain ⟨g12, o12, rfl, _, _, y12⟩ := (show bX WB S u12 wx from f12)
  go_simp
  exact hK _ _ br rfl
 ·refine rs fun S a wx K Q hR hK => ?_
  have t13 := hR.q 4
  have q : ¬ 9223372036854775807 < WB.size + 1 := by omega
  go_simp
  (try go_ints)
  exact hK _ _ br rfl
 ·refine rs fun S a wx K Q hR hK => ?_
  have t1 : a.tmps[1]? = some (.pointer (some ⟨w.heap.size, 0, none⟩)) := hR.o 1
  go_simp
  exact hK _ _ br rfl
 ·refine rs fun S a wx K Q hR hK => ?_
  have t15 := hR.q 6
  have y0 := (hR.bel.cell l0).trans b1
  go_simp
  exact hK _ _ br rfl
 ·refine rs fun S a wx K Q hR hK => ?_
  have t16 := hR.q 7
  go_simp
  go_at_call 53
  refine (HT.out.dt _).mono ?_
  rintro e w' ⟨rfl, rfl⟩
  exact hK _ _ br rfl
 ·refine rs fun S a wx K Q hR hK => ?_
  have t14 := hR.q 5
  have t17 := hR.q 8
  have q : ¬ 9223372036854775807 < WB.size + 1 + DT.size := by omega
  go_simp
  (try go_ints)
  exact hK _ _ br rfl
 ·refine rs fun S a wx K Q hR hK => ?_
  have t18 := hR.q 9
  go_simp
  exact hK _ _ br rfl
 intro S1 vs w1 hD
 have hb1 := hD.bel
 have l1 : w.heap.size < w1.heap.size := by have := hb1.size; omega
 have HB1 := hid hb1
 have c0 := (hb1.cell l0).trans b0
 have c2 := (hb1.cell l0).trans b2
 have c3 := (hb1.cell l0).trans b3
 have c4 := (hb1.cell l0).trans b4
 have c5 := (hb1.cell l0).trans b5
 simp only [aM, List.foldl_cons, List.foldl_nil]
 clear hD b0 b1 b2 b3 b4 b5 hb1
 obtain ⟨S3, hS3⟩ : ∃ S3, S3 = WB ++ ⟨#[32]⟩ ++ DT := ⟨_, rfl⟩
 have zS : S3.size ≤ 27 := by rw [hS3, ByteArray.size_append, ByteArray.size_append, show (ByteArray.mk #[32]).size = 1 from rfl]; omega
 rw [← hS3]
 have HS3 := hid hS3
 have ht3 : S3.data.toList = aC 4 ++ (32 :: Lib.decDigits r.t) := by rw [hS3, HWB.out, HT.out.e1]; simp [ByteArray.data_append]
 have HT3 := hid ht3
 clear hS3 ht3
 have hlw : w.heap.size ≤ W.heap.size := by omega
 have q1 : ¬ 9223372036854775807 < S3.size + 1 := by omega
 have q2 : ¬ 9223372036854775807 < S3.size + 1 + DX.size := by omega
 go_simp
 go_wp2_with fail
 refine (HT.out.dx _).mono ?_
 rintro e w2 ⟨rfl, rfl⟩
 go_wp2_with fail
 go_ret
 refine ⟨bz ?_, HB.out.1.trans (HB1.out.mono hlw)⟩
 rw [eP]
 simp [ByteArray.data_append, HT3.out, HNK.out.2, Rec.tail, HT.out.e2]
end Go.Proofs.YtmgbhhmipmgcpaaGreatDoor
