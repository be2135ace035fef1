/- Walks. -/
import Derived.Test.YtlpgokcapdjgjaaGreatDoorYV23
set_option maxHeartbeats 8000000
set_option maxRecDepth 100000
namespace Go.Proofs.YtlpgokcapdjgjaaGreatDoor
open Go.RowKit Go
set_option linter.unusedVariables false
set_option linter.unusedSimpArgs false
theorem gy (r : Rec) : r.told = ay r.k ++ ((32 :: Lib.decDigits r.t) ++ r.tail.flatMap (fun y => 32 :: y)) := by
 unfold Rec.told Rec.words
 rw [Lib.join_cons]
 simp [Lib.joinTail, List.flatMap_def]
theorem DC {r : Rec} (hk : r.k = 5) (h : r.right = true) : r.p.right = true := ((Rec.right_iff r).1 h).2.2.1 hk
def eT : Array Value := #[.string ⟨#[]⟩, .string ⟨#[98, 101, 103, 105, 110]⟩, .string ⟨#[114, 101, 97, 100]⟩, .string ⟨#[119, 114, 105, 116, 101]⟩, .string ⟨#[100, 101, 108, 101, 116, 101]⟩, .string ⟨#[112, 114, 101, 100]⟩, .string ⟨#[99, 111, 109, 109, 105, 116]⟩, .string ⟨#[97, 98, 111, 114, 116]⟩]
theorem cu (k : Nat) (h1 : 1 ≤ k) (h7 : k ≤ 7) : eT[k]? = some (.string ⟨(ay k).toArray⟩) := by
 have hc : k = 1 ∨ k = 2 ∨ k = 3 ∨ k = 4 ∨ k = 5 ∨ k = 6 ∨ k = 7 := by omega
 rcases hc with rfl | rfl | rfl | rfl | rfl | rfl | rfl <;> rfl
theorem aP (w : World) : Calls Tryz.prog 52 #[] w fun e w' => e = .returned (.slice (some ⟨w.heap.size, 0, none⟩) 8 8) ∧ w' = w.alloc (.cells eT 9) := by
 go_enter Tryz.func52, Tryz.ntmps52
 go_wp2_with fail
 go_ret
 exact ⟨rfl, rfl⟩
theorem mJ (a b : Nat) (w : World) (ha : a < 18446744073709551616) (hb : b < 18446744073709551616) : Calls Tryz.prog 81 #[.agg #[.int .u64 a, .int .u64 b]] w fun e w' => e = .returned (.string ⟨(jO a b).toArray⟩) ∧ Below w.heap.size w w' := by
 have hl := aJ a ha
 have hl2 := aJ b hb
 go_enter Tryz.func81, Tryz.ntmps81
 go_wp2_with fail
 go_quiet ((go_at_call 80; exact Calls.quiet_of_same (dB _ _ (by assumption))))
 go_wp2_with fail
 go_ret
 exact ⟨dQ (by simp [jO]), below_drewN (br.alloc nl _) _⟩
def aZ (S : Nat → Prop) (v : Value) (w : World) : Prop := ∃ g, v = .slice (some ⟨g, 0, none⟩) 8 8 ∧ g < w.heap.size ∧ S g ∧ w.heap[g]? = some (.cells eT 9 (0, 0))
theorem aW : iO aZ := fun S S' v w w' hk hs hS h => by
 obtain ⟨g, h1, h2, h3, h4⟩ := h
 exact ⟨g, h1, by omega, hS g h2 h3, (hk g h3 h2).trans h4⟩
def aQ (x : ByteArray) (S : Nat → Prop) (v : Value) (w : World) : Prop := ∃ g o, v = .pointer (some ⟨g, o, none⟩) ∧ g < w.heap.size ∧ S g ∧ w.cell? ⟨g, o, none⟩ = some (.string x)
theorem aR (x : ByteArray) : iO (aQ x) := fun S S' v w w' hk hs hS h => by
 obtain ⟨g, o, h1, h2, h3, h4⟩ := h
 exact ⟨g, o, h1, by omega, hS g h2 h3, by rw [World.cell?_of_block (w := w) (a := ⟨g, o, none⟩) (hk g h3 h2)]; exact h4⟩
structure Tl (r : Rec) (DT DX DV TO : ByteArray) : Prop where
 dt : ∀ W, Calls Tryz.prog 80 #[.int .u64 r.t] W fun e w' => e = .returned (.string DT) ∧ w' = W
 dx : ∀ W, Calls Tryz.prog 80 #[.int .u64 r.x] W fun e w' => e = .returned (.string DX) ∧ w' = W
 dv : ∀ W, Calls Tryz.prog 80 #[.int .u64 r.v] W fun e w' => e = .returned (.string DV) ∧ w' = W
 tv : ∀ W, Calls Tryz.prog 81 #[.agg #[.int .u64 r.w, .int .u64 r.n]] W fun e w' => e = .returned (.string TO) ∧ Below W.heap.size W w'
 e1 : DT = ⟨(Lib.decDigits r.t).toArray⟩
 e2 : DX = ⟨(Lib.decDigits r.x).toArray⟩
 e3 : DV = ⟨(Lib.decDigits r.v).toArray⟩
 e4 : TO = ⟨(jO r.w r.n).toArray⟩
 z1 : DT.size ≤ 20
 z2 : DX.size ≤ 20
 z3 : DV.size ≤ 20
 z4 : TO.size ≤ 41
theorem Tl.mk' (r : Rec) (h : r.nums) : ∃ DT DX DV TO, Tl r DT DX DV TO := by
 obtain ⟨ht, hx, hw, hn, hv, _⟩ := h
 have l1 := aJ r.t ht
 have l2 := aJ r.x hx
 have l3 := aJ r.v hv
 have l4 := aJ r.w hw
 have l5 := aJ r.n hn
 refine ⟨_, _, _, _, fun W => dB _ W ht, fun W => dB _ W hx, fun W => dB _ W hv, fun W => mJ _ _ W hw hn, rfl, rfl, rfl, rfl, ?_, ?_, ?_, ?_⟩
 ·rw [← af]; simpa using l1
 ·rw [← af]; simpa using l2
 ·rw [← af]; simpa using l3
 ·rw [← af]; simp [jO]; omega
theorem yH (S : Nat → Prop) (own : Bool) (r : Rec) (k0 : Int) (k1 k2 : Nat) (k3 : Option Addr) (k4 k5 : Nat) (k6 : Option Addr) (n6 k7 : Nat) (w : World) (hsz : r.p.size ≤ 900) (hle : n6 ≤ 10000) (hn6 : n6 = r.es.length) (hk : r.k = 1) (hr : r.right = true)
  (HV : Hid (aI w S own r (.agg #[.int .i64 1, .int .u64 r.t, .int .u64 r.x, .int .u64 r.w, .int .u64 r.n, .int .u64 r.v, .int .i64 k0, .int .u64 k1, .int .u64 k2, .slice k3 k4 k5, .slice k6 n6 k7]) ∧ r.nums ∧ ax w S own r.p (.agg #[.int .i64 k0, .int .u64 k1, .int .u64 k2, .slice k3 k4 k5]) ∧ eX w S own r.es (.slice k6 n6 k7))) :
  Calls Tryz.prog 42 #[.agg #[.int .i64 1, .int .u64 r.t, .int .u64 r.x, .int .u64 r.w, .int .u64 r.n, .int .u64 r.v, .int .i64 k0, .int .u64 k1, .int .u64 k2, .slice k3 k4 k5, .slice k6 n6 k7]] w fun e w' => e = .returned (.string ⟨r.told.toArray⟩) ∧ Below w.heap.size w w' := by
 have hb0 : Below w.heap.size w (w.alloc (.cells #[.int .i64 1, .int .u64 r.t, .int .u64 r.x, .int .u64 r.w, .int .u64 r.n, .int .u64 r.v, .int .i64 k0, .int .u64 k1, .int .u64 k2, .slice k3 k4 k5, .slice k6 n6 k7] 65)) := br.alloc nl _
 obtain ⟨DT, DX, DV, TO, hT⟩ := Tl.mk' r HV.out.2.1
 have zT := hT.z1
 have zX := hT.z2
 have zV := hT.z3
 have zO := hT.z4
 have HT := hid hT
 obtain ⟨WB, hWB⟩ : ∃ WB : ByteArray, WB = ⟨(ay 1).toArray⟩ := ⟨_, rfl⟩
 have zW : WB.size ≤ 6 := by rw [hWB]; decide
 have hw := cu 1 (by omega) (by omega)
 have HW : Hid (eT[1]? = some (.string WB)) := hid (by rw [hWB]; exact hw)
 have HWB := hid hWB
 have HB0 := hid hb0
 have HNK := hid (And.intro hn6 hk)
 clear hT hWB hw hb0 hn6 hk
 go_enter Tryz.func42, Tryz.ntmps42
 go_wp2_with fail
 refine (bZ _ own r _ _ hsz (HV.out.1.below HB0.out nl)).mono ?_
 rintro e W ⟨rfl, hbR⟩
 rw [hr]
 have hbx : W.heap[w.heap.size]? = some (.cells #[.int .i64 1, .int .u64 r.t, .int .u64 r.x, .int .u64 r.w, .int .u64 r.n, .int .u64 r.v, .int .i64 k0, .int .u64 k1, .int .u64 k2, .slice k3 k4 k5, .slice k6 n6 k7] 65 (0, 0)) := (hbR.block _ (by simp)).trans (aa _ _ _ rfl)
 have hB := HB0.out.trans (hbR.mono (by simp))
 have l0 := (Array.getElem?_eq_some_iff.1 hbx).1
 have b0 : W.cell? ⟨w.heap.size, 0, none⟩ = some (.int .i64 1) := by rw [cell_of_row W _ 0 _ _ _ hbx]; rfl
 have b1 : W.cell? ⟨w.heap.size, 1, none⟩ = some (.int .u64 r.t) := by rw [cell_of_row W _ 1 _ _ _ hbx]; rfl
 have b2 : W.cell? ⟨w.heap.size, 2, none⟩ = some (.int .u64 r.x) := by rw [cell_of_row W _ 2 _ _ _ hbx]; rfl
 have b3 : W.cell? ⟨w.heap.size, 3, none⟩ = some (.int .u64 r.w) := by rw [cell_of_row W _ 3 _ _ _ hbx]; rfl
 have b4 : W.cell? ⟨w.heap.size, 4, none⟩ = some (.int .u64 r.n) := by rw [cell_of_row W _ 4 _ _ _ hbx]; rfl
 have b5 : W.cell? ⟨w.heap.size, 5, none⟩ = some (.int .u64 r.v) := by rw [cell_of_row W _ 5 _ _ _ hbx]; rfl
 have HB := hid (And.intro hB hbx)
 clear hbR hbx hB
 go_wp2_with fail
 refine av (w0 := W) rfl [.of (aZ), .eq (.pointer (some ⟨w.heap.size, 0, none⟩)), .eq (.int .i64 1), .of (aQ WB), .eq (.string WB), .eq (.string (WB ++ ⟨#[32]⟩)), .eq (.pointer (some ⟨w.heap.size, 1, none⟩)), .eq (.int .u64 r.t), .eq (.string DT), .eq (.string (WB ++ ⟨#[32]⟩ ++ DT)), .eq (.string (WB ++ ⟨#[32]⟩ ++ DT))] (by kernel_rfl) ⟨?_, ?_, ?_, ?_, ?_, ?_, ?_, ?_, ?_, ?_, ?_, ?_, ?_, trivial⟩ (fun vs => [(9, vs 0), (10, (.pointer (some ⟨w.heap.size, 0, none⟩))), (11, (.int .i64 1)), (12, vs 3), (13, (.string WB)), (14, (.string (WB ++ ⟨#[32]⟩))), (15, (.pointer (some ⟨w.heap.size, 1, none⟩))), (16, (.int .u64 r.t)), (17, (.string DT)), (18, (.string (WB ++ ⟨#[32]⟩ ++ DT))), (3, (.string (WB ++ ⟨#[32]⟩ ++ DT)))]) (fun _ => rfl) ?_
 ·exact aW
 ·refine rs fun S a wx K Q hR hK => ?_
  go_simp
  go_at_call 52
  refine (aP _).mono ?_
  rintro e w' ⟨rfl, rfl⟩
  exact hK _ _ (br.alloc nl _) ⟨_, rfl, by simp, hR.new _ nl, aa _ _ _ rfl⟩
 ·refine rs fun S a wx K Q hR hK => ?_
  have t1 : a.tmps[1]? = some (.pointer (some ⟨w.heap.size, 0, none⟩)) := hR.o 1
  go_simp
  exact hK _ _ br rfl
 ·refine rs fun S a wx K Q hR hK => ?_
  have t10 := hR.q 1
  have y0 := (hR.bel.cell l0).trans b0
  go_simp
  exact hK _ _ br rfl
 ·exact aR _
 ·refine rs fun S a wx K Q hR hK => ?_
  obtain ⟨u9, t9, f9⟩ := hR.f 0
  have t11 := hR.q 2
  obtain ⟨g9, rfl, hg9, hS9, hw9⟩ := (show aZ S u9 wx from f9)
  go_simp
  exact hK _ _ br ⟨g9, 1, by simp, hg9, hS9, by rw [cell_of_row wx _ _ _ _ _ hw9]; exact HW.out⟩
 ·refine rs fun S a wx K Q hR hK => ?_
  obtain ⟨u12, t12, f12⟩ := hR.f 3
  obtain ⟨g12, o12, rfl, _, _, y12⟩ := (show aQ WB S u12 wx from f12)
  go_simp
  exact hK _ _ br rfl
 ·refine rs fun S a wx K Q hR hK => ?_
  have t13 := hR.q 4
  have q : ¬ 9223372036854775807 < WB.size + 1 := by omega
  go_simp
  (try go_ints)
  exact hK _ _ br rfl
 ·refine rs fun S a wx K Q hR hK => ?_
  have t1 : a.tmps[1]? = some (.pointer (some ⟨w.heap.size, 0, none⟩)) := hR.o 1
  go_simp
  exact hK _ _ br rfl
 ·refine rs fun S a wx K Q hR hK => ?_
  have t15 := hR.q 6
  have y0 := (hR.bel.cell l0).trans b1
  go_simp
  exact hK _ _ br rfl
 ·refine rs fun S a wx K Q hR hK => ?_
  have t16 := hR.q 7
  go_simp
  go_at_call 80
  refine (HT.out.dt _).mono ?_
  rintro e w' ⟨rfl, rfl⟩
  exact hK _ _ br rfl
 ·refine rs fun S a wx K Q hR hK => ?_
  have t14 := hR.q 5
  have t17 := hR.q 8
  have q : ¬ 9223372036854775807 < WB.size + 1 + DT.size := by omega
  go_simp
  (try go_ints)
  exact hK _ _ br rfl
 ·refine rs fun S a wx K Q hR hK => ?_
  have t18 := hR.q 9
  go_simp
  exact hK _ _ br rfl
 intro S1 vs w1 hD
 have hb1 := hD.bel
 have l1 : w.heap.size < w1.heap.size := by have := hb1.size; omega
 have HB1 := hid hb1
 have c0 := (hb1.cell l0).trans b0
 have c2 := (hb1.cell l0).trans b2
 have c3 := (hb1.cell l0).trans b3
 have c4 := (hb1.cell l0).trans b4
 have c5 := (hb1.cell l0).trans b5
 simp only [aH, List.foldl_cons, List.foldl_nil]
 clear hD b0 b1 b2 b3 b4 b5 hb1
 obtain ⟨S3, hS3⟩ : ∃ S3, S3 = WB ++ ⟨#[32]⟩ ++ DT := ⟨_, rfl⟩
 have zS : S3.size ≤ 27 := by rw [hS3, ByteArray.size_append, ByteArray.size_append, show (ByteArray.mk #[32]).size = 1 from rfl]; omega
 rw [← hS3]
 have HS3 := hid hS3
 have ht3 : S3.data.toList = ay 1 ++ (32 :: Lib.decDigits r.t) := by rw [hS3, HWB.out, HT.out.e1]; simp [ByteArray.data_append]
 have HT3 := hid ht3
 clear hS3 ht3
 have hlw : w.heap.size ≤ W.heap.size := by omega
 go_wp2_with fail
 go_ret
 refine ⟨dQ ?_, HB.out.1.trans (HB1.out.mono hlw)⟩
 rw [gy]
 simp [ByteArray.data_append, HT3.out, HNK.out.2, Rec.tail]
theorem yI (S : Nat → Prop) (own : Bool) (r : Rec) (k0 : Int) (k1 k2 : Nat) (k3 : Option Addr) (k4 k5 : Nat) (k6 : Option Addr) (n6 k7 : Nat) (w : World) (hsz : r.p.size ≤ 900) (hle : n6 ≤ 10000) (hn6 : n6 = r.es.length) (hk : r.k = 6) (hr : r.right = true)
  (HV : Hid (aI w S own r (.agg #[.int .i64 6, .int .u64 r.t, .int .u64 r.x, .int .u64 r.w, .int .u64 r.n, .int .u64 r.v, .int .i64 k0, .int .u64 k1, .int .u64 k2, .slice k3 k4 k5, .slice k6 n6 k7]) ∧ r.nums ∧ ax w S own r.p (.agg #[.int .i64 k0, .int .u64 k1, .int .u64 k2, .slice k3 k4 k5]) ∧ eX w S own r.es (.slice k6 n6 k7))) :
  Calls Tryz.prog 42 #[.agg #[.int .i64 6, .int .u64 r.t, .int .u64 r.x, .int .u64 r.w, .int .u64 r.n, .int .u64 r.v, .int .i64 k0, .int .u64 k1, .int .u64 k2, .slice k3 k4 k5, .slice k6 n6 k7]] w fun e w' => e = .returned (.string ⟨r.told.toArray⟩) ∧ Below w.heap.size w w' := by
 have hb0 : Below w.heap.size w (w.alloc (.cells #[.int .i64 6, .int .u64 r.t, .int .u64 r.x, .int .u64 r.w, .int .u64 r.n, .int .u64 r.v, .int .i64 k0, .int .u64 k1, .int .u64 k2, .slice k3 k4 k5, .slice k6 n6 k7] 65)) := br.alloc nl _
 obtain ⟨DT, DX, DV, TO, hT⟩ := Tl.mk' r HV.out.2.1
 have zT := hT.z1
 have zX := hT.z2
 have zV := hT.z3
 have zO := hT.z4
 have HT := hid hT
 obtain ⟨WB, hWB⟩ : ∃ WB : ByteArray, WB = ⟨(ay 6).toArray⟩ := ⟨_, rfl⟩
 have zW : WB.size ≤ 6 := by rw [hWB]; decide
 have hw := cu 6 (by omega) (by omega)
 have HW : Hid (eT[6]? = some (.string WB)) := hid (by rw [hWB]; exact hw)
 have HWB := hid hWB
 have HB0 := hid hb0
 have HNK := hid (And.intro hn6 hk)
 clear hT hWB hw hb0 hn6 hk
 go_enter Tryz.func42, Tryz.ntmps42
 go_wp2_with fail
 refine (bZ _ own r _ _ hsz (HV.out.1.below HB0.out nl)).mono ?_
 rintro e W ⟨rfl, hbR⟩
 rw [hr]
 have hbx : W.heap[w.heap.size]? = some (.cells #[.int .i64 6, .int .u64 r.t, .int .u64 r.x, .int .u64 r.w, .int .u64 r.n, .int .u64 r.v, .int .i64 k0, .int .u64 k1, .int .u64 k2, .slice k3 k4 k5, .slice k6 n6 k7] 65 (0, 0)) := (hbR.block _ (by simp)).trans (aa _ _ _ rfl)
 have hB := HB0.out.trans (hbR.mono (by simp))
 have l0 := (Array.getElem?_eq_some_iff.1 hbx).1
 have b0 : W.cell? ⟨w.heap.size, 0, none⟩ = some (.int .i64 6) := by rw [cell_of_row W _ 0 _ _ _ hbx]; rfl
 have b1 : W.cell? ⟨w.heap.size, 1, none⟩ = some (.int .u64 r.t) := by rw [cell_of_row W _ 1 _ _ _ hbx]; rfl
 have b2 : W.cell? ⟨w.heap.size, 2, none⟩ = some (.int .u64 r.x) := by rw [cell_of_row W _ 2 _ _ _ hbx]; rfl
 have b3 : W.cell? ⟨w.heap.size, 3, none⟩ = some (.int .u64 r.w) := by rw [cell_of_row W _ 3 _ _ _ hbx]; rfl
 have b4 : W.cell? ⟨w.heap.size, 4, none⟩ = some (.int .u64 r.n) := by rw [cell_of_row W _ 4 _ _ _ hbx]; rfl
 have b5 : W.cell? ⟨w.heap.size, 5, none⟩ = some (.int .u64 r.v) := by rw [cell_of_row W _ 5 _ _ _ hbx]; rfl
 have HB := hid (And.intro hB hbx)
 clear hbR hbx hB
 go_wp2_with fail
 refine av (w0 := W) rfl [.of (aZ), .eq (.pointer (some ⟨w.heap.size, 0, none⟩)), .eq (.int .i64 6), .of (aQ WB), .eq (.string WB), .eq (.string (WB ++ ⟨#[32]⟩)), .eq (.pointer (some ⟨w.heap.size, 1, none⟩)), .eq (.int .u64 r.t), .eq (.string DT), .eq (.string (WB ++ ⟨#[32]⟩ ++ DT)), .eq (.string (WB ++ ⟨#[32]⟩ ++ DT))] (by kernel_rfl) ⟨?_, ?_, ?_, ?_, ?_, ?_, ?_, ?_, ?_, ?_, ?_, ?_, ?_, trivial⟩ (fun vs => [(9, vs 0), (10, (.pointer (some ⟨w.heap.size, 0, none⟩))), (11, (.int .i64 6)), (12, vs 3), (13, (.string WB)), (14, (.string (WB ++ ⟨#[32]⟩))), (15, (.pointer (some ⟨w.heap.size, 1, none⟩))), (16, (.int .u64 r.t)), (17, (.string DT)), (18, (.string (WB ++ ⟨#[32]⟩ ++ DT))), (3, (.string (WB ++ ⟨#[32]⟩ ++ DT)))]) (fun _ => rfl) ?_
 ·exact aW
 ·refine rs fun S a wx K Q hR hK => ?_
  go_simp
  go_at_call 52
  refine (aP _).mono ?_
  rintro e w' ⟨rfl, rfl⟩
  exact hK _ _ (br.alloc nl _) ⟨_, rfl, by simp, hR.new _ nl, aa _ _ _ rfl⟩
 ·refine rs fun S a wx K Q hR hK => ?_
  have t1 : a.tmps[1]? = some (.pointer (some ⟨w.heap.size, 0, none⟩)) := hR.o 1
  go_simp
  exact hK _ _ br rfl
 ·refine rs fun S a wx K Q hR hK => ?_
  have t10 := hR.q 1
  have y0 := (hR.bel.cell l0).trans b0
  go_simp
  exact hK _ _ br rfl
 ·exact aR _
 ·refine rs fun S a wx K Q hR hK => ?_
  obtain ⟨u9, t9, f9⟩ := hR.f 0
  have t11 := hR.q 2
  obtain ⟨g9, rfl, hg9, hS9, hw9⟩ := (show aZ S u9 wx from f9)
  go_simp
  exact hK _ _ br ⟨g9, 6, by simp, hg9, hS9, by rw [cell_of_row wx _ _ _ _ _ hw9]; exact HW.out⟩
 ·refine rs fun S a wx K Q hR hK => ?_
  obtain ⟨u12, t12, f12⟩ := hR.f 3
  obtain ⟨g12, o12, rfl, _, _, y12⟩ := (show aQ WB S u12 wx from f12)
  go_simp
  exact hK _ _ br rfl
 ·refine rs fun S a wx K Q hR hK => ?_
  have t13 := hR.q 4
  have q : ¬ 9223372036854775807 < WB.size + 1 := by omega
  go_simp
  (try go_ints)
  exact hK _ _ br rfl
 ·refine rs fun S a wx K Q hR hK => ?_
  have t1 : a.tmps[1]? = some (.pointer (some ⟨w.heap.size, 0, none⟩)) := hR.o 1
  go_simp
  exact hK _ _ br rfl
 ·refine rs fun S a wx K Q hR hK => ?_
  have t15 := hR.q 6
  have y0 := (hR.bel.cell l0).trans b1
  go_simp
  exact hK _ _ br rfl
 ·refine rs fun S a wx K Q hR hK => ?_
  have t16 := hR.q 7
  go_simp
  go_at_call 80
  refine (HT.out.dt _).mono ?_
  rintro e w' ⟨rfl, rfl⟩
  exact hK _ _ br rfl
 ·refine rs fun S a wx K Q hR hK => ?_
  have t14 := hR.q 5
  have t17 := hR.q 8
  have q : ¬ 9223372036854775807 < WB.size + 1 + DT.size := by omega
  go_simp
  (try go_ints)
  exact hK _ _ br rfl
 ·refine rs fun S a wx K Q hR hK => ?_
  have t18 := hR.q 9
  go_simp
  exact hK _ _ br rfl
 intro S1 vs w1 hD
 have hb1 := hD.bel
 have l1 : w.heap.size < w1.heap.size := by have := hb1.size; omega
 have HB1 := hid hb1
 have c0 := (hb1.cell l0).trans b0
 have c2 := (hb1.cell l0).trans b2
 have c3 := (hb1.cell l0).trans b3
 have c4 := (hb1.cell l0).trans b4
 have c5 := (hb1.cell l0).trans b5
 simp only [aH, List.foldl_cons, List.foldl_nil]
 clear hD b0 b1 b2 b3 b4 b5 hb1
 obtain ⟨S3, hS3⟩ : ∃ S3, S3 = WB ++ ⟨#[32]⟩ ++ DT := ⟨_, rfl⟩
 have zS : S3.size ≤ 27 := by rw [hS3, ByteArray.size_append, ByteArray.size_append, show (ByteArray.mk #[32]).size = 1 from rfl]; omega
 rw [← hS3]
 have HS3 := hid hS3
 have ht3 : S3.data.toList = ay 6 ++ (32 :: Lib.decDigits r.t) := by rw [hS3, HWB.out, HT.out.e1]; simp [ByteArray.data_append]
 have HT3 := hid ht3
 clear hS3 ht3
 have hlw : w.heap.size ≤ W.heap.size := by omega
 go_wp2_with fail
 go_ret
 refine ⟨dQ ?_, HB.out.1.trans (HB1.out.mono hlw)⟩
 rw [gy]
 simp [ByteArray.data_append, HT3.out, HNK.out.2, Rec.tail]
theorem yJ (S : Nat → Prop) (own : Bool) (r : Rec) (k0 : Int) (k1 k2 : Nat) (k3 : Option Addr) (k4 k5 : Nat) (k6 : Option Addr) (n6 k7 : Nat) (w : World) (hsz : r.p.size ≤ 900) (hle : n6 ≤ 10000) (hn6 : n6 = r.es.length) (hk : r.k = 7) (hr : r.right = true)
  (HV : Hid (aI w S own r (.agg #[.int .i64 7, .int .u64 r.t, .int .u64 r.x, .int .u64 r.w, .int .u64 r.n, .int .u64 r.v, .int .i64 k0, .int .u64 k1, .int .u64 k2, .slice k3 k4 k5, .slice k6 n6 k7]) ∧ r.nums ∧ ax w S own r.p (.agg #[.int .i64 k0, .int .u64 k1, .int .u64 k2, .slice k3 k4 k5]) ∧ eX w S own r.es (.slice k6 n6 k7))) :
  Calls Tryz.prog 42 #[.agg #[.int .i64 7, .int .u64 r.t, .int .u64 r.x, .int .u64 r.w, .int .u64 r.n, .int .u64 r.v, .int .i64 k0, .int .u64 k1, .int .u64 k2, .slice k3 k4 k5, .slice k6 n6 k7]] w fun e w' => e = .returned (.string ⟨r.told.toArray⟩) ∧ Below w.heap.size w w' := by
 have hb0 : Below w.heap.size w (w.alloc (.cells #[.int .i64 7, .int .u64 r.t, .int .u64 r.x, .int .u64 r.w, .int .u64 r.n, .int .u64 r.v, .int .i64 k0, .int .u64 k1, .int .u64 k2, .slice k3 k4 k5, .slice k6 n6 k7] 65)) := br.alloc nl _
 obtain ⟨DT, DX, DV, TO, hT⟩ := Tl.mk' r HV.out.2.1
 have zT := hT.z1
 have zX := hT.z2
 have zV := hT.z3
 have zO := hT.z4
 have HT := hid hT
 obtain ⟨WB, hWB⟩ : ∃ WB : ByteArray, WB = ⟨(ay 7).toArray⟩ := ⟨_, rfl⟩
 have zW : WB.size ≤ 6 := by rw [hWB]; decide
 have hw := cu 7 (by omega) (by omega)
 have HW : Hid (eT[7]? = some (.string WB)) := hid (by rw [hWB]; exact hw)
 have HWB := hid hWB
 have HB0 := hid hb0
 have HNK := hid (And.intro hn6 hk)
 clear hT hWB hw hb0 hn6 hk
 go_enter Tryz.func42, Tryz.ntmps42
 go_wp2_with fail
 refine (bZ _ own r _ _ hsz (HV.out.1.below HB0.out nl)).mono ?_
 rintro e W ⟨rfl, hbR⟩
 rw [hr]
 have hbx : W.heap[w.heap.size]? = some (.cells #[.int .i64 7, .int .u64 r.t, .int .u64 r.x, .int .u64 r.w, .int .u64 r.n, .int .u64 r.v, .int .i64 k0, .int .u64 k1, .int .u64 k2, .slice k3 k4 k5, .slice k6 n6 k7] 65 (0, 0)) := (hbR.block _ (by simp)).trans (aa _ _ _ rfl)
 have hB := HB0.out.trans (hbR.mono (by simp))
 have l0 := (Array.getElem?_eq_some_iff.1 hbx).1
 have b0 : W.cell? ⟨w.heap.size, 0, none⟩ = some (.int .i64 7) := by rw [cell_of_row W _ 0 _ _ _ hbx]; rfl
 have b1 : W.cell? ⟨w.heap.size, 1, none⟩ = some (.int .u64 r.t) := by rw [cell_of_row W _ 1 _ _ _ hbx]; rfl
 have b2 : W.cell? ⟨w.heap.size, 2, none⟩ = some (.int .u64 r.x) := by rw [cell_of_row W _ 2 _ _ _ hbx]; rfl
 have b3 : W.cell? ⟨w.heap.size, 3, none⟩ = some (.int .u64 r.w) := by rw [cell_of_row W _ 3 _ _ _ hbx]; rfl
 have b4 : W.cell? ⟨w.heap.size, 4, none⟩ = some (.int .u64 r.n) := by rw [cell_of_row W _ 4 _ _ _ hbx]; rfl
 have b5 : W.cell? ⟨w.heap.size, 5, none⟩ = some (.int .u64 r.v) := by rw [cell_of_row W _ 5 _ _ _ hbx]; rfl
 have HB := hid (And.intro hB hbx)
 clear hbR hbx hB
 go_wp2_with fail
 refine av (w0 := W) rfl [.of (aZ), .eq (.pointer (some ⟨w.heap.size, 0, none⟩)), .eq (.int .i64 7), .of (aQ WB), .eq (.string WB), .eq (.string (WB ++ ⟨#[32]⟩)), .eq (.pointer (some ⟨w.heap.size, 1, none⟩)), .eq (.int .u64 r.t), .eq (.string DT), .eq (.string (WB ++ ⟨#[32]⟩ ++ DT)), .eq (.string (WB ++ ⟨#[32]⟩ ++ DT))] (by kernel_rfl) ⟨?_, ?_, ?_, ?_, ?_, ?_, ?_, ?_, ?_, ?_, ?_, ?_, ?_, trivial⟩ (fun vs => [(9, vs 0), (10, (.pointer (some ⟨w.heap.size, 0, none⟩))), (11, (.int .i64 7)), (12, vs 3), (13, (.string WB)), (14, (.string (WB ++ ⟨#[32]⟩))), (15, (.pointer (some ⟨w.heap.size, 1, none⟩))), (16, (.int .u64 r.t)), (17, (.string DT)), (18, (.string (WB ++ ⟨#[32]⟩ ++ DT))), (3, (.string (WB ++ ⟨#[32]⟩ ++ DT)))]) (fun _ => rfl) ?_
 ·exact aW
 ·refine rs fun S a wx K Q hR hK => ?_
  go_simp
  go_at_call 52
  refine (aP _).mono ?_
  rintro e w' ⟨rfl, rfl⟩
  exact hK _ _ (br.alloc nl _) ⟨_, rfl, by simp, hR.new _ nl, aa _ _ _ rfl⟩
 ·refine rs fun S a wx K Q hR hK => ?_
  have t1 : a.tmps[1]? = some (.pointer (some ⟨w.heap.size, 0, none⟩)) := hR.o 1
  go_simp
  exact hK _ _ br rfl
 ·refine rs fun S a wx K Q hR hK => ?_
  have t10 := hR.q 1
  have y0 := (hR.bel.cell l0).trans b0
  go_simp
  exact hK _ _ br rfl
 ·exact aR _
 ·refine rs fun S a wx K Q hR hK => ?_
  obtain ⟨u9, t9, f9⟩ := hR.f 0
  have t11 := hR.q 2
  obtain ⟨g9, rfl, hg9, hS9, hw9⟩ := (show aZ S u9 wx from f9)
  go_simp
  exact hK _ _ br ⟨g9, 7, by simp, hg9, hS9, by rw [cell_of_row wx _ _ _ _ _ hw9]; exact HW.out⟩
 ·refine rs fun S a wx K Q hR hK => ?_
  obtain ⟨u12, t12, f12⟩ := hR.f 3
  obtain ⟨g12, o12, rfl, _, _, y12⟩ := (show aQ WB S u12 wx from f12)
  go_simp
  exact hK _ _ br rfl
 ·refine rs fun S a wx K Q hR hK => ?_
  have t13 := hR.q 4
  have q : ¬ 9223372036854775807 < WB.size + 1 := by omega
  go_simp
  (try go_ints)
  exact hK _ _ br rfl
 ·refine rs fun S a wx K Q hR hK => ?_
  have t1 : a.tmps[1]? = some (.pointer (some ⟨w.heap.size, 0, none⟩)) := hR.o 1
  go_simp
  exact hK _ _ br rfl
 ·refine rs fun S a wx K Q hR hK => ?_
  have t15 := hR.q 6
  have y0 := (hR.bel.cell l0).trans b1
  go_simp
  exact hK _ _ br rfl
 ·refine rs fun S a wx K Q hR hK => ?_
  have t16 := hR.q 7
  go_simp
  go_at_call 80
  refine (HT.out.dt _).mono ?_
  rintro e w' ⟨rfl, rfl⟩
  exact hK _ _ br rfl
 ·refine rs fun S a wx K Q hR hK => ?_
  have t14 := hR.q 5
  have t17 := hR.q 8
  have q : ¬ 9223372036854775807 < WB.size + 1 + DT.size := by omega
  go_simp
  (try go_ints)
  exact hK _ _ br rfl
 ·refine rs fun S a wx K Q hR hK => ?_
  have t18 := hR.q 9
  go_simp
  exact hK _ _ br rfl
 intro S1 vs w1 hD
 have hb1 := hD.bel
 have l1 : w.heap.size < w1.heap.size := by have := hb1.size; omega
 have HB1 := hid hb1
 have c0 := (hb1.cell l0).trans b0
 have c2 := (hb1.cell l0).trans b2
 have c3 := (hb1.cell l0).trans b3
 have c4 := (hb1.cell l0).trans b4
 have c5 := (hb1.cell l0).trans b5
 simp only [aH, List.foldl_cons, List.foldl_nil]
 clear hD b0 b1 b2 b3 b4 b5 hb1
 obtain ⟨S3, hS3⟩ : ∃ S3, S3 = WB ++ ⟨#[32]⟩ ++ DT := ⟨_, rfl⟩
 have zS : S3.size ≤ 27 := by rw [hS3, ByteArray.size_append, ByteArray.size_append, show (ByteArray.mk #[32]).size = 1 from rfl]; omega
 rw [← hS3]
 have HS3 := hid hS3
 have ht3 : S3.data.toList = ay 7 ++ (32 :: Lib.decDigits r.t) := by rw [hS3, HWB.out, HT.out.e1]; simp [ByteArray.data_append]
 have HT3 := hid ht3
 clear hS3 ht3
 have hlw : w.heap.size ≤ W.heap.size := by omega
 go_wp2_with fail
 go_ret
 refine ⟨dQ ?_, HB.out.1.trans (HB1.out.mono hlw)⟩
 rw [gy]
 simp [ByteArray.data_append, HT3.out, HNK.out.2, Rec.tail]
theorem yK (S : Nat → Prop) (own : Bool) (r : Rec) (k0 : Int) (k1 k2 : Nat) (k3 : Option Addr) (k4 k5 : Nat) (k6 : Option Addr) (n6 k7 : Nat) (w : World) (hsz : r.p.size ≤ 900) (hle : n6 ≤ 10000) (hn6 : n6 = r.es.length) (hk : r.k = 2) (hr : r.right = true)
  (HV : Hid (aI w S own r (.agg #[.int .i64 2, .int .u64 r.t, .int .u64 r.x, .int .u64 r.w, .int .u64 r.n, .int .u64 r.v, .int .i64 k0, .int .u64 k1, .int .u64 k2, .slice k3 k4 k5, .slice k6 n6 k7]) ∧ r.nums ∧ ax w S own r.p (.agg #[.int .i64 k0, .int .u64 k1, .int .u64 k2, .slice k3 k4 k5]) ∧ eX w S own r.es (.slice k6 n6 k7))) :
  Calls Tryz.prog 42 #[.agg #[.int .i64 2, .int .u64 r.t, .int .u64 r.x, .int .u64 r.w, .int .u64 r.n, .int .u64 r.v, .int .i64 k0, .int .u64 k1, .int .u64 k2, .slice k3 k4 k5, .slice k6 n6 k7]] w fun e w' => e = .returned (.string ⟨r.told.toArray⟩) ∧ Below w.heap.size w w' := by
 have hb0 : Below w.heap.size w (w.alloc (.cells #[.int .i64 2, .int .u64 r.t, .int .u64 r.x, .int .u64 r.w, .int .u64 r.n, .int .u64 r.v, .int .i64 k0, .int .u64 k1, .int .u64 k2, .slice k3 k4 k5, .slice k6 n6 k7] 65)) := br.alloc nl _
 obtain ⟨DT, DX, DV, TO, hT⟩ := Tl.mk' r HV.out.2.1
 have zT := hT.z1
 have zX := hT.z2
 have zV := hT.z3
 have zO := hT.z4
 have HT := hid hT
 obtain ⟨WB, hWB⟩ : ∃ WB : ByteArray, WB = ⟨(ay 2).toArray⟩ := ⟨_, rfl⟩
 have zW : WB.size ≤ 6 := by rw [hWB]; decide
 have hw := cu 2 (by omega) (by omega)
 have HW : Hid (eT[2]? = some (.string WB)) := hid (by rw [hWB]; exact hw)
 have HWB := hid hWB
 have HB0 := hid hb0
 have HNK := hid (And.intro hn6 hk)
 clear hT hWB hw hb0 hn6 hk
 go_enter Tryz.func42, Tryz.ntmps42
 go_wp2_with fail
 refine (bZ _ own r _ _ hsz (HV.out.1.below HB0.out nl)).mono ?_
 rintro e W ⟨rfl, hbR⟩
 rw [hr]
 have hbx : W.heap[w.heap.size]? = some (.cells #[.int .i64 2, .int .u64 r.t, .int .u64 r.x, .int .u64 r.w, .int .u64 r.n, .int .u64 r.v, .int .i64 k0, .int .u64 k1, .int .u64 k2, .slice k3 k4 k5, .slice k6 n6 k7] 65 (0, 0)) := (hbR.block _ (by simp)).trans (aa _ _ _ rfl)
 have hB := HB0.out.trans (hbR.mono (by simp))
 have l0 := (Array.getElem?_eq_some_iff.1 hbx).1
 have b0 : W.cell? ⟨w.heap.size, 0, none⟩ = some (.int .i64 2) := by rw [cell_of_row W _ 0 _ _ _ hbx]; rfl
 have b1 : W.cell? ⟨w.heap.size, 1, none⟩ = some (.int .u64 r.t) := by rw [cell_of_row W _ 1 _ _ _ hbx]; rfl
 have b2 : W.cell? ⟨w.heap.size, 2, none⟩ = some (.int .u64 r.x) := by rw [cell_of_row W _ 2 _ _ _ hbx]; rfl
 have b3 : W.cell? ⟨w.heap.size, 3, none⟩ = some (.int .u64 r.w) := by rw [cell_of_row W _ 3 _ _ _ hbx]; rfl
 have b4 : W.cell? ⟨w.heap.size, 4, none⟩ = some (.int .u64 r.n) := by rw [cell_of_row W _ 4 _ _ _ hbx]; rfl
 have b5 : W.cell? ⟨w.heap.size, 5, none⟩ = some (.int .u64 r.v) := by rw [cell_of_row W _ 5 _ _ _ hbx]; rfl
 have HB := hid (And.intro hB hbx)
 clear hbR hbx hB
 go_wp2_with fail
 refine av (w0 := W) rfl [.of (aZ), .eq (.pointer (some ⟨w.heap.size, 0, none⟩)), .eq (.int .i64 2), .of (aQ WB), .eq (.string WB), .eq (.string (WB ++ ⟨#[32]⟩)), .eq (.pointer (some ⟨w.heap.size, 1, none⟩)), .eq (.int .u64 r.t), .eq (.string DT), .eq (.string (WB ++ ⟨#[32]⟩ ++ DT)), .eq (.string (WB ++ ⟨#[32]⟩ ++ DT))] (by kernel_rfl) ⟨?_, ?_, ?_, ?_, ?_, ?_, ?_, ?_, ?_, ?_, ?_, ?_, ?_, trivial⟩ (fun vs => [(9, vs 0), (10, (.pointer (some ⟨w.heap.size, 0, none⟩))), (11, (.int .i64 2)), (12, vs 3), (13, (.string WB)), (14, (.string (WB ++ ⟨#[32]⟩))), (15, (.pointer (some ⟨w.heap.size, 1, none⟩))), (16, (.int .u64 r.t)), (17, (.string DT)), (18, (.string (WB ++ ⟨#[32]⟩ ++ DT))), (3, (.string (WB ++ ⟨#[32]⟩ ++ DT)))]) (fun _ => rfl) ?_
 ·exact aW
 ·refine rs fun S a wx K Q hR hK => ?_
  go_simp
  go_at_call 52
  refine (aP _).mono ?_
  rintro e w' ⟨rfl, rfl⟩
  exact hK _ _ (br.alloc nl _) ⟨_, rfl, by simp, hR.new _ nl, aa _ _ _ rfl⟩
 ·refine rs fun S a wx K Q hR hK => ?_
  have t1 : a.tmps[1]? = some (.pointer (some ⟨w.heap.size, 0, none⟩)) := hR.o 1
  go_simp
  exact hK _ _ br rfl
 ·refine rs fun S a wx K Q hR hK => ?_
  have t10 := hR.q 1
  have y0 := (hR.bel.cell l0).trans b0
  go_simp
  exact hK _ _ br rfl
 ·exact aR _
 ·refine rs fun S a wx K Q hR hK => ?_
  obtain ⟨u9, t9, f9⟩ := hR.f 0
  have t11 := hR.q 2
  obtain ⟨g9, rfl, hg9, hS9, hw9⟩ := (show aZ S u9 wx from f9)
  go_simp
  exact hK _ _ br ⟨g9, 2, by simp, hg9, hS9, by rw [cell_of_row wx _ _ _ _ _ hw9]; exact HW.out⟩
 ·refine rs fun S a wx K Q hR hK => ?_
  obtain ⟨u12, t12, f12⟩ := hR.f 3
  obtain ⟨g12, o12, rfl, _, _, y12⟩ := (show aQ WB S u12 wx from f12)
  go_simp
  exact hK _ _ br rfl
 ·refine rs fun S a wx K Q hR hK => ?_
  have t13 := hR.q 4
  have q : ¬ 9223372036854775807 < WB.size + 1 := by omega
  go_simp
  (try go_ints)
  exact hK _ _ br rfl
 ·refine rs fun S a wx K Q hR hK => ?_
  have t1 : a.tmps[1]? = some (.pointer (some ⟨w.heap.size, 0, none⟩)) := hR.o 1
  go_simp
  exact hK _ _ br rfl
 ·refine rs fun S a wx K Q hR hK => ?_
  have t15 := hR.q 6
  have y0 := (hR.bel.cell l0).trans b1
  go_simp
  exact hK _ _ br rfl
 ·refine rs fun S a wx K Q hR hK => ?_
  have t16 := hR.q 7
  go_simp
  go_at_call 80
  refine (HT.out.dt _).mono ?_
  rintro e w' ⟨rfl, rfl⟩
  exact hK _ _ br rfl
 ·refine rs fun S a wx K Q hR hK => ?_
  have t14 := hR.q 5
  have t17 := hR.q 8
  have q : ¬ 9223372036854775807 < WB.size + 1 + DT.size := by omega
  go_simp
  (try go_ints)
  exact hK _ _ br rfl
 ·refine rs fun S a wx K Q hR hK => ?_
  have t18 := hR.q 9
  go_simp
  exact hK _ _ br rfl
 intro S1 vs w1 hD
 have hb1 := hD.bel
 have l1 : w.heap.size < w1.heap.size := by have := hb1.size; omega
 have HB1 := hid hb1
 have c0 := (hb1.cell l0).trans b0
 have c2 := (hb1.cell l0).trans b2
 have c3 := (hb1.cell l0).trans b3
 have c4 := (hb1.cell l0).trans b4
 have c5 := (hb1.cell l0).trans b5
 simp only [aH, List.foldl_cons, List.foldl_nil]
 clear hD b0 b1 b2 b3 b4 b5 hb1
 obtain ⟨S3, hS3⟩ : ∃ S3, S3 = WB ++ ⟨#[32]⟩ ++ DT := ⟨_, rfl⟩
 have zS : S3.size ≤ 27 := by rw [hS3, ByteArray.size_append, ByteArray.size_append, show (ByteArray.mk #[32]).size = 1 from rfl]; omega
 rw [← hS3]
 have HS3 := hid hS3
 have ht3 : S3.data.toList = ay 2 ++ (32 :: Lib.decDigits r.t) := by rw [hS3, HWB.out, HT.out.e1]; simp [ByteArray.data_append]
 have HT3 := hid ht3
 clear hS3 ht3
 have hlw : w.heap.size ≤ W.heap.size := by omega
 go_simp
 go_wp2_with fail
 refine av (w0 := w1) rfl [.eq (.string S3), .eq (.string (S3 ++ ⟨#[32]⟩)), .eq (.pointer (some ⟨w.heap.size, 2, none⟩)), .eq (.int .u64 r.x), .eq (.string DX), .eq (.string (S3 ++ ⟨#[32]⟩ ++ DX)), .eq (.string (S3 ++ ⟨#[32]⟩ ++ DX ++ ⟨#[32]⟩)), .eq (.pointer (some ⟨w.heap.size, 3, none⟩)), .eq (.agg #[.int .u64 r.w, .int .u64 r.n]), .eq (.string TO), .eq (.string (S3 ++ ⟨#[32]⟩ ++ DX ++ ⟨#[32]⟩ ++ TO)), .eq (.string (S3 ++ ⟨#[32]⟩ ++ DX ++ ⟨#[32]⟩ ++ TO))] (by kernel_rfl) ⟨?_, ?_, ?_, ?_, ?_, ?_, ?_, ?_, ?_, ?_, ?_, ?_, trivial⟩ (fun vs => [(23, (.string S3)), (24, (.string (S3 ++ ⟨#[32]⟩))), (25, (.pointer (some ⟨w.heap.size, 2, none⟩))), (26, (.int .u64 r.x)), (27, (.string DX)), (28, (.string (S3 ++ ⟨#[32]⟩ ++ DX))), (29, (.string (S3 ++ ⟨#[32]⟩ ++ DX ++ ⟨#[32]⟩))), (30, (.pointer (some ⟨w.heap.size, 3, none⟩))), (31, (.agg #[.int .u64 r.w, .int .u64 r.n])), (32, (.string TO)), (33, (.string (S3 ++ ⟨#[32]⟩ ++ DX ++ ⟨#[32]⟩ ++ TO))), (2, (.string (S3 ++ ⟨#[32]⟩ ++ DX ++ ⟨#[32]⟩ ++ TO)))]) (fun _ => rfl) ?_
 ·refine rs fun S a wx K Q hR hK => ?_
  have t3 : a.tmps[3]? = some (.string S3) := hR.o 3
  go_simp
  exact hK _ _ br rfl
 ·refine rs fun S a wx K Q hR hK => ?_
  have t23 := hR.q 0
  have q : ¬ 9223372036854775807 < S3.size + 1 := by omega
  go_simp
  (try go_ints)
  exact hK _ _ br rfl
 ·refine rs fun S a wx K Q hR hK => ?_
  have t1 : a.tmps[1]? = some (.pointer (some ⟨w.heap.size, 0, none⟩)) := hR.o 1
  go_simp
  exact hK _ _ br rfl
 ·refine rs fun S a wx K Q hR hK => ?_
  have t25 := hR.q 2
  have y0 := (hR.bel.cell l1).trans c2
  go_simp
  exact hK _ _ br rfl
 ·refine rs fun S a wx K Q hR hK => ?_
  have t26 := hR.q 3
  go_simp
  go_at_call 80
  refine (HT.out.dx _).mono ?_
  rintro e w' ⟨rfl, rfl⟩
  exact hK _ _ br rfl
 ·refine rs fun S a wx K Q hR hK => ?_
  have t24 := hR.q 1
  have t27 := hR.q 4
  have q : ¬ 9223372036854775807 < S3.size + 1 + DX.size := by omega
  go_simp
  (try go_ints)
  exact hK _ _ br rfl
 ·refine rs fun S a wx K Q hR hK => ?_
  have t28 := hR.q 5
  have q : ¬ 9223372036854775807 < S3.size + 1 + DX.size + 1 := by omega
  go_simp
  (try go_ints)
  exact hK _ _ br rfl
 ·refine rs fun S a wx K Q hR hK => ?_
  have t1 : a.tmps[1]? = some (.pointer (some ⟨w.heap.size, 0, none⟩)) := hR.o 1
  go_simp
  exact hK _ _ br rfl
 ·refine rs fun S a wx K Q hR hK => ?_
  have t30 := hR.q 7
  have y0 := (hR.bel.cell l1).trans c3
  have y1 := (hR.bel.cell l1).trans c4
  go_simp
  exact hK _ _ br rfl
 ·refine rs fun S a wx K Q hR hK => ?_
  have t31 := hR.q 8
  go_simp
  go_at_call 81
  refine (HT.out.tv _).mono ?_
  rintro e w' ⟨rfl, hbx⟩
  exact hK _ _ hbx rfl
 ·refine rs fun S a wx K Q hR hK => ?_
  have t29 := hR.q 6
  have t32 := hR.q 9
  have q : ¬ 9223372036854775807 < S3.size + 1 + DX.size + 1 + TO.size := by omega
  go_simp
  (try go_ints)
  exact hK _ _ br rfl
 ·refine rs fun S a wx K Q hR hK => ?_
  have t33 := hR.q 10
  go_simp
  exact hK _ _ br rfl
 intro S2 vs2 w2 hD2
 have HB2 := hid (HB.out.1.trans ((HB1.out.trans (hD2.bel.mono HB1.out.size)).mono hlw))
 simp only [aH, List.foldl_cons, List.foldl_nil]
 clear hD2 c0 c2 c3 c4 c5
 go_simp
 go_wp2_with fail
 go_ret
 refine ⟨dQ ?_, HB2.out⟩
 rw [gy]
 simp [ByteArray.data_append, HT3.out, HNK.out.2, Rec.tail, HT.out.e2, HT.out.e4]
theorem yL (S : Nat → Prop) (own : Bool) (r : Rec) (k0 : Int) (k1 k2 : Nat) (k3 : Option Addr) (k4 k5 : Nat) (k6 : Option Addr) (n6 k7 : Nat) (w : World) (hsz : r.p.size ≤ 900) (hle : n6 ≤ 10000) (hn6 : n6 = r.es.length) (hk : r.k = 3) (hr : r.right = true)
  (HV : Hid (aI w S own r (.agg #[.int .i64 3, .int .u64 r.t, .int .u64 r.x, .int .u64 r.w, .int .u64 r.n, .int .u64 r.v, .int .i64 k0, .int .u64 k1, .int .u64 k2, .slice k3 k4 k5, .slice k6 n6 k7]) ∧ r.nums ∧ ax w S own r.p (.agg #[.int .i64 k0, .int .u64 k1, .int .u64 k2, .slice k3 k4 k5]) ∧ eX w S own r.es (.slice k6 n6 k7))) :
  Calls Tryz.prog 42 #[.agg #[.int .i64 3, .int .u64 r.t, .int .u64 r.x, .int .u64 r.w, .int .u64 r.n, .int .u64 r.v, .int .i64 k0, .int .u64 k1, .int .u64 k2, .slice k3 k4 k5, .slice k6 n6 k7]] w fun e w' => e = .returned (.string ⟨r.told.toArray⟩) ∧ Below w.heap.size w w' := by
 have hb0 : Below w.heap.size w (w.alloc (.cells #[.int .i64 3, .int .u64 r.t, .int .u64 r.x, .int .u64 r.w, .int .u64 r.n, .int .u64 r.v, .int .i64 k0, .int .u64 k1, .int .u64 k2, .slice k3 k4 k5, .slice k6 n6 k7] 65)) := br.alloc nl _
 obtain ⟨DT, DX, DV, TO, hT⟩ := Tl.mk' r HV.out.2.1
 have zT := hT.z1
 have zX := hT.z2
 have zV := hT.z3
 have zO := hT.z4
 have HT := hid hT
 obtain ⟨WB, hWB⟩ : ∃ WB : ByteArray, WB = ⟨(ay 3).toArray⟩ := ⟨_, rfl⟩
 have zW : WB.size ≤ 6 := by rw [hWB]; decide
 have hw := cu 3 (by omega) (by omega)
 have HW : Hid (eT[3]? = some (.string WB)) := hid (by rw [hWB]; exact hw)
 have HWB := hid hWB
 have HB0 := hid hb0
 have HNK := hid (And.intro hn6 hk)
 clear hT hWB hw hb0 hn6 hk
 go_enter Tryz.func42, Tryz.ntmps42
 go_wp2_with fail
 refine (bZ _ own r _ _ hsz (HV.out.1.below HB0.out nl)).mono ?_
 rintro e W ⟨rfl, hbR⟩
 rw [hr]
 have hbx : W.heap[w.heap.size]? = some (.cells #[.int .i64 3, .int .u64 r.t, .int .u64 r.x, .int .u64 r.w, .int .u64 r.n, .int .u64 r.v, .int .i64 k0, .int .u64 k1, .int .u64 k2, .slice k3 k4 k5, .slice k6 n6 k7] 65 (0, 0)) := (hbR.block _ (by simp)).trans (aa _ _ _ rfl)
 have hB := HB0.out.trans (hbR.mono (by simp))
 have l0 := (Array.getElem?_eq_some_iff.1 hbx).1
 have b0 : W.cell? ⟨w.heap.size, 0, none⟩ = some (.int .i64 3) := by rw [cell_of_row W _ 0 _ _ _ hbx]; rfl
 have b1 : W.cell? ⟨w.heap.size, 1, none⟩ = some (.int .u64 r.t) := by rw [cell_of_row W _ 1 _ _ _ hbx]; rfl
 have b2 : W.cell? ⟨w.heap.size, 2, none⟩ = some (.int .u64 r.x) := by rw [cell_of_row W _ 2 _ _ _ hbx]; rfl
 have b3 : W.cell? ⟨w.heap.size, 3, none⟩ = some (.int .u64 r.w) := by rw [cell_of_row W _ 3 _ _ _ hbx]; rfl
 have b4 : W.cell? ⟨w.heap.size, 4, none⟩ = some (.int .u64 r.n) := by rw [cell_of_row W _ 4 _ _ _ hbx]; rfl
 have b5 : W.cell? ⟨w.heap.size, 5, none⟩ = some (.int .u64 r.v) := by rw [cell_of_row W _ 5 _ _ _ hbx]; rfl
 have HB := hid (And.intro hB hbx)
 clear hbR hbx hB
 go_wp2_with fail
 refine av (w0 := W) rfl [.of (aZ), .eq (.pointer (some ⟨w.heap.size, 0, none⟩)), .eq (.int .i64 3), .of (aQ WB), .eq (.string WB), .eq (.string (WB ++ ⟨#[32]⟩)), .eq (.pointer (some ⟨w.heap.size, 1, none⟩)), .eq (.int .u64 r.t), .eq (.string DT), .eq (.string (WB ++ ⟨#[32]⟩ ++ DT)), .eq (.string (WB ++ ⟨#[32]⟩ ++ DT))] (by kernel_rfl) ⟨?_, ?_, ?_, ?_, ?_, ?_, ?_, ?_, ?_, ?_, ?_, ?_, ?_, trivial⟩ (fun vs => [(9, vs 0), (10, (.pointer (some ⟨w.heap.size, 0, none⟩))), (11, (.int .i64 3)), (12, vs 3), (13, (.string WB)), (14, (.string (WB ++ ⟨#[32]⟩))), (15, (.pointer (some ⟨w.heap.size, 1, none⟩))), (16, (.int .u64 r.t)), (17, (.string DT)), (18, (.string (WB ++ ⟨#[32]⟩ ++ DT))), (3, (.string (WB ++ ⟨#[32]⟩ ++ DT)))]) (fun _ => rfl) ?_
 ·exact aW
 ·refine rs fun S a wx K Q hR hK => ?_
  go_simp
  go_at_call 52
  refine (aP _).mono ?_
  rintro e w' ⟨rfl, rfl⟩
  exact hK _ _ (br.alloc nl _) ⟨_, rfl, by simp, hR.new _ nl, aa _ _ _ rfl⟩
 ·refine rs fun S a wx K Q hR hK => ?_
  have t1 : a.tmps[1]? = some (.pointer (some ⟨w.heap.size, 0, none⟩)) := hR.o 1
  go_simp
  exact hK _ _ br rfl
 ·refine rs fun S a wx K Q hR hK => ?_
  have t10 := hR.q 1
  have y0 := (hR.bel.cell l0).trans b0
  go_simp
  exact hK _ _ br rfl
 ·exact aR _
 ·refine rs fun S a wx K Q hR hK => ?_
  obtain ⟨u9, t9, f9⟩ := hR.f 0
  have t11 := hR.q 2
  obtain ⟨g9, rfl, hg9, hS9, hw9⟩ := (show aZ S u9 wx from f9)
  go_simp
  exact hK _ _ br ⟨g9, 3, by simp, hg9, hS9, by rw [cell_of_row wx _ _ _ _ _ hw9]; exact HW.out⟩
 ·refine rs fun S a wx K Q hR hK => ?_
  obtain ⟨u12, t12, f12⟩ := hR.f 3
  obtain ⟨g12, o12, rfl, _, _, y12⟩ := (show aQ WB S u12 wx from f12)
  go_simp
  exact hK _ _ br rfl
 ·refine rs fun S a wx K Q hR hK => ?_
  have t13 := hR.q 4
  have q : ¬ 9223372036854775807 < WB.size + 1 := by omega
  go_simp
  (try go_ints)
  exact hK _ _ br rfl
 ·refine rs fun S a wx K Q hR hK => ?_
  have t1 : a.tmps[1]? = some (.pointer (some ⟨w.heap.size, 0, none⟩)) := hR.o 1
  go_simp
  exact hK _ _ br rfl
 ·refine rs fun S a wx K Q hR hK => ?_
  have t15 := hR.q 6
  have y0 := (hR.bel.cell l0).trans b1
  go_simp
  exact hK _ _ br rfl
 ·refine rs fun S a wx K Q hR hK => ?_
  have t16 := hR.q 7
  go_simp
  go_at_call 80
  refine (HT.out.dt _).mono ?_
  rintro e w' ⟨rfl, rfl⟩
  exact hK _ _ br rfl
 ·refine rs fun S a wx K Q hR hK => ?_
  have t14 := hR.q 5
  have t17 := hR.q 8
  have q : ¬ 9223372036854775807 < WB.size + 1 + DT.size := by omega
  go_simp
  (try go_ints)
  exact hK _ _ br rfl
 ·refine rs fun S a wx K Q hR hK => ?_
  have t18 := hR.q 9
  go_simp
  exact hK _ _ br rfl
 intro S1 vs w1 hD
 have hb1 := hD.bel
 have l1 : w.heap.size < w1.heap.size := by have := hb1.size; omega
 have HB1 := hid hb1
 have c0 := (hb1.cell l0).trans b0
 have c2 := (hb1.cell l0).trans b2
 have c3 := (hb1.cell l0).trans b3
 have c4 := (hb1.cell l0).trans b4
 have c5 := (hb1.cell l0).trans b5
 simp only [aH, List.foldl_cons, List.foldl_nil]
 clear hD b0 b1 b2 b3 b4 b5 hb1
 obtain ⟨S3, hS3⟩ : ∃ S3, S3 = WB ++ ⟨#[32]⟩ ++ DT := ⟨_, rfl⟩
 have zS : S3.size ≤ 27 := by rw [hS3, ByteArray.size_append, ByteArray.size_append, show (ByteArray.mk #[32]).size = 1 from rfl]; omega
 rw [← hS3]
 have HS3 := hid hS3
 have ht3 : S3.data.toList = ay 3 ++ (32 :: Lib.decDigits r.t) := by rw [hS3, HWB.out, HT.out.e1]; simp [ByteArray.data_append]
 have HT3 := hid ht3
 clear hS3 ht3
 have hlw : w.heap.size ≤ W.heap.size := by omega
 go_simp
 go_wp2_with fail
 refine av (w0 := w1) rfl [.eq (.string S3), .eq (.string (S3 ++ ⟨#[32]⟩)), .eq (.pointer (some ⟨w.heap.size, 2, none⟩)), .eq (.int .u64 r.x), .eq (.string DX), .eq (.string (S3 ++ ⟨#[32]⟩ ++ DX)), .eq (.string (S3 ++ ⟨#[32]⟩ ++ DX ++ ⟨#[32]⟩)), .eq (.pointer (some ⟨w.heap.size, 5, none⟩)), .eq (.int .u64 r.v), .eq (.string DV), .eq (.string (S3 ++ ⟨#[32]⟩ ++ DX ++ ⟨#[32]⟩ ++ DV)), .eq (.string (S3 ++ ⟨#[32]⟩ ++ DX ++ ⟨#[32]⟩ ++ DV))] (by kernel_rfl) ⟨?_, ?_, ?_, ?_, ?_, ?_, ?_, ?_, ?_, ?_, ?_, ?_, trivial⟩ (fun vs => [(36, (.string S3)), (37, (.string (S3 ++ ⟨#[32]⟩))), (38, (.pointer (some ⟨w.heap.size, 2, none⟩))), (39, (.int .u64 r.x)), (40, (.string DX)), (41, (.string (S3 ++ ⟨#[32]⟩ ++ DX))), (42, (.string (S3 ++ ⟨#[32]⟩ ++ DX ++ ⟨#[32]⟩))), (43, (.pointer (some ⟨w.heap.size, 5, none⟩))), (44, (.int .u64 r.v)), (45, (.string DV)), (46, (.string (S3 ++ ⟨#[32]⟩ ++ DX ++ ⟨#[32]⟩ ++ DV))), (2, (.string (S3 ++ ⟨#[32]⟩ ++ DX ++ ⟨#[32]⟩ ++ DV)))]) (fun _ => rfl) ?_
 ·refine rs fun S a wx K Q hR hK => ?_
  have t3 : a.tmps[3]? = some (.string S3) := hR.o 3
  go_simp
  exact hK _ _ br rfl
 ·refine rs fun S a wx K Q hR hK => ?_
  have t36 := hR.q 0
  have q : ¬ 9223372036854775807 < S3.size + 1 := by omega
  go_simp
  (try go_ints)
  exact hK _ _ br rfl
 ·refine rs fun S a wx K Q hR hK => ?_
  have t1 : a.tmps[1]? = some (.pointer (some ⟨w.heap.size, 0, none⟩)) := hR.o 1
  go_simp
  exact hK _ _ br rfl
 ·refine rs fun S a wx K Q hR hK => ?_
  have t38 := hR.q 2
  have y0 := (hR.bel.cell l1).trans c2
  go_simp
  exact hK _ _ br rfl
 ·refine rs fun S a wx K Q hR hK => ?_
  have t39 := hR.q 3
  go_simp
  go_at_call 80
  refine (HT.out.dx _).mono ?_
  rintro e w' ⟨rfl, rfl⟩
  exact hK _ _ br rfl
 ·refine rs fun S a wx K Q hR hK => ?_
  have t37 := hR.q 1
  have t40 := hR.q 4
  have q : ¬ 9223372036854775807 < S3.size + 1 + DX.size := by omega
  go_simp
  (try go_ints)
  exact hK _ _ br rfl
 ·refine rs fun S a wx K Q hR hK => ?_
  have t41 := hR.q 5
  have q : ¬ 9223372036854775807 < S3.size + 1 + DX.size + 1 := by omega
  go_simp
  (try go_ints)
  exact hK _ _ br rfl
 ·refine rs fun S a wx K Q hR hK => ?_
  have t1 : a.tmps[1]? = some (.pointer (some ⟨w.heap.size, 0, none⟩)) := hR.o 1
  go_simp
  exact hK _ _ br rfl
 ·refine rs fun S a wx K Q hR hK => ?_
  have t43 := hR.q 7
  have y0 := (hR.bel.cell l1).trans c5
  go_simp
  exact hK _ _ br rfl
 ·refine rs fun S a wx K Q hR hK => ?_
  have t44 := hR.q 8
  go_simp
  go_at_call 80
  refine (HT.out.dv _).mono ?_
  rintro e w' ⟨rfl, rfl⟩
  exact hK _ _ br rfl
 ·refine rs fun S a wx K Q hR hK => ?_
  have t42 := hR.q 6
  have t45 := hR.q 9
  have q : ¬ 9223372036854775807 < S3.size + 1 + DX.size + 1 + DV.size := by omega
  go_simp
  (try go_ints)
  exact hK _ _ br rfl
 ·refine rs fun S a wx K Q hR hK => ?_
  have t46 := hR.q 10
  go_simp
  exact hK _ _ br rfl
 intro S2 vs2 w2 hD2
 have HB2 := hid (HB.out.1.trans ((HB1.out.trans (hD2.bel.mono HB1.out.size)).mono hlw))
 simp only [aH, List.foldl_cons, List.foldl_nil]
 clear hD2 c0 c2 c3 c4 c5
 go_simp
 go_wp2_with fail
 go_ret
 refine ⟨dQ ?_, HB2.out⟩
 rw [gy]
 simp [ByteArray.data_append, HT3.out, HNK.out.2, Rec.tail, HT.out.e2, HT.out.e3]
theorem yM (S : Nat → Prop) (own : Bool) (r : Rec) (k0 : Int) (k1 k2 : Nat) (k3 : Option Addr) (k4 k5 : Nat) (k6 : Option Addr) (n6 k7 : Nat) (w : World) (hsz : r.p.size ≤ 900) (hle : n6 ≤ 10000) (hn6 : n6 = r.es.length) (hk : r.k = 4) (hr : r.right = true)
  (HV : Hid (aI w S own r (.agg #[.int .i64 4, .int .u64 r.t, .int .u64 r.x, .int .u64 r.w, .int .u64 r.n, .int .u64 r.v, .int .i64 k0, .int .u64 k1, .int .u64 k2, .slice k3 k4 k5, .slice k6 n6 k7]) ∧ r.nums ∧ ax w S own r.p (.agg #[.int .i64 k0, .int .u64 k1, .int .u64 k2, .slice k3 k4 k5]) ∧ eX w S own r.es (.slice k6 n6 k7))) :
  Calls Tryz.prog 42 #[.agg #[.int .i64 4, .int .u64 r.t, .int .u64 r.x, .int .u64 r.w, .int .u64 r.n, .int .u64 r.v, .int .i64 k0, .int .u64 k1, .int .u64 k2, .slice k3 k4 k5, .slice k6 n6 k7]] w fun e w' => e = .returned (.string ⟨r.told.toArray⟩) ∧ Below w.heap.size w w' := by
 have hb0 : Below w.heap.size w (w.alloc (.cells #[.int .i64 4, .int .u64 r.t, .int .u64 r.x, .int .u64 r.w, .int .u64 r.n, .int .u64 r.v, .int .i64 k0, .int .u64 k1, .int .u64 k2, .slice k3 k4 k5, .slice k6 n6 k7] 65)) := br.alloc nl _
 obtain ⟨DT, DX, DV, TO, hT⟩ := Tl.mk' r HV.out.2.1
 have zT := hT.z1
 have zX := hT.z2
 have zV := hT.z3
 have zO := hT.z4
 have HT := hid hT
 obtain ⟨WB, hWB⟩ : ∃ WB : ByteArray, WB = ⟨(ay 4).toArray⟩ := ⟨_, rfl⟩
 have zW : WB.size ≤ 6 := by rw [hWB]; decide
 have hw := cu 4 (by omega) (by omega)
 have HW : Hid (eT[4]? = some (.string WB)) := hid (by rw [hWB]; exact hw)
 have HWB := hid hWB
 have HB0 := hid hb0
 have HNK := hid (And.intro hn6 hk)
 clear hT hWB hw hb0 hn6 hk
 go_enter Tryz.func42, Tryz.ntmps42
 go_wp2_with fail
 refine (bZ _ own r _ _ hsz (HV.out.1.below HB0.out nl)).mono ?_
 rintro e W ⟨rfl, hbR⟩
 rw [hr]
 have hbx : W.heap[w.heap.size]? = some (.cells #[.int .i64 4, .int .u64 r.t, .int .u64 r.x, .int .u64 r.w, .int .u64 r.n, .int .u64 r.v, .int .i64 k0, .int .u64 k1, .int .u64 k2, .slice k3 k4 k5, .slice k6 n6 k7] 65 (0, 0)) := (hbR.block _ (by simp)).trans (aa _ _ _ rfl)
 have hB := HB0.out.trans (hbR.mono (by simp))
 have l0 := (Array.getElem?_eq_some_iff.1 hbx).1
 have b0 : W.cell? ⟨w.heap.size, 0, none⟩ = some (.int .i64 4) := by rw [cell_of_row W _ 0 _ _ _ hbx]; rfl
 have b1 : W.cell? ⟨w.heap.size, 1, none⟩ = some (.int .u64 r.t) := by rw [cell_of_row W _ 1 _ _ _ hbx]; rfl
 have b2 : W.cell? ⟨w.heap.size, 2, none⟩ = some (.int .u64 r.x) := by rw [cell_of_row W _ 2 _ _ _ hbx]; rfl
 have b3 : W.cell? ⟨w.heap.size, 3, none⟩ = some (.int .u64 r.w) := by rw [cell_of_row W _ 3 _ _ _ hbx]; rfl
 have b4 : W.cell? ⟨w.heap.size, 4, none⟩ = some (.int .u64 r.n) := by rw [cell_of_row W _ 4 _ _ _ hbx]; rfl
 have b5 : W.cell? ⟨w.heap.size, 5, none⟩ = some (.int .u64 r.v) := by rw [cell_of_row W _ 5 _ _ _ hbx]; rfl
 have HB := hid (And.intro hB hbx)
 clear hbR hbx hB
 go_wp2_with fail
 refine av (w0 := W) rfl [.of (aZ), .eq (.pointer (some ⟨w.heap.size, 0, none⟩)), .eq (.int .i64 4), .of (aQ WB), .eq (.string WB), .eq (.string (WB ++ ⟨#[32]⟩)), .eq (.pointer (some ⟨w.heap.size, 1, none⟩)), .eq (.int .u64 r.t), .eq (.string DT), .eq (.string (WB ++ ⟨#[32]⟩ ++ DT)), .eq (.string (WB ++ ⟨#[32]⟩ ++ DT))] (by kernel_rfl) ⟨?_, ?_, ?_, ?_, ?_, ?_, ?_, ?_, ?_, ?_, ?_, ?_, ?_, trivial⟩ (fun vs => [(9, vs 0), (10, (.pointer (some ⟨w.heap.size, 0, none⟩))), (11, (.int .i64 4)), (12, vs 3), (13, (.string WB)), (14, (.string (WB ++ ⟨#[32]⟩))), (15, (.pointer (some ⟨w.heap.size, 1, none⟩))), (16, (.int .u64 r.t)), (17, (.string DT)), (18, (.string (WB ++ ⟨#[32]⟩ ++ DT))), (3, (.string (WB ++ ⟨#[32]⟩ ++ DT)))]) (fun _ => rfl) ?_
 ·exact aW
 ·refine rs fun S a wx K Q hR hK => ?_
  go_simp
  go_at_call 52
  refine (aP _).mono ?_
  rintro e w' ⟨rfl, rfl⟩
  exact hK _ _ (br.alloc nl _) ⟨_, rfl, by simp, hR.new _ nl, aa _ _ _ rfl⟩
 ·refine rs fun S a wx K Q hR hK => ?_
  have t1 : a.tmps[1]? = some (.pointer (some ⟨w.heap.size, 0, none⟩)) := hR.o 1
  go_simp
  exact hK _ _ br rfl
 ·refine rs fun S a wx K Q hR hK => ?_
  have t10 := hR.q 1
  have y0 := (hR.bel.cell l0).trans b0
  go_simp
  exact hK _ _ br rfl
 ·exact aR _
 ·refine rs fun S a wx K Q hR hK => ?_
  obtain ⟨u9, t9, f9⟩ := hR.f 0
  have t11 := hR.q 2
  obtain ⟨g9, rfl, hg9, hS9, hw9⟩ := (show aZ S u9 wx from f9)
  go_simp
  exact hK _ _ br ⟨g9, 4, by simp, hg9, hS9, by rw [cell_of_row wx _ _ _ _ _ hw9]; exact HW.out⟩
 ·refine rs fun S a wx K Q hR hK => ?_
  obtain ⟨u12, t12, f12⟩ := hR.f 3
  obtain ⟨g12, o12, rfl, _, _, y12⟩ := (show aQ WB S u12 wx from f12)
  go_simp
  exact hK _ _ br rfl
 ·refine rs fun S a wx K Q hR hK => ?_
  have t13 := hR.q 4
  have q : ¬ 9223372036854775807 < WB.size + 1 := by omega
  go_simp
  (try go_ints)
  exact hK _ _ br rfl
 ·refine rs fun S a wx K Q hR hK => ?_
  have t1 : a.tmps[1]? = some (.pointer (some ⟨w.heap.size, 0, none⟩)) := hR.o 1
  go_simp
  exact hK _ _ br rfl
 ·refine rs fun S a wx K Q hR hK => ?_
  have t15 := hR.q 6
  have y0 := (hR.bel.cell l0).trans b1
  go_simp
  exact hK _ _ br rfl
 ·refine rs fun S a wx K Q hR hK => ?_
  have t16 := hR.q 7
  go_simp
  go_at_call 80
  refine (HT.out.dt _).mono ?_
  rintro e w' ⟨rfl, rfl⟩
  exact hK _ _ br rfl
 ·refine rs fun S a wx K Q hR hK => ?_
  have t14 := hR.q 5
  have t17 := hR.q 8
  have q : ¬ 9223372036854775807 < WB.size + 1 + DT.size := by omega
  go_simp
  (try go_ints)
  exact hK _ _ br rfl
 ·refine rs fun S a wx K Q hR hK => ?_
  have t18 := hR.q 9
  go_simp
  exact hK _ _ br rfl
 intro S1 vs w1 hD
 have hb1 := hD.bel
 have l1 : w.heap.size < w1.heap.size := by have := hb1.size; omega
 have HB1 := hid hb1
 have c0 := (hb1.cell l0).trans b0
 have c2 := (hb1.cell l0).trans b2
 have c3 := (hb1.cell l0).trans b3
 have c4 := (hb1.cell l0).trans b4
 have c5 := (hb1.cell l0).trans b5
 simp only [aH, List.foldl_cons, List.foldl_nil]
 clear hD b0 b1 b2 b3 b4 b5 hb1
 obtain ⟨S3, hS3⟩ : ∃ S3, S3 = WB ++ ⟨#[32]⟩ ++ DT := ⟨_, rfl⟩
 have zS : S3.size ≤ 27 := by rw [hS3, ByteArray.size_append, ByteArray.size_append, show (ByteArray.mk #[32]).size = 1 from rfl]; omega
 rw [← hS3]
 have HS3 := hid hS3
 have ht3 : S3.data.toList = ay 4 ++ (32 :: Lib.decDigits r.t) := by rw [hS3, HWB.out, HT.out.e1]; simp [ByteArray.data_append]
 have HT3 := hid ht3
 clear hS3 ht3
 have hlw : w.heap.size ≤ W.heap.size := by omega
 have q1 : ¬ 9223372036854775807 < S3.size + 1 := by omega
 have q2 : ¬ 9223372036854775807 < S3.size + 1 + DX.size := by omega
 go_simp
 go_wp2_with fail
 refine (HT.out.dx _).mono ?_
 rintro e w2 ⟨rfl, rfl⟩
 go_wp2_with fail
 go_ret
 refine ⟨dQ ?_, HB.out.1.trans (HB1.out.mono hlw)⟩
 rw [gy]
 simp [ByteArray.data_append, HT3.out, HNK.out.2, Rec.tail, HT.out.e2]
theorem yN (S : Nat → Prop) (own : Bool) (r : Rec) (k0 : Int) (k1 k2 : Nat) (k3 : Option Addr) (k4 k5 : Nat) (k6 : Option Addr) (n6 k7 : Nat) (w : World) (hsz : r.p.size ≤ 900) (hle : n6 ≤ 10000) (hn6 : n6 = r.es.length) (hk : r.k = 5) (hr : r.right = true)
  (HV : Hid (aI w S own r (.agg #[.int .i64 5, .int .u64 r.t, .int .u64 r.x, .int .u64 r.w, .int .u64 r.n, .int .u64 r.v, .int .i64 k0, .int .u64 k1, .int .u64 k2, .slice k3 k4 k5, .slice k6 n6 k7]) ∧ r.nums ∧ ax w S own r.p (.agg #[.int .i64 k0, .int .u64 k1, .int .u64 k2, .slice k3 k4 k5]) ∧ eX w S own r.es (.slice k6 n6 k7))) :
  Calls Tryz.prog 42 #[.agg #[.int .i64 5, .int .u64 r.t, .int .u64 r.x, .int .u64 r.w, .int .u64 r.n, .int .u64 r.v, .int .i64 k0, .int .u64 k1, .int .u64 k2, .slice k3 k4 k5, .slice k6 n6 k7]] w fun e w' => e = .returned (.string ⟨r.told.toArray⟩) ∧ Below w.heap.size w w' := by
 have hb0 : Below w.heap.size w (w.alloc (.cells #[.int .i64 5, .int .u64 r.t, .int .u64 r.x, .int .u64 r.w, .int .u64 r.n, .int .u64 r.v, .int .i64 k0, .int .u64 k1, .int .u64 k2, .slice k3 k4 k5, .slice k6 n6 k7] 65)) := br.alloc nl _
 obtain ⟨DT, DX, DV, TO, hT⟩ := Tl.mk' r HV.out.2.1
 have zT := hT.z1
 have zX := hT.z2
 have zV := hT.z3
 have zO := hT.z4
 have HT := hid hT
 obtain ⟨WB, hWB⟩ : ∃ WB : ByteArray, WB = ⟨(ay 5).toArray⟩ := ⟨_, rfl⟩
 have zW : WB.size ≤ 6 := by rw [hWB]; decide
 have hw := cu 5 (by omega) (by omega)
 have HW : Hid (eT[5]? = some (.string WB)) := hid (by rw [hWB]; exact hw)
 have HWB := hid hWB
 have HB0 := hid hb0
 have HNK := hid (And.intro hn6 hk)
 clear hT hWB hw hb0 hn6 hk
 go_enter Tryz.func42, Tryz.ntmps42
 go_wp2_with fail
 refine (bZ _ own r _ _ hsz (HV.out.1.below HB0.out nl)).mono ?_
 rintro e W ⟨rfl, hbR⟩
 rw [hr]
 have hbx : W.heap[w.heap.size]? = some (.cells #[.int .i64 5, .int .u64 r.t, .int .u64 r.x, .int .u64 r.w, .int .u64 r.n, .int .u64 r.v, .int .i64 k0, .int .u64 k1, .int .u64 k2, .slice k3 k4 k5, .slice k6 n6 k7] 65 (0, 0)) := (hbR.block _ (by simp)).trans (aa _ _ _ rfl)
 have hB := HB0.out.trans (hbR.mono (by simp))
 have l0 := (Array.getElem?_eq_some_iff.1 hbx).1
 have b0 : W.cell? ⟨w.heap.size, 0, none⟩ = some (.int .i64 5) := by rw [cell_of_row W _ 0 _ _ _ hbx]; rfl
 have b1 : W.cell? ⟨w.heap.size, 1, none⟩ = some (.int .u64 r.t) := by rw [cell_of_row W _ 1 _ _ _ hbx]; rfl
 have b2 : W.cell? ⟨w.heap.size, 2, none⟩ = some (.int .u64 r.x) := by rw [cell_of_row W _ 2 _ _ _ hbx]; rfl
 have b3 : W.cell? ⟨w.heap.size, 3, none⟩ = some (.int .u64 r.w) := by rw [cell_of_row W _ 3 _ _ _ hbx]; rfl
 have b4 : W.cell? ⟨w.heap.size, 4, none⟩ = some (.int .u64 r.n) := by rw [cell_of_row W _ 4 _ _ _ hbx]; rfl
 have b5 : W.cell? ⟨w.heap.size, 5, none⟩ = some (.int .u64 r.v) := by rw [cell_of_row W _ 5 _ _ _ hbx]; rfl
 have HB := hid (And.intro hB hbx)
 clear hbR hbx hB
 go_wp2_with fail
 refine av (w0 := W) rfl [.of (aZ), .eq (.pointer (some ⟨w.heap.size, 0, none⟩)), .eq (.int .i64 5), .of (aQ WB), .eq (.string WB), .eq (.string (WB ++ ⟨#[32]⟩)), .eq (.pointer (some ⟨w.heap.size, 1, none⟩)), .eq (.int .u64 r.t), .eq (.string DT), .eq (.string (WB ++ ⟨#[32]⟩ ++ DT)), .eq (.string (WB ++ ⟨#[32]⟩ ++ DT))] (by kernel_rfl) ⟨?_, ?_, ?_, ?_, ?_, ?_, ?_, ?_, ?_, ?_, ?_, ?_, ?_, trivial⟩ (fun vs => [(9, vs 0), (10, (.pointer (some ⟨w.heap.size, 0, none⟩))), (11, (.int .i64 5)), (12, vs 3), (13, (.string WB)), (14, (.string (WB ++ ⟨#[32]⟩))), (15, (.pointer (some ⟨w.heap.size, 1, none⟩))), (16, (.int .u64 r.t)), (17, (.string DT)), (18, (.string (WB ++ ⟨#[32]⟩ ++ DT))), (3, (.string (WB ++ ⟨#[32]⟩ ++ DT)))]) (fun _ => rfl) ?_
 ·exact aW
 ·refine rs fun S a wx K Q hR hK => ?_
  go_simp
  go_at_call 52
  refine (aP _).mono ?_
  rintro e w' ⟨rfl, rfl⟩
  exact hK _ _ (br.alloc nl _) ⟨_, rfl, by simp, hR.new _ nl, aa _ _ _ rfl⟩
 ·refine rs fun S a wx K Q hR hK => ?_
  have t1 : a.tmps[1]? = some (.pointer (some ⟨w.heap.size, 0, none⟩)) := hR.o 1
  go_simp
  exact hK _ _ br rfl
 ·refine rs fun S a wx K Q hR hK => ?_
  have t10 := hR.q 1
  have y0 := (hR.bel.cell l0).trans b0
  go_simp
  exact hK _ _ br rfl
 ·exact aR _
 ·refine rs fun S a wx K Q hR hK => ?_
  obtain ⟨u9, t9, f9⟩ := hR.f 0
  have t11 := hR.q 2
  obtain ⟨g9, rfl, hg9, hS9, hw9⟩ := (show aZ S u9 wx from f9)
  go_simp
  exact hK _ _ br ⟨g9, 5, by simp, hg9, hS9, by rw [cell_of_row wx _ _ _ _ _ hw9]; exact HW.out⟩
 ·refine rs fun S a wx K Q hR hK => ?_
  obtain ⟨u12, t12, f12⟩ := hR.f 3
  obtain ⟨g12, o12, rfl, _, _, y12⟩ := (show aQ WB S u12 wx from f12)
  go_simp
  exact hK _ _ br rfl
 ·refine rs fun S a wx K Q hR hK => ?_
  have t13 := hR.q 4
  have q : ¬ 9223372036854775807 < WB.size + 1 := by omega
  go_simp
  (try go_ints)
  exact hK _ _ br rfl
 ·refine rs fun S a wx K Q hR hK => ?_
  have t1 : a.tmps[1]? = some (.pointer (some ⟨w.heap.size, 0, none⟩)) := hR.o 1
  go_simp
  exact hK _ _ br rfl
 ·refine rs fun S a wx K Q hR hK => ?_
  have t15 := hR.q 6
  have y0 := (hR.bel.cell l0).trans b1
  go_simp
  exact hK _ _ br rfl
 ·refine rs fun S a wx K Q hR hK => ?_
  have t16 := hR.q 7
  go_simp
  go_at_call 80
  refine (HT.out.dt _).mono ?_
  rintro e w' ⟨rfl, rfl⟩
  exact hK _ _ br rfl
 ·refine rs fun S a wx K Q hR hK => ?_
  have t14 := hR.q 5
  have t17 := hR.q 8
  have q : ¬ 9223372036854775807 < WB.size + 1 + DT.size := by omega
  go_simp
  (try go_ints)
  exact hK _ _ br rfl
 ·refine rs fun S a wx K Q hR hK => ?_
  have t18 := hR.q 9
  go_simp
  exact hK _ _ br rfl
 intro S1 vs w1 hD
 have hb1 := hD.bel
 have l1 : w.heap.size < w1.heap.size := by have := hb1.size; omega
 have HB1 := hid hb1
 have c0 := (hb1.cell l0).trans b0
 have c2 := (hb1.cell l0).trans b2
 have c3 := (hb1.cell l0).trans b3
 have c4 := (hb1.cell l0).trans b4
 have c5 := (hb1.cell l0).trans b5
 simp only [aH, List.foldl_cons, List.foldl_nil]
 clear hD b0 b1 b2 b3 b4 b5 hb1
 obtain ⟨S3, hS3⟩ : ∃ S3, S3 = WB ++ ⟨#[32]⟩ ++ DT := ⟨_, rfl⟩
 have zS : S3.size ≤ 27 := by rw [hS3, ByteArray.size_append, ByteArray.size_append, show (ByteArray.mk #[32]).size = 1 from rfl]; omega
 rw [← hS3]
 have HS3 := hid hS3
 have ht3 : S3.data.toList = ay 5 ++ (32 :: Lib.decDigits r.t) := by rw [hS3, HWB.out, HT.out.e1]; simp [ByteArray.data_append]
 have HT3 := hid ht3
 clear hS3 ht3
 have hlw : w.heap.size ≤ W.heap.size := by omega
 have hbx1 : w1.heap[w.heap.size]? = some (.cells #[.int .i64 5, .int .u64 r.t, .int .u64 r.x, .int .u64 r.w, .int .u64 r.n, .int .u64 r.v, .int .i64 k0, .int .u64 k1, .int .u64 k2, .slice k3 k4 k5, .slice k6 n6 k7] 65 (0, 0)) := (HB1.out.block _ l0).trans HB.out.2
 have c6 : w1.cell? ⟨w.heap.size, 6, none⟩ = some (.int .i64 k0) := by rw [cell_of_row w1 _ 6 _ _ _ hbx1]; rfl
 have c7 : w1.cell? ⟨w.heap.size, 7, none⟩ = some (.int .u64 k1) := by rw [cell_of_row w1 _ 7 _ _ _ hbx1]; rfl
 have c8 : w1.cell? ⟨w.heap.size, 8, none⟩ = some (.int .u64 k2) := by rw [cell_of_row w1 _ 8 _ _ _ hbx1]; rfl
 have c9 : w1.cell? ⟨w.heap.size, 9, none⟩ = some (.slice k3 k4 k5) := by rw [cell_of_row w1 _ 9 _ _ _ hbx1]; rfl
 have HX1 := hid hbx1
 have hB1 : Below w.heap.size w w1 := HB.out.1.trans (HB1.out.mono hlw)
 have htl := Ex.told_len r.p HV.out.2.2.1.nums
 have hpr := DC HNK.out.2 hr
 obtain ⟨PT, hPT⟩ : ∃ PT : ByteArray, PT = ⟨r.p.text.toArray⟩ := ⟨_, rfl⟩
 have hpt : PT.data.toList = r.p.told := by rw [hPT]; simp [Ex.text, hpr]
 have zP : PT.size ≤ 100000 := by rw [← af, hpt]; omega
 have HPT := hid (And.intro hPT (And.intro hpt hB1))
 have q1 : ¬ 9223372036854775807 < S3.size + 1 := by omega
 have q2 : ¬ 9223372036854775807 < S3.size + 1 + PT.size := by omega
 clear c2 c3 c4 c5 hbx1 hPT hpt hB1 hpr
 go_simp
 go_wp2_with fail
 refine (vU S own r.p _ _ hsz (HV.out.2.2.1.below HPT.out.2.2 nl)).mono ?_
 rintro e w2 ⟨rfl, hb2⟩
 rw [← HPT.out.1]
 have hx2 : w2.heap[w.heap.size]? = some (.cells #[.int .i64 5, .int .u64 r.t, .int .u64 r.x, .int .u64 r.w, .int .u64 r.n, .int .u64 r.v, .int .i64 k0, .int .u64 k1, .int .u64 k2, .slice k3 k4 k5, .slice k6 n6 k7] 65 (0, 0)) := (hb2.block _ l1).trans HX1.out
 have HX2 := hid (And.intro hx2 (HPT.out.2.2.trans (hb2.mono (by omega))))
 have l2 : w.heap.size < w2.heap.size := (Array.getElem?_eq_some_iff.1 hx2).1
 clear c0 c6 c7 c8 c9 hb2 hx2
 go_wp2_with fail
 go_loopw [3, 4] (fun s i wr => ∃ j : Nat, ∃ SX : ByteArray, j ≤ n6 ∧ i = .int .i64 j ∧ s = .string SX ∧ SX.data.toList = ay 5 ++ (32 :: Lib.decDigits r.t) ++ (32 :: r.p.told) ++ (r.es.take j).flatMap (fun e => 32 :: e.told) ∧ SX.size ≤ 200000 + 100 * j ∧ Below w2.heap.size w2 wr) (fun _ i _ => n6 - (intOf i).toNat)
 case atStart =>
  refine ⟨0, _, by omega, rfl, rfl, by simp [ByteArray.data_append, HT3.out, HPT.out.2.1], ?_, br⟩
  rw [ByteArray.size_append, ByteArray.size_append, show (ByteArray.mk #[32]).size = 1 from rfl]; omega
 case round =>
  obtain ⟨j, SX, hj, rfl, rfl, hsx, zX1, hbr⟩ := hrel
  have hxr : wr.heap[w.heap.size]? = some (.cells #[.int .i64 5, .int .u64 r.t, .int .u64 r.x, .int .u64 r.w, .int .u64 r.n, .int .u64 r.v, .int .i64 k0, .int .u64 k1, .int .u64 k2, .slice k3 k4 k5, .slice k6 n6 k7] 65 (0, 0)) := (hbr.block _ l2).trans HX2.out.1
  have c10 : wr.cell? ⟨w.heap.size, 10, none⟩ = some (.slice k6 n6 k7) := by rw [cell_of_row wr _ 10 _ _ _ hxr]; rfl
  have hbw : Below w.heap.size w wr := HX2.out.2.trans (hbr.mono (by omega))
  have HSX := hid (And.intro hsx (And.intro hbr hbw))
  clear hsx hbr hbw hxr
  by_cases hlt : j < n6
  ·have hltE : j < r.es.length := by rw [← HNK.out.1]; exact hlt
   have hnk := HNK.out.1
   have hes0 := HV.out.2.2.2
   rw [hnk] at hes0
   obtain ⟨bl, off, hk6, _, d0, d1, d2, d3, _⟩ := (hes0.below HSX.out.2.2 nl).part j hltE
   obtain ⟨hx64, hw64, hn64⟩ := HV.out.2.1.2.2.2.2.2.2 r.es[j] (List.getElem_mem hltE)
   have lx := aJ _ hx64
   have lw := aJ _ hw64
   have ln := aJ _ hn64
   obtain ⟨EX, hEX⟩ : ∃ EX : ByteArray, EX = ⟨(Lib.decDigits r.es[j].x).toArray⟩ := ⟨_, rfl⟩
   obtain ⟨EV, hEV⟩ : ∃ EV : ByteArray, EV = ⟨(jO r.es[j].w r.es[j].n).toArray⟩ := ⟨_, rfl⟩
   have zE : EX.size ≤ 20 := by rw [hEX, ← af]; simpa using lx
   have zV2 : EV.size ≤ 41 := by rw [hEV, ← af]; simp [jO]; omega
   have HD := hid (And.intro (fun W => show Calls Tryz.prog 80 #[.int .u64 (r.es[j].x : Nat)] W (fun e w' => e = .returned (.string EX) ∧ w' = W) by rw [hEX]; exact dB _ W hx64) (fun W => show Calls Tryz.prog 81 #[.agg #[.int .u64 (r.es[j].w : Nat), .int .u64 (r.es[j].n : Nat)]] W (fun e w' => e = .returned (.string EV) ∧ Below W.heap.size W w') by rw [hEV]; exact mJ _ _ W hw64 hn64))
   have HE := hid (And.intro hEX hEV)
   have HTK := hid (dM r.es j hltE)
   rw [hk6] at c10 ⊢
   obtain ⟨M, hM⟩ : ∃ M, M = r.es[j].m := ⟨_, rfl⟩
   have HM := hid hM
   rw [← hM] at d3
   clear hnk hes0 hk6 lx lw ln hEX hEV hx64 hw64 hn64 hM
   go_wp2_with fail
   obtain ⟨w3, hw3⟩ : ∃ w3, w3 = wr.alloc (.cells #[.int .u64 (r.es[j].x : Nat), .int .u64 (r.es[j].w : Nat), .int .u64 (r.es[j].n : Nat), .bool M] 130) := ⟨_, rfl⟩
   obtain ⟨eb, heb⟩ : ∃ eb, eb = wr.heap.size := ⟨_, rfl⟩
   have hb3 : Below wr.heap.size wr w3 := by rw [hw3]; exact br.alloc nl _
   have hh3 : w3.heap[eb]? = some (.cells #[.int .u64 (r.es[j].x : Nat), .int .u64 (r.es[j].w : Nat), .int .u64 (r.es[j].n : Nat), .bool M] 130 (0, 0)) := by rw [hw3, heb]; exact aa _ _ _ rfl
   have l3 : eb < w3.heap.size := (Array.getElem?_eq_some_iff.1 hh3).1
   have g0 : w3.cell? ⟨eb, 0, none⟩ = some (.int .u64 (r.es[j].x : Nat)) := by rw [cell_of_row w3 _ 0 _ _ _ hh3]; rfl
   have g1 : w3.cell? ⟨eb, 1, none⟩ = some (.int .u64 (r.es[j].w : Nat)) := by rw [cell_of_row w3 _ 1 _ _ _ hh3]; rfl
   have g2 : w3.cell? ⟨eb, 2, none⟩ = some (.int .u64 (r.es[j].n : Nat)) := by rw [cell_of_row w3 _ 2 _ _ _ hh3]; rfl
   have g3 : w3.cell? ⟨eb, 3, none⟩ = some (.bool M) := by rw [cell_of_row w3 _ 3 _ _ _ hh3]; rfl
   rw [← hw3, ← heb]
   have HB3 := hid hb3
   clear hw3 hb3 hh3 heb d0 d1 d2 d3 c10
   have q1 : ¬ 9223372036854775807 < SX.size + 1 := by omega
   have q2 : ¬ 9223372036854775807 < SX.size + 1 + EX.size := by omega
   have q3 : ¬ 9223372036854775807 < SX.size + 1 + EX.size + 1 := by omega
   have q4 : ¬ 9223372036854775807 < SX.size + 1 + EX.size + 1 + EV.size := by omega
   have hbW : Below w3.heap.size w3 w3 := br
   go_region_held3 (fun w' => w'.cell? ⟨eb, 0, none⟩ = some (.int .u64 (r.es[j].x : Nat)) ∧ w'.cell? ⟨eb, 1, none⟩ = some (.int .u64 (r.es[j].w : Nat)) ∧ w'.cell? ⟨eb, 2, none⟩ = some (.int .u64 (r.es[j].n : Nat)))
    (first
     | exact ⟨(hbW.cell l3).trans g0, (hbW.cell l3).trans g1, (hbW.cell l3).trans g2⟩
     | go_keep)
    (first
     | (go_at_call 80; go_fit (HD.out.1 _); rintro e w' ⟨rfl, rfl⟩)
     | (go_at_call 81; go_fit (HD.out.2 _); rintro e w' ⟨rfl, hbx⟩; replace hbW := hbW.drew.trans (hbx.mono hbW.size); clear hbx))
   have hb4 := hbW
   have h3 := (hb4.cell l3).trans g3
   have HB4 := hid (HSX.out.2.1.trans ((HB3.out.trans (hb4.mono HB3.out.size)).mono HSX.out.2.1.size))
   clear hbW q1 q2 q3 q4
   obtain ⟨S4X, hS4⟩ : ∃ S4X, S4X = SX ++ ⟨#[32]⟩ ++ EX ++ ⟨#[58]⟩ ++ EV := ⟨_, rfl⟩
   have zS4 : S4X.size ≤ 200000 + 100 * j + 63 := by rw [hS4]; simp only [ByteArray.size_append, show (ByteArray.mk #[32]).size = 1 from rfl, show (ByteArray.mk #[58]).size = 1 from rfl]; omega
   have q1 : ¬ 9223372036854775807 < S4X.size + 2 := by omega
   rw [← hS4]
   have HS4 := hid hS4
   clear hb4 g0 g1 g2 g3 hS4
   go_simp
   cases M with
   | true =>
    go_wp2_with fail
    go_roundw
    case rel =>
     refine ⟨j + 1, _, by omega, by go_num, rfl, ?_, ?_, HB4.out⟩
     ·rw [HTK.out, List.flatMap_append, ← List.append_assoc, ← HSX.out.1, HS4.out]
      simp [ByteArray.data_append, Ent.told, HE.out.1, HE.out.2, ← HM.out, jy]
     ·rw [ByteArray.size_append, show (ByteArray.mk #[58, 49]).size = 2 from rfl]; omega
    case measure => simp [intOf]; omega
   | false =>
    go_wp2_with fail
    go_roundw
    case rel =>
     refine ⟨j + 1, _, by omega, by go_num, rfl, ?_, ?_, HB4.out⟩
     ·rw [HTK.out, List.flatMap_append, ← List.append_assoc, ← HSX.out.1, HS4.out]
      simp [ByteArray.data_append, Ent.told, HE.out.1, HE.out.2, ← HM.out, jy]
     ·rw [ByteArray.size_append, show (ByteArray.mk #[58, 48]).size = 2 from rfl]; omega
    case measure => simp [intOf]; omega
  ·have hj2 : j = n6 := by omega
   subst hj2
   go_wp2_with fail
   go_ret
   refine ⟨dQ ?_, HSX.out.2.2⟩
   rw [gy, HSX.out.1]
   have e := HNK.out.1
   simp [HNK.out.2, Rec.tail, e, List.flatMap_map]
theorem fQ (S : Nat → Prop) (own : Bool) (r : Rec) (v : Value) (w : World) (hsz : r.p.size ≤ 900) (hle : r.es.length ≤ 10000) (hv : aI w S own r v) :
  Calls Tryz.prog 42 #[v] w fun e w' => e = .returned (.string ⟨r.text.toArray⟩) ∧ Below w.heap.size w w' := by
 obtain ⟨k0, k1, k2, k3, k4, k5, k6, k7, rfl, hk1, hk2, hnums, he, hes⟩ := hv.conc
 cases hr : r.right with
 | true =>
  obtain ⟨h1, h7, _, _⟩ := (Rec.right_iff r).1 hr
  have ht : r.text = r.told := by unfold Rec.text; rw [if_pos hr]
  rw [ht]
  have hc : r.k = 1 ∨ r.k = 2 ∨ r.k = 3 ∨ r.k = 4 ∨ r.k = 5 ∨ r.k = 6 ∨ r.k = 7 := by omega
  rcases hc with hk | hk | hk | hk | hk | hk | hk <;> rw [hk] at hv ⊢
  ·exact yH S own r k0 k1 k2 k3 k4 k5 k6 _ k7 w hsz hle rfl hk hr (hid ⟨hv, hnums, he, hes⟩)
  ·exact yK S own r k0 k1 k2 k3 k4 k5 k6 _ k7 w hsz hle rfl hk hr (hid ⟨hv, hnums, he, hes⟩)
  ·exact yL S own r k0 k1 k2 k3 k4 k5 k6 _ k7 w hsz hle rfl hk hr (hid ⟨hv, hnums, he, hes⟩)
  ·exact yM S own r k0 k1 k2 k3 k4 k5 k6 _ k7 w hsz hle rfl hk hr (hid ⟨hv, hnums, he, hes⟩)
  ·exact yN S own r k0 k1 k2 k3 k4 k5 k6 _ k7 w hsz hle rfl hk hr (hid ⟨hv, hnums, he, hes⟩)
  ·exact yI S own r k0 k1 k2 k3 k4 k5 k6 _ k7 w hsz hle rfl hk hr (hid ⟨hv, hnums, he, hes⟩)
  ·exact yJ S own r k0 k1 k2 k3 k4 k5 k6 _ k7 w hsz hle rfl hk hr (hid ⟨hv, hnums, he, hes⟩)
 | false =>
  have ht : r.text = [] := by unfold Rec.text; rw [hr]; simp
  rw [ht]
  have hb0 : ∀ o, Below w.heap.size w (w.alloc o) := fun o => br.alloc nl o
  have HV := hid (And.intro hv hb0)
  have HR := hid hr
  clear hv hb0 he hes ht hr
  go_enter Tryz.func42, Tryz.ntmps42
  go_wp2_with fail
  refine (bZ S own r _ _ hsz (HV.out.1.below (HV.out.2 _) nl)).mono ?_
  rintro e w1 ⟨rfl, hb1⟩
  rw [HR.out]
  have HB := hid ((HV.out.2 _).trans (hb1.mono (by simp)))
  clear hb1
  go_wp2_with fail
  go_ret
  exact ⟨rfl, HB.out⟩
end Go.Proofs.YtlpgokcapdjgjaaGreatDoor
