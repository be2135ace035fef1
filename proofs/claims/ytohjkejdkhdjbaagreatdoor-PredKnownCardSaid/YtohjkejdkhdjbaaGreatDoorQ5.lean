/- The law PredTakes, walked. Ahead of it: Walks: the law's own 'same'. The chapter's examples: plain Lean. Walks: the chapter's examples, run. Walks: the law's own 'same', with all that it keeps. Walks: the program's take at any place, Take, Parse. Walks: the program's Take, Parse. -/
import Derived.Test.YtohjkejdkhdjbaaGreatDoorQS14
import Derived.Test.YtohjkejdkhdjbaaGreatDoorQW04l
import Derived.Test.YtohjkejdkhdjbaaGreatDoorQW04h
import Derived.Test.YtohjkejdkhdjbaaGreatDoorQ13
import Derived.Test.YtohjkejdkhdjbaaGreatDoorQEx05
import Derived.Test.YtohjkejdkhdjbaaGreatDoorQW04g
import Derived.Test.YtohjkejdkhdjbaaGreatDoorQW04n
import Derived.Test.YtohjkejdkhdjbaaGreatDoorQ4
import Derived.Test.YtohjkejdkhdjbaaGreatDoorQW05f
import Derived.Test.YtohjkejdkhdjbaaGreatDoorQW04f
import Derived.Deep.RegionHeld3
import Derived.Deep.DeepFit
namespace Go.Proofs.YtohjkejdkhdjbaaGreatDoor
open Go.RowKit Go
set_option linter.unusedVariables false
set_option linter.unusedSimpArgs false
set_option maxHeartbeats 1000000 in
set_option maxRecDepth 100000 in
theorem same_any (B N : Nat) (S S' : Nat → Prop) (own' : Bool) (hSB : ∀ b, S b → B ≤ b ∧ b < N) (p : Ex) (v u : Value) (m e : Int) (w : World) (hp : p.size ≤ 900) (hBN : B ≤ N) (hN : N ≤ w.heap.size)
    (hv : RepE w S true p v) (hu : RepE w S' own' p u) :
    Calls Tryz.prog 11 #[v, .int .i64 m, .int .i64 e, u, .int .i64 m, .int .i64 e] w fun r w' => r = .returned (.bool true) ∧ Below B w w' := by
  have hd := p.depth_le_size
  have hsm := Ex.same_refl p
  have te : (m == m) = true := by simp
  have te2 : (e == e) = true := by simp
  obtain ⟨k, a, b, ad, n, cap, rfl⟩ := hv.conc
  obtain ⟨k', a', b', ad', n', cap', rfl⟩ := hu.conc
  have hb0 : Below w.heap.size w ((w.alloc (.cells #[.int .i64 k, .int .u64 a, .int .u64 b, .slice ad n cap] 26)).alloc (.cells #[.int .i64 k', .int .u64 a', .int .u64 b', .slice ad' n' cap'] 32)) := ((Below.refl _ _).alloc (Nat.le_refl _) _).alloc (by simp) _
  have hv1 := hv.below hb0 (Nat.le_refl _)
  have hu1 := hu.below hb0 (Nat.le_refl _)
  have HH := Lib.hid (And.intro hv hb0)
  clear hv hu
  go_enter Tryz.func11, Tryz.ntmps11
  go_wp2_with fail
  obtain ⟨W, hW⟩ : ∃ W, W = ((w.alloc (.cells #[.int .i64 k, .int .u64 a, .int .u64 b, .slice ad n cap] 26)).alloc (.cells #[.int .i64 k', .int .u64 a', .int .u64 b', .slice ad' n' cap'] 32)) := ⟨_, rfl⟩
  have h0 : W.heap[w.heap.size]? = some (.cells #[.int .i64 k, .int .u64 a, .int .u64 b, .slice ad n cap] 26) := by rw [hW]; exact (heap_alloc_lt _ _ _ (by simp)).trans (heap_alloc_at _ _ _ rfl)
  have h1 : W.heap[w.heap.size + 1]? = some (.cells #[.int .i64 k', .int .u64 a', .int .u64 b', .slice ad' n' cap'] 32) := by rw [hW]; exact heap_alloc_at _ _ _ (by simp)
  rw [← hW] at hv1 hu1 hb0 ⊢
  have f0 : W.cell? ⟨w.heap.size, 0, none⟩ = some (.int .i64 k) := by rw [cell_of_row W _ 0 _ _ _ h0]; rfl
  have f1 : W.cell? ⟨w.heap.size, 1, none⟩ = some (.int .u64 a) := by rw [cell_of_row W _ 1 _ _ _ h0]; rfl
  have f2 : W.cell? ⟨w.heap.size, 2, none⟩ = some (.int .u64 b) := by rw [cell_of_row W _ 2 _ _ _ h0]; rfl
  have f3 : W.cell? ⟨w.heap.size, 3, none⟩ = some (.slice ad n cap) := by rw [cell_of_row W _ 3 _ _ _ h0]; rfl
  have g0 : W.cell? ⟨w.heap.size + 1, 0, none⟩ = some (.int .i64 k') := by rw [cell_of_row W _ 0 _ _ _ h1]; rfl
  have g1 : W.cell? ⟨w.heap.size + 1, 1, none⟩ = some (.int .u64 a') := by rw [cell_of_row W _ 1 _ _ _ h1]; rfl
  have g2 : W.cell? ⟨w.heap.size + 1, 2, none⟩ = some (.int .u64 b') := by rw [cell_of_row W _ 2 _ _ _ h1]; rfl
  have g3 : W.cell? ⟨w.heap.size + 1, 3, none⟩ = some (.slice ad' n' cap') := by rw [cell_of_row W _ 3 _ _ _ h1]; rfl
  have l0 : w.heap.size < W.heap.size := (Array.getElem?_eq_some_iff.1 h0).1
  have l1 : w.heap.size + 1 < W.heap.size := (Array.getElem?_eq_some_iff.1 h1).1
  clear hW h0 h1
  go_region_held3 (fun w' => w'.cell? ⟨w.heap.size, 0, none⟩ = some (.int .i64 k) ∧ w'.cell? ⟨w.heap.size, 1, none⟩ = some (.int .u64 a) ∧ w'.cell? ⟨w.heap.size, 2, none⟩ = some (.int .u64 b) ∧ w'.cell? ⟨w.heap.size, 3, none⟩ = some (.slice ad n cap) ∧
      w'.cell? ⟨w.heap.size + 1, 0, none⟩ = some (.int .i64 k') ∧ w'.cell? ⟨w.heap.size + 1, 1, none⟩ = some (.int .u64 a') ∧ w'.cell? ⟨w.heap.size + 1, 2, none⟩ = some (.int .u64 b') ∧ w'.cell? ⟨w.heap.size + 1, 3, none⟩ = some (.slice ad' n' cap'))
    (first
      | exact ⟨(hb3.cell lw0).trans ((hb2.cell l0).trans f0), (hb3.cell lw0).trans ((hb2.cell l0).trans f1), (hb3.cell lw0).trans ((hb2.cell l0).trans f2), (hb3.cell lw0).trans ((hb2.cell l0).trans f3), (hb3.cell lw1).trans ((hb2.cell l1).trans g0), (hb3.cell lw1).trans ((hb2.cell l1).trans g1), (hb3.cell lw1).trans ((hb2.cell l1).trans g2), (hb3.cell lw1).trans ((hb2.cell l1).trans g3)⟩
      | exact ⟨(hb2.cell l0).trans f0, (hb2.cell l0).trans f1, (hb2.cell l0).trans f2, (hb2.cell l0).trans f3, (hb2.cell l1).trans g0, (hb2.cell l1).trans g1, (hb2.cell l1).trans g2, (hb2.cell l1).trans g3⟩
      | go_keep)
    (first
      | (go_at_call 13; refine (docExpr_any p.depth _ _ p _ _ (Nat.le_refl _) (by omega) (by omega) (hv1.below (Below.refl _ _).drew (Nat.le_refl _))).mono ?_; rintro e w1 ⟨⟨vv, rfl, hvv⟩, hb2⟩; have lw0 := Nat.lt_of_lt_of_le l0 hb2.size; have lw1 := Nat.lt_of_lt_of_le l1 hb2.size)
      | (go_at_call 19; refine (refSame_any p.depth _ _ _ _ p p _ _ _ (Nat.le_refl _) (by omega) hvv ((hu1.below (Below.refl _ _).drew (Nat.le_refl _)).below hb2 (by first | exact Nat.le_refl _ | simp))).mono ?_; rintro e w2 ⟨rfl, hb3⟩; rw [hsm]))
  all_goals
    have hbW : Below W.heap.size W w2 := (Below.refl _ _).drew.trans (hb2.trans (hb3.mono hb2.size))
    have c0 := (hb3.cell lw0 (p := ⟨w.heap.size, 0, none⟩)).trans ((hb2.cell l0).trans f0)
    have c1 := (hb3.cell lw0 (p := ⟨w.heap.size, 1, none⟩)).trans ((hb2.cell l0).trans f1)
    have c2 := (hb3.cell lw0 (p := ⟨w.heap.size, 2, none⟩)).trans ((hb2.cell l0).trans f2)
    have c3 := (hb3.cell lw0 (p := ⟨w.heap.size, 3, none⟩)).trans ((hb2.cell l0).trans f3)
    have HS := Lib.hid (RepE.shape (hv1.below hbW (Nat.le_refl _)) p.depth (Nat.le_refl _))
    have hNw : N ≤ w2.heap.size := by have := hbW.size; omega
    have HB := Lib.hid (hb0.trans (hbW.mono (by have := hb0.size; omega)))
    have lq : w.heap.size < w2.heap.size := by have := hbW.size; omega
    clear hb2 hb3 hbW hvv hv1 hu1 f0 f1 f2 f3 g0 g1 g2 g3
    go_wp2_with fail
    refine (spoilExpr_any B N S hSB p.depth _ _ hBN hNw HS.out).mono ?_
    rintro e w3 ⟨rfl, hsp⟩
    go_wp2_with fail
    go_ret
    exact ⟨rfl, (HB.out.mono (by omega)).trans hsp.below⟩
end Go.Proofs.YtohjkejdkhdjbaaGreatDoor
namespace Go.Proofs.YtohjkejdkhdjbaaGreatDoor
open Go.RowKit Go
set_option linter.unusedVariables false
set_option linter.unusedSimpArgs false
def exW : Ex := .mk 6 0 0 [.mk 2 7 0 [], .mk 5 0 0 [.mk 4 3 1 []]]
theorem num1 (n : Nat) (h : n < 10) (r : List UInt8) (hr : ∀ c, r.head? = some c → isD c = false) : rdNum (UInt8.ofNat (48 + n) :: r) = some (n, r) := by
  have h1 := rdNum_told n (by omega) r hr
  rwa [Lib.decDigits_one h] at h1
theorem rdText_1 : rdText [38, 40, 120, 60, 61, 55, 44, 33, 118, 37, 51, 61, 49, 41] = some exW := by
  have a := num1 7 (by omega) [44, 33, 118, 37, 51, 61, 49, 41] (by intro c hc; simp at hc; subst hc; rfl)
  have b := num1 3 (by omega) [61, 49, 41] (by intro c hc; simp at hc; subst hc; rfl)
  have c := num1 1 (by omega) [41] (by intro c hc; simp at hc; subst hc; rfl)
  simp only [show UInt8.ofNat (48 + 7) = 55 from rfl, show UInt8.ofNat (48 + 3) = 51 from rfl, show UInt8.ofNat (48 + 1) = 49 from rfl] at a b c
  simp [rdText, rfE, rfParts, rfLoop, pre, a, b, c, exW]
  decide
theorem rdText_2 : rdText [118, 37, 51, 61, 51] = none := by
  have b := num1 3 (by omega) [61, 51] (by intro c hc; simp at hc; subst hc; rfl)
  have c := num1 3 (by omega) [] (by intro c hc; simp at hc)
  simp only [show UInt8.ofNat (48 + 3) = 51 from rfl] at b c
  simp [rdText, rfE, rfParts, rfLoop, pre, b, c]
  decide
theorem rdText_3 : rdText [120, 60, 61, 48, 55] = none := by
  have b : rdNum [48, 55] = none := by
    cases h : rdNum [48, 55] with
    | none => rfl
    | some x =>
      obtain ⟨n, r⟩ := x
      obtain ⟨h1, h2, h3⟩ := rdNum_some h
      have h4 : Lib.decDigits n = [48, 55] := by
        have := takeWhile_append_of (Lib.decDigits n) r (decDigits_isD n) h3
        rw [← h1] at this
        rw [← this.1]; rfl
      have h5 := numOf_decDigits n
      rw [h4] at h5
      have h6 : n = 7 := by rw [← h5]; rfl
      subst h6
      rw [Lib.decDigits_one (by omega)] at h4
      cases h4
  simp [rdText, rfE, pre, b]
theorem rdText_4 : rdText [38, 40, 97, 108, 108, 44, 41] = none := by
  simp [rdText, rfE, rfParts, rfLoop, pre]
theorem exW_put : exW.put = [6, 2, 2, 7, 5, 4, 3, 1] := by decide
end Go.Proofs.YtohjkejdkhdjbaaGreatDoor
namespace Go.Proofs.YtohjkejdkhdjbaaGreatDoor
open Go.RowKit Go
set_option linter.unusedVariables false
set_option linter.unusedSimpArgs false
/-- pred.Read at a text whose answer is known. -/
theorem readAt (l : List UInt8) (o : Option Ex) (h : rdText l = o) (hl : l.length ≤ 50000) (w : World) (hL : Lv w.heap.size w) : Calls Tryz.prog 9 #[.string ⟨l.toArray⟩] w (ReadEnds o w) := by
  have h1 := predRead_any ⟨l.toArray⟩ w (by rw [← ba_size]; simp; omega) hL
  have h2 : (ByteArray.mk l.toArray).data.toList = l := by simp
  rw [h2, h] at h1
  exact h1
theorem readSome (l : List UInt8) (x : Ex) (h : rdText l = some x) (hl : l.length ≤ 50000) (w : World) (hL : Lv w.heap.size w) : Calls Tryz.prog 9 #[.string ⟨l.toArray⟩] w fun e w' => ∃ q0 q1 q2 q3 q4 q5, e = .returned (.tuple #[.agg #[.int .i64 q0, .int .u64 (q1 : Nat), .int .u64 (q2 : Nat), .slice q3 q4 q5], .int .i64 0]) ∧ RepE w' (fun b => w.heap.size ≤ b) true x (.agg #[.int .i64 q0, .int .u64 (q1 : Nat), .int .u64 (q2 : Nat), .slice q3 q4 q5]) ∧ Below w.heap.size w w' := by
  refine (readAt l _ h hl w hL).mono ?_
  rintro e w' ⟨v, rfl, hv, hb⟩
  have hv' : RepE w' (fun b => w.heap.size ≤ b) true x v := hv
  obtain ⟨q0, q1, q2, q3, q4, q5, rfl⟩ := hv'.conc
  exact ⟨q0, q1, q2, q3, q4, q5, rfl, hv', hb⟩
theorem readNone (l : List UInt8) (h : rdText l = none) (hl : l.length ≤ 50000) (w : World) (hL : Lv w.heap.size w) : Calls Tryz.prog 9 #[.string ⟨l.toArray⟩] w fun e w' => ∃ q0 q1 q2 q3 q4 q5, e = .returned (.tuple #[.agg #[.int .i64 q0, .int .u64 (q1 : Nat), .int .u64 (q2 : Nat), .slice q3 q4 q5], .int .i64 40]) ∧ Below w.heap.size w w' := by
  refine (readAt l _ h hl w hL).mono ?_
  rintro e w' ⟨v, rfl, hv, hb⟩
  obtain ⟨q0, q1, q2, q3, q4, q5, rfl⟩ := hv.conc
  exact ⟨q0, q1, q2, q3, q4, q5, rfl, hb⟩
set_option maxHeartbeats 1000000 in
set_option maxRecDepth 100000 in
theorem works_any (w : World) (hL : Lv w.heap.size w) : Calls Tryz.prog 8 #[] w fun e w' => e = .returned (.bool true) ∧ Below w.heap.size w w' := by
  have HL := Lib.hid hL
  clear hL
  go_enter Tryz.func8, Tryz.ntmps8
  go_wp2_with fail
  refine (readSome _ _ rdText_1 (by simp) _ HL.out).mono ?_
  rintro e w1 ⟨q0, q1, q2, q3, q4, q5, rfl, hv, hb1⟩
  have hA1 : Below w.heap.size w (w1.alloc (.cells #[.int .i64 q0, .int .u64 q1, .int .u64 q2, .slice q3 q4 q5] 26)) := hb1.alloc hb1.size _
  have HL1 := Lib.hid ((HL.out.below hA1).mono hA1.size)
  have H1 := Lib.hid (And.intro (hv.below ((Below.refl w1.heap.size w1).alloc (Nat.le_refl _) (.cells #[.int .i64 q0, .int .u64 q1, .int .u64 q2, .slice q3 q4 q5] 26)) (Nat.le_refl _)) (And.intro hA1 (heap_alloc_new w1 (.cells #[.int .i64 q0, .int .u64 q1, .int .u64 q2, .slice q3 q4 q5] 26))))
  have hz1 := hb1.size
  clear hv hb1 hA1
  go_wp2_with fail
  refine (readNone _ rdText_2 (by simp) _ HL1.out).mono ?_
  rintro e w2 ⟨r0, r1, r2, r3, r4, r5, rfl, hb2⟩
  have hz2 := hb2.size
  rw [World.size_alloc] at hz2
  have hA2 : Below (w1.heap.size + 1) (w1.alloc (.cells #[.int .i64 q0, .int .u64 q1, .int .u64 q2, .slice q3 q4 q5] 26)) (w2.alloc (.cells #[.int .i64 r0, .int .u64 r1, .int .u64 r2, .slice r3 r4 r5] 26)) := by rw [← World.size_alloc]; exact hb2.alloc hb2.size _
  have HL2 : Hid (Lv (w2.alloc (.cells #[.int .i64 r0, .int .u64 r1, .int .u64 r2, .slice r3 r4 r5] 26)).heap.size (w2.alloc (.cells #[.int .i64 r0, .int .u64 r1, .int .u64 r2, .slice r3 r4 r5] 26))) := Lib.hid (((HL1.out.below hb2).below ((Below.refl _ _).alloc hb2.size (.cells #[.int .i64 r0, .int .u64 r1, .int .u64 r2, .slice r3 r4 r5] 26))).mono (by simp; omega))
  have H2 := Lib.hid hA2
  clear hb2 hA2
  go_wp2_with fail
  refine (readNone _ rdText_3 (by simp) _ HL2.out).mono ?_
  rintro e w3 ⟨s0, s1, s2, s3, s4, s5, rfl, hb3⟩
  have hz3 := hb3.size
  rw [World.size_alloc] at hz3
  have hA3 : Below (w1.heap.size + 1) (w1.alloc (.cells #[.int .i64 q0, .int .u64 q1, .int .u64 q2, .slice q3 q4 q5] 26)) (w3.alloc (.cells #[.int .i64 s0, .int .u64 s1, .int .u64 s2, .slice s3 s4 s5] 26)) := H2.out.trans ((hb3.alloc hb3.size _).mono (by simp; omega))
  have HL3 : Hid (Lv (w3.alloc (.cells #[.int .i64 s0, .int .u64 s1, .int .u64 s2, .slice s3 s4 s5] 26)).heap.size (w3.alloc (.cells #[.int .i64 s0, .int .u64 s1, .int .u64 s2, .slice s3 s4 s5] 26))) := Lib.hid (((HL2.out.below hb3).below ((Below.refl _ _).alloc hb3.size (.cells #[.int .i64 s0, .int .u64 s1, .int .u64 s2, .slice s3 s4 s5] 26))).mono (by simp; omega))
  have H3 := Lib.hid hA3
  clear hb3 hA3
  go_wp2_with fail
  refine (readNone _ rdText_4 (by simp) _ HL3.out).mono ?_
  rintro e w4 ⟨t0, t1, t2, t3, t4, t5, rfl, hb4⟩
  have hz4 := hb4.size
  rw [World.size_alloc] at hz4
  have hA4 : Below (w1.heap.size + 1) (w1.alloc (.cells #[.int .i64 q0, .int .u64 q1, .int .u64 q2, .slice q3 q4 q5] 26)) (w4.alloc (.cells #[.int .i64 t0, .int .u64 t1, .int .u64 t2, .slice t3 t4 t5] 26)) := H3.out.trans ((hb4.alloc hb4.size _).mono (by simp; omega))
  have hh4 : (w4.alloc (.cells #[.int .i64 t0, .int .u64 t1, .int .u64 t2, .slice t3 t4 t5] 26)).heap[w1.heap.size]? = some (.cells #[.int .i64 q0, .int .u64 q1, .int .u64 q2, .slice q3 q4 q5] 26) := (hA4.block _ (by omega)).trans H1.out.2.2
  have hx4 := H1.out.1.below hA4 (by simp)
  have hB4 := H1.out.2.1.trans (hA4.mono (by omega))
  have hs4 : w1.heap.size < w4.heap.size := by omega
  have c4 : ∀ o, w4.cell? ⟨w1.heap.size, o, none⟩ = (#[.int .i64 q0, .int .u64 q1, .int .u64 q2, .slice q3 q4 q5] : Array Value)[o]? := fun o => cell_of_row w4 _ o _ _ _ ((heap_alloc_lt w4 (.cells #[.int .i64 t0, .int .u64 t1, .int .u64 t2, .slice t3 t4 t5] 26) _ hs4).symm.trans hh4)
  have H4 := Lib.hid (And.intro hx4 (And.intro hB4 hh4))
  clear hb4 hA4 hh4 hx4 hB4
  go_wp2_with fail
  refine (predPut_any _ _ exW _ _ (by decide) H4.out.1).mono ?_
  rintro e w5 ⟨bv, rfl, hown5, hb5⟩
  obtain ⟨ba, bc, rfl⟩ := owns_slice hown5
  have hz5 := hb5.size
  rw [World.size_alloc] at hz5
  have H5 := Lib.hid (And.intro (RepB.of_owns hown5) (And.intro (H4.out.1.below hb5 (Nat.le_refl _)) (And.intro (H4.out.2.1.trans (hb5.mono (by simp; omega))) ((hb5.block _ (by simp; omega)).trans H4.out.2.2))))
  have c5 : ∀ o, w5.cell? ⟨w1.heap.size, o, none⟩ = (#[.int .i64 q0, .int .u64 q1, .int .u64 q2, .slice q3 q4 q5] : Array Value)[o]? := fun o => cell_of_row w5 _ o _ _ _ H5.out.2.2.2
  clear hown5 hb5 c4
  go_wp2_with fail
  have hlit : RepB (w5.alloc (.cells #[.int .u8 6, .int .u8 2, .int .u8 2, .int .u8 7, .int .u8 5, .int .u8 4, .int .u8 3, .int .u8 1] 5)) (fun _ => True) true [6, 2, 2, 7, 5, 4, 3, 1] (.slice (some ⟨w5.heap.size, 0, none⟩) 8 8) := by
    have h := sl_lit w5 (fun _ => True) #[.int .u8 6, .int .u8 2, .int .u8 2, .int .u8 7, .int .u8 5, .int .u8 4, .int .u8 3, .int .u8 1] 5 8 8 (by simp) (by omega) trivial (by omega)
    unfold RepB
    simpa [bytes] using h
  have hb6 : Below w5.heap.size w5 (w5.alloc (.cells #[.int .u8 6, .int .u8 2, .int .u8 2, .int .u8 7, .int .u8 5, .int .u8 4, .int .u8 3, .int .u8 1] 5)) := (Below.refl _ _).alloc (Nat.le_refl _) _
  refine (sameBytes_any _ _ _ _ exW.put _ _ _ _ (Sl.below H5.out.1 (by omega) hb6 (Nat.le_refl _)) hlit).mono ?_
  rintro e w6 ⟨he6, hb7⟩
  rw [show decide (exW.put = [6, 2, 2, 7, 5, 4, 3, 1]) = true from by rw [exW_put]; rfl] at he6
  subst he6
  have hz6 := hb7.size
  rw [World.size_alloc] at hz6
  have hb67 := hb6.trans (hb7.mono (by simp))
  have H6 := Lib.hid (And.intro (H5.out.2.1.below hb67 (Nat.le_refl _)) (And.intro (H5.out.2.2.1.trans (hb67.mono (by omega))) ((hb67.block _ (by omega)).trans H5.out.2.2.2)))
  have c6 : ∀ o, w6.cell? ⟨w1.heap.size, o, none⟩ = (#[.int .i64 q0, .int .u64 q1, .int .u64 q2, .slice q3 q4 q5] : Array Value)[o]? := fun o => cell_of_row w6 _ o _ _ _ H6.out.2.2
  clear hlit hb6 hb7 hb67 c5
  go_wp2_with fail
  refine (predHolds_any _ _ exW _ 7 5 _ (by decide) (by omega) (by omega) H6.out.1).mono ?_
  rintro e w7 ⟨he7, hb7⟩
  rw [show exW.holds 7 5 = true from by decide] at he7
  subst he7
  have hz7 := hb7.size
  have H7 := Lib.hid (And.intro (H6.out.1.below hb7 (Nat.le_refl _)) (And.intro (H6.out.2.1.trans (hb7.mono (by omega))) ((hb7.block _ (by omega)).trans H6.out.2.2)))
  have c7 : ∀ o, w7.cell? ⟨w1.heap.size, o, none⟩ = (#[.int .i64 q0, .int .u64 q1, .int .u64 q2, .slice q3 q4 q5] : Array Value)[o]? := fun o => cell_of_row w7 _ o _ _ _ H7.out.2.2
  clear hb7 c6
  go_wp2_with fail
  refine (predHolds_any _ _ exW _ 7 4 _ (by decide) (by omega) (by omega) H7.out.1).mono ?_
  rintro e w8 ⟨he8, hb8⟩
  rw [show exW.holds 7 4 = false from by decide] at he8
  subst he8
  have hz8 := hb8.size
  have H8 := Lib.hid (And.intro (H7.out.1.below hb8 (Nat.le_refl _)) (And.intro (H7.out.2.1.trans (hb8.mono (by omega))) ((hb8.block _ (by omega)).trans H7.out.2.2)))
  have c8 : ∀ o, w8.cell? ⟨w1.heap.size, o, none⟩ = (#[.int .i64 q0, .int .u64 q1, .int .u64 q2, .slice q3 q4 q5] : Array Value)[o]? := fun o => cell_of_row w8 _ o _ _ _ H8.out.2.2
  clear hb8 c7
  go_wp2_with fail
  refine (predHolds_any _ _ exW _ 8 5 _ (by decide) (by omega) (by omega) H8.out.1).mono ?_
  rintro e w9 ⟨he9, hb9⟩
  rw [show exW.holds 8 5 = false from by decide] at he9
  subst he9
  have hz9 := hb9.size
  have H9 := Lib.hid (And.intro (H8.out.1.below hb9 (Nat.le_refl _)) (And.intro (H8.out.2.1.trans (hb9.mono (by omega))) ((hb9.block _ (by omega)).trans H8.out.2.2)))
  have c9 : ∀ o, w9.cell? ⟨w1.heap.size, o, none⟩ = (#[.int .i64 q0, .int .u64 q1, .int .u64 q2, .slice q3 q4 q5] : Array Value)[o]? := fun o => cell_of_row w9 _ o _ _ _ H9.out.2.2
  clear hb9 c8
  go_wp2_with fail
  refine (predDepth_any exW.depth _ _ exW _ _ (Nat.le_refl _) (by decide) H9.out.1).mono ?_
  rintro e wa ⟨hea, hba⟩
  rw [show exW.depth = 3 from by decide] at hea
  subst hea
  have hza := hba.size
  have HA := Lib.hid (And.intro (H9.out.1.below hba (Nat.le_refl _)) (And.intro (H9.out.2.1.trans (hba.mono (by omega))) ((hba.block _ (by omega)).trans H9.out.2.2)))
  have ca : ∀ o, wa.cell? ⟨w1.heap.size, o, none⟩ = (#[.int .i64 q0, .int .u64 q1, .int .u64 q2, .slice q3 q4 q5] : Array Value)[o]? := fun o => cell_of_row wa _ o _ _ _ HA.out.2.2
  clear hba c9
  go_wp2_with fail
  refine (predNodes_any exW.size _ _ exW _ _ (Nat.le_refl _) (by decide) HA.out.1).mono ?_
  rintro e wb ⟨heb, hbb⟩
  rw [show exW.size = 4 from by decide] at heb
  subst heb
  go_wp2_with fail
  go_ret
  exact ⟨rfl, HA.out.2.1.trans (hbb.mono (by omega))⟩
end Go.Proofs.YtohjkejdkhdjbaaGreatDoor
namespace Go.Proofs.YtohjkejdkhdjbaaGreatDoor
open Go.RowKit Go
set_option linter.unusedVariables false
set_option linter.unusedSimpArgs false
set_option maxHeartbeats 1000000 in
set_option maxRecDepth 100000 in
theorem same_keep (B N : Nat) (S S' : Nat → Prop) (own' : Bool) (hSB : ∀ b, S b → B ≤ b ∧ b < N) (p : Ex) (v u : Value) (m e : Int) (w : World) (hp : p.size ≤ 900) (hBN : B ≤ N) (hN : N ≤ w.heap.size)
    (hv : RepE w S true p v) (hu : RepE w S' own' p u) :
    Calls Tryz.prog 11 #[v, .int .i64 m, .int .i64 e, u, .int .i64 m, .int .i64 e] w fun r w' => r = .returned (.bool true) ∧ Below B w w' ∧ Keeps (fun b => ¬ S b) w w' := by
  have hd := p.depth_le_size
  have hsm := Ex.same_refl p
  have te : (m == m) = true := by simp
  have te2 : (e == e) = true := by simp
  obtain ⟨k, a, b, ad, n, cap, rfl⟩ := hv.conc
  obtain ⟨k', a', b', ad', n', cap', rfl⟩ := hu.conc
  have hb0 : Below w.heap.size w ((w.alloc (.cells #[.int .i64 k, .int .u64 a, .int .u64 b, .slice ad n cap] 26)).alloc (.cells #[.int .i64 k', .int .u64 a', .int .u64 b', .slice ad' n' cap'] 32)) := ((Below.refl _ _).alloc (Nat.le_refl _) _).alloc (by simp) _
  have hv1 := hv.below hb0 (Nat.le_refl _)
  have hu1 := hu.below hb0 (Nat.le_refl _)
  have HH := Lib.hid (And.intro hv hb0)
  clear hv hu
  go_enter Tryz.func11, Tryz.ntmps11
  go_wp2_with fail
  obtain ⟨W, hW⟩ : ∃ W, W = ((w.alloc (.cells #[.int .i64 k, .int .u64 a, .int .u64 b, .slice ad n cap] 26)).alloc (.cells #[.int .i64 k', .int .u64 a', .int .u64 b', .slice ad' n' cap'] 32)) := ⟨_, rfl⟩
  have h0 : W.heap[w.heap.size]? = some (.cells #[.int .i64 k, .int .u64 a, .int .u64 b, .slice ad n cap] 26) := by rw [hW]; exact (heap_alloc_lt _ _ _ (by simp)).trans (heap_alloc_at _ _ _ rfl)
  have h1 : W.heap[w.heap.size + 1]? = some (.cells #[.int .i64 k', .int .u64 a', .int .u64 b', .slice ad' n' cap'] 32) := by rw [hW]; exact heap_alloc_at _ _ _ (by simp)
  rw [← hW] at hv1 hu1 hb0 ⊢
  have f0 : W.cell? ⟨w.heap.size, 0, none⟩ = some (.int .i64 k) := by rw [cell_of_row W _ 0 _ _ _ h0]; rfl
  have f1 : W.cell? ⟨w.heap.size, 1, none⟩ = some (.int .u64 a) := by rw [cell_of_row W _ 1 _ _ _ h0]; rfl
  have f2 : W.cell? ⟨w.heap.size, 2, none⟩ = some (.int .u64 b) := by rw [cell_of_row W _ 2 _ _ _ h0]; rfl
  have f3 : W.cell? ⟨w.heap.size, 3, none⟩ = some (.slice ad n cap) := by rw [cell_of_row W _ 3 _ _ _ h0]; rfl
  have g0 : W.cell? ⟨w.heap.size + 1, 0, none⟩ = some (.int .i64 k') := by rw [cell_of_row W _ 0 _ _ _ h1]; rfl
  have g1 : W.cell? ⟨w.heap.size + 1, 1, none⟩ = some (.int .u64 a') := by rw [cell_of_row W _ 1 _ _ _ h1]; rfl
  have g2 : W.cell? ⟨w.heap.size + 1, 2, none⟩ = some (.int .u64 b') := by rw [cell_of_row W _ 2 _ _ _ h1]; rfl
  have g3 : W.cell? ⟨w.heap.size + 1, 3, none⟩ = some (.slice ad' n' cap') := by rw [cell_of_row W _ 3 _ _ _ h1]; rfl
  have l0 : w.heap.size < W.heap.size := (Array.getElem?_eq_some_iff.1 h0).1
  have l1 : w.heap.size + 1 < W.heap.size := (Array.getElem?_eq_some_iff.1 h1).1
  clear hW h0 h1
  go_region_held3 (fun w' => w'.cell? ⟨w.heap.size, 0, none⟩ = some (.int .i64 k) ∧ w'.cell? ⟨w.heap.size, 1, none⟩ = some (.int .u64 a) ∧ w'.cell? ⟨w.heap.size, 2, none⟩ = some (.int .u64 b) ∧ w'.cell? ⟨w.heap.size, 3, none⟩ = some (.slice ad n cap) ∧
      w'.cell? ⟨w.heap.size + 1, 0, none⟩ = some (.int .i64 k') ∧ w'.cell? ⟨w.heap.size + 1, 1, none⟩ = some (.int .u64 a') ∧ w'.cell? ⟨w.heap.size + 1, 2, none⟩ = some (.int .u64 b') ∧ w'.cell? ⟨w.heap.size + 1, 3, none⟩ = some (.slice ad' n' cap'))
    (first
      | exact ⟨(hb3.cell lw0).trans ((hb2.cell l0).trans f0), (hb3.cell lw0).trans ((hb2.cell l0).trans f1), (hb3.cell lw0).trans ((hb2.cell l0).trans f2), (hb3.cell lw0).trans ((hb2.cell l0).trans f3), (hb3.cell lw1).trans ((hb2.cell l1).trans g0), (hb3.cell lw1).trans ((hb2.cell l1).trans g1), (hb3.cell lw1).trans ((hb2.cell l1).trans g2), (hb3.cell lw1).trans ((hb2.cell l1).trans g3)⟩
      | exact ⟨(hb2.cell l0).trans f0, (hb2.cell l0).trans f1, (hb2.cell l0).trans f2, (hb2.cell l0).trans f3, (hb2.cell l1).trans g0, (hb2.cell l1).trans g1, (hb2.cell l1).trans g2, (hb2.cell l1).trans g3⟩
      | go_keep)
    (first
      | (go_at_call 13; refine (docExpr_any p.depth _ _ p _ _ (Nat.le_refl _) (by omega) (by omega) (hv1.below (Below.refl _ _).drew (Nat.le_refl _))).mono ?_; rintro e w1 ⟨⟨vv, rfl, hvv⟩, hb2⟩; have lw0 := Nat.lt_of_lt_of_le l0 hb2.size; have lw1 := Nat.lt_of_lt_of_le l1 hb2.size)
      | (go_at_call 19; refine (refSame_any p.depth _ _ _ _ p p _ _ _ (Nat.le_refl _) (by omega) hvv ((hu1.below (Below.refl _ _).drew (Nat.le_refl _)).below hb2 (by first | exact Nat.le_refl _ | simp))).mono ?_; rintro e w2 ⟨rfl, hb3⟩; rw [hsm]))
  all_goals
    have hbW : Below W.heap.size W w2 := (Below.refl _ _).drew.trans (hb2.trans (hb3.mono hb2.size))
    have c0 := (hb3.cell lw0 (p := ⟨w.heap.size, 0, none⟩)).trans ((hb2.cell l0).trans f0)
    have c1 := (hb3.cell lw0 (p := ⟨w.heap.size, 1, none⟩)).trans ((hb2.cell l0).trans f1)
    have c2 := (hb3.cell lw0 (p := ⟨w.heap.size, 2, none⟩)).trans ((hb2.cell l0).trans f2)
    have c3 := (hb3.cell lw0 (p := ⟨w.heap.size, 3, none⟩)).trans ((hb2.cell l0).trans f3)
    have HS := Lib.hid (RepE.shape (hv1.below hbW (Nat.le_refl _)) p.depth (Nat.le_refl _))
    have hNw : N ≤ w2.heap.size := by have := hbW.size; omega
    have HB := Lib.hid (hb0.trans (hbW.mono (by have := hb0.size; omega)))
    have lq : w.heap.size < w2.heap.size := by have := hbW.size; omega
    clear hb2 hb3 hbW hvv hv1 hu1 f0 f1 f2 f3 g0 g1 g2 g3
    go_wp2_with fail
    refine (spoilExpr_any B N S hSB p.depth _ _ hBN hNw HS.out).mono ?_
    rintro e w3 ⟨rfl, hsp⟩
    go_wp2_with fail
    go_ret
    exact ⟨rfl, (HB.out.mono (by omega)).trans hsp.below, (Below.keeps HB.out (Nat.le_refl _) _).trans HB.out.size hsp.keeps⟩
end Go.Proofs.YtohjkejdkhdjbaaGreatDoor
namespace Go.Proofs.YtohjkejdkhdjbaaGreatDoor
open Go.RowKit Go
set_option linter.unusedVariables false
set_option linter.unusedSimpArgs false
set_option maxHeartbeats 1000000 in
set_option maxRecDepth 100000 in
/-- No byte is left, no level, or no node. -/
theorem tkr_none (d : Nat) (tb rb a n : Nat) (l : List UInt8) (sv : Value) (w : World) (hrt : rb < tb) (hn : n ≤ 32) (hv : Vr w rb a 0 l sv) (ht : Tk w tb rb n) (o : Option (Ex × List UInt8)) (ho : ∀ e r, o = some (e, r) → n < e.size)
    (hc : a = l.length ∨ d = 0 ∨ n = 0) : Calls Tryz.prog 55 #[.pointer (some ⟨tb, 0, none⟩), .int .i64 d] w (TrEnds tb rb l sv n o w) := by
  have hlt := ht.lt
  have hal := hv.2.2.1
  have hba : Below w.heap.size w (w.alloc (.cells #[.int .i64 0, .int .u64 0, .int .u64 0, .slice none 0 0] 26)) := (Below.refl _ _).alloc (Nat.le_refl _) _
  have HV := Lib.hid (hv.below hba)
  have HT := Lib.hid (ht.keep (hba.block _ hlt))
  obtain ⟨c0, c1, f⟩ := (ht.keep (hba.block _ hlt)).cells
  have HB := Lib.hid hba
  have HO := Lib.hid ho
  clear hv ht hba f ho
  go_enter Tryz.func55, Tryz.ntmps55
  go_wp2_with fail
  refine (vrRaw_any rb a 1 l sv _ HV.out (by omega)).mono ?_
  rintro r w1 ⟨v, pp, a', e', rfl, hv1, hg1, hown1, hyes, hno⟩
  have hlta : tb < (w.alloc (.cells #[.int .i64 0, .int .u64 0, .int .u64 0, .slice none 0 0] 26)).heap.size := by simp; omega
  have hz1 := hg1.size
  simp only [World.size_alloc] at hz1
  have ht1 := HT.out.keep (hg1.keep tb hlta (by omega))
  have hbx1 : w1.heap[w.heap.size]? = some (.cells #[.int .i64 0, .int .u64 0, .int .u64 0, .slice none 0 0] 26 (0, 0)) := (hg1.keep _ (by simp) (by have := HV.out.lt; omega)).trans (heap_alloc_at _ _ _ rfl)
  have hr1 : Rk (fun b => b = rb ∨ b = tb) w w1 := (Rk.of_below HB.out).trans' ⟨hg1.os, hg1.tape, hg1.output, hg1.size, fun b hb hn => hg1.keep b hb hn⟩ (fun i _ h => Or.inl h)
  clear c0 c1
  obtain ⟨c0, c1, f⟩ := ht1.cells
  have f1 := f 1
  have hl1 : tb < w1.heap.size := ht1.lt
  obtain ⟨sa, sc, rfl⟩ := owns_slice hown1
  have hv2 : Vr (w1.setCell ⟨tb, 1, none⟩ (.int .i64 ((n : Int) - 1))) rb a' e' l sv := hv1.keep (fun b hb => Below.heap_setCell _ _ _ _ (by simp; omega))
  have ht2 : Tk (w1.setCell ⟨tb, 1, none⟩ (.int .i64 ((n : Int) - 1))) tb rb ((n : Int) - 1) := heap_set_at ht1 (by simp)
  have hbx2 : (w1.setCell ⟨tb, 1, none⟩ (.int .i64 ((n : Int) - 1))).heap[w.heap.size]? = some (.cells #[.int .i64 0, .int .u64 0, .int .u64 0, .slice none 0 0] 26 (0, 0)) := (Below.heap_setCell _ _ _ _ (by simp; omega)).trans hbx1
  have hr2 : Rk (fun b => b = rb ∨ b = tb) w (w1.setCell ⟨tb, 1, none⟩ (.int .i64 ((n : Int) - 1))) := hr1.setCell tb (Or.inr (Or.inr rfl)) _ _
  have hend : TrEnds tb rb l sv n o w (.returned (.tuple #[.agg #[.int .i64 0, .int .u64 0, .int .u64 0, .slice none 0 0], .bool false])) ((w1.setCell ⟨tb, 1, none⟩ (.int .i64 ((n : Int) - 1))).setRow w.heap.size #[.int .i64 0, .int .u64 0, .int .u64 0, .slice none 0 0]) :=
    ⟨.zero, _, a', e', (n : Int) - 1, false, rfl, rep_leaf (by omega) (by omega) (by omega) (by omega), hv2.keep (fun b hb => setRow_other _ _ _ _ (by omega)), ht2.keep (setRow_other _ _ _ _ (by omega)), hr2.setRow _ (Or.inl (Nat.le_refl _)) _, (fun h => by cases h), fun _ => HO.out⟩
  have hpl : pp.length = 0 ∨ pp.length = 1 := by
    by_cases h : 1 ≤ l.length - a
    · right; rw [(hyes h).2.1]; simp; omega
    · left; rw [(hno h).2.1]; rfl
  have hpa : a = l.length → pp.length = 0 := fun h => by rw [(hno (by omega)).2.1]; rfl
  have x0 : w1.cell? ⟨w.heap.size, 0, none⟩ = some (.int .i64 0) := by rw [cell_of_row w1 _ 0 _ _ _ hbx1]; rfl
  have HE := Lib.hid (And.intro hend hbx2)
  have hne : ¬ w.heap.size = tb := by omega
  have hne' : ¬ tb = w.heap.size := by omega
  have c3 : ∀ o, (w1.setCell ⟨tb, 1, none⟩ (.int .i64 ((n : Int) - 1))).cell? ⟨w.heap.size, o, none⟩ = (#[.int .i64 0, .int .u64 0, .int .u64 0, .slice none 0 0] : Array Value)[o]? := fun o => cell_of_row _ _ o _ _ _ hbx2
  have hl3 : w.heap.size < w1.heap.size := by omega
  clear hend hbx2 hr1 hr2 hv1 hv2 ht1 ht2 hg1 hown1 hyes hno f hbx1 x0
  have hcc : pp.length = 0 ∨ (pp.length = 1 ∧ d = 0) ∨ (pp.length = 1 ∧ 0 < d ∧ n = 0) := by
    rcases hpl with h | h
    · exact Or.inl h
    · rcases hc with h1 | h1 | h1
      · exact Or.inl (hpa h1)
      · exact Or.inr (Or.inl ⟨h, h1⟩)
      · rcases Nat.eq_zero_or_pos d with h2 | h2
        · exact Or.inr (Or.inl ⟨h, h2⟩)
        · exact Or.inr (Or.inr ⟨h, h2, h1⟩)
  clear hc hpa hpl
  rcases hcc with h | ⟨h, rfl⟩ | ⟨h, hd0, hn0⟩
  · rw [h]
    clear h
    go_wp2_with (refine wpList_store_row rfl 26 (.tmp 4) (.tmp 39) rfl rfl w.heap.size rfl _ rfl 26 #[.int .i64 0, .int .u64 0, .int .u64 0, .slice none 0 0] HE.out.2 (by kernel_rfl) rfl (by simp [Value.oneCell']) ?_)
    exact bodyPost_ret (v := .tuple #[.agg #[.int .i64 0, .int .u64 0, .int .u64 0, .slice none 0 0], .bool false]) (results_row2 rfl _ _ w.heap.size 26 _ _ _ _ rfl (setRow_heap _ _ _ _ _ _ HE.out.2) Tryz.underlying26 rfl (by kernel_rfl) rfl) rfl HE.out.1
  · rw [h]
    clear h
    go_wp2_with (refine wpList_store_row rfl 26 (.tmp 4) (.tmp 39) rfl rfl w.heap.size rfl _ rfl 26 #[.int .i64 0, .int .u64 0, .int .u64 0, .slice none 0 0] HE.out.2 (by kernel_rfl) rfl (by simp [Value.oneCell']) ?_)
    exact bodyPost_ret (v := .tuple #[.agg #[.int .i64 0, .int .u64 0, .int .u64 0, .slice none 0 0], .bool false]) (results_row2 rfl _ _ w.heap.size 26 _ _ _ _ rfl (setRow_heap _ _ _ _ _ _ HE.out.2) Tryz.underlying26 rfl (by kernel_rfl) rfl) rfl HE.out.1
  · rw [h]
    clear h
    have t0 : ((d : Int) == 0) = false := by simp; omega
    have t1 : decide ((n : Int) - 1 < 0) = true := by simp; omega
    clear hn0
    go_wp2_with (refine wpList_store_row rfl 26 (.tmp 4) (.tmp 39) rfl rfl w.heap.size rfl _ rfl 26 #[.int .i64 0, .int .u64 0, .int .u64 0, .slice none 0 0] HE.out.2 (by kernel_rfl) rfl (by simp [Value.oneCell']) ?_)
    exact bodyPost_ret (v := .tuple #[.agg #[.int .i64 0, .int .u64 0, .int .u64 0, .slice none 0 0], .bool false]) (results_row2 rfl _ _ w.heap.size 26 _ _ _ _ rfl (setRow_heap _ _ _ _ _ _ HE.out.2) Tryz.underlying26 rfl (by kernel_rfl) rfl) rfl HE.out.1
set_option maxHeartbeats 4000000 in
set_option maxRecDepth 100000 in
theorem tkr_bad (d : Nat) (tb rb a n : Nat) (l : List UInt8) (sv : Value) (w : World) (hrt : rb < tb) (hn : n ≤ 32) (hv : Vr w rb a 0 l sv) (ht : Tk w tb rb n) (hn1 : 1 ≤ n) (ha : a < l.length) (hk1 : ¬ (1 ≤ at8 l a ∧ at8 l a ≤ 7)) :
    Calls Tryz.prog 55 #[.pointer (some ⟨tb, 0, none⟩), .int .i64 ((d : Int) + 1)] w (TrEnds tb rb l sv n (tkE (d + 1) (l.drop a)) w) := by
  obtain ⟨k, hk⟩ : ∃ k, k = at8 l a := ⟨_, rfl⟩
  rw [← hk] at hk1
  have hk256 : k < 256 := by rw [hk]; exact at8_lt _ _
  have hlt := ht.lt
  have hba : Below w.heap.size w (w.alloc (.cells #[.int .i64 0, .int .u64 0, .int .u64 0, .slice none 0 0] 26)) := (Below.refl _ _).alloc (Nat.le_refl _) _
  have HV := Lib.hid (hv.below hba)
  have HT := Lib.hid (ht.keep (hba.block _ hlt))
  obtain ⟨c0, c1, f⟩ := (ht.keep (hba.block _ hlt)).cells
  have HB := Lib.hid hba
  have HK := Lib.hid hk
  have t0 : (((d : Int) + 1) == 0) = false := by simp; omega
  clear hv ht hba f hk
  go_enter Tryz.func55, Tryz.ntmps55
  go_wp2_with fail
  refine (vrRaw_any rb a 1 l sv _ HV.out (by omega)).mono ?_
  rintro r w1 ⟨v, pp, a', e', rfl, hv1, hg1, hown1, hyes, _⟩
  obtain ⟨rfl, hpp, rfl⟩ := hyes (by omega)
  obtain ⟨bb, bo, bcap, rfl, g, hbb⟩ : ∃ bb bo cap, v = .slice (some ⟨bb, bo, none⟩) 1 cap ∧ w1.cell? ⟨bb, bo, none⟩ = some (.int .u8 (k : Nat)) ∧ w.heap.size + 1 ≤ bb := by
    have hp1 : pp = [l[a]] := by rw [hpp, List.drop_eq_getElem_cons ha]; rfl
    subst hp1
    have hrb := RepB.of_owns hown1
    obtain ⟨_, ad, cap, rfl, _⟩ := hrb.shape
    obtain ⟨bl, off, rfl, ⟨_, h4⟩, h3⟩ := RepB.at8 (j := 0) hrb (by simp)
    refine ⟨bl, off, cap, rfl, ?_, by simpa using h4⟩
    rw [show off = off + 0 from rfl, h3, HK.out, at8_eq l a ha]; rfl
  have hlta : tb < (w.alloc (.cells #[.int .i64 0, .int .u64 0, .int .u64 0, .slice none 0 0] 26)).heap.size := by simp; omega
  have hz1 := hg1.size
  simp only [World.size_alloc] at hz1
  have ht1 := HT.out.keep (hg1.keep tb hlta (by omega))
  have hbx1 : w1.heap[w.heap.size]? = some (.cells #[.int .i64 0, .int .u64 0, .int .u64 0, .slice none 0 0] 26 (0, 0)) := (hg1.keep _ (by simp) (by have := HV.out.lt; omega)).trans (heap_alloc_at _ _ _ rfl)
  have hr1 : Rk (fun b => b = rb ∨ b = tb) w w1 := (Rk.of_below HB.out).trans' ⟨hg1.os, hg1.tape, hg1.output, hg1.size, fun b hb hn => hg1.keep b hb hn⟩ (fun i _ h => Or.inl h)
  clear c0 c1
  obtain ⟨c0, c1, f⟩ := ht1.cells
  have f1 := f 1
  have hl1 : tb < w1.heap.size := ht1.lt
  have hbl := World.block_lt_of_cell? w1 _ g
  have hnb : ¬ bb = tb := by omega
  have hnb' : ¬ tb = bb := by omega
  have H1 := Lib.hid (And.intro ht1 (And.intro hv1 (And.intro hbx1 (And.intro hr1 hbl))))
  clear ht1 hv1 hbx1 hr1 hg1 f hown1 hyes hpp
  have t1 : decide ((n : Int) - 1 < 0) = false := by simp; omega
  go_wp2_with fail
  have hv2 : Vr (w1.setCell ⟨tb, 1, none⟩ (.int .i64 ((n : Int) - 1))) rb (a + 1) 0 l sv := H1.out.2.1.keep (fun b hb => Below.heap_setCell _ _ _ _ (by simp; omega))
  have ht2 : Tk (w1.setCell ⟨tb, 1, none⟩ (.int .i64 ((n : Int) - 1))) tb rb ((n : Int) - 1) := heap_set_at H1.out.1 (by simp)
  have hbx2 : (w1.setCell ⟨tb, 1, none⟩ (.int .i64 ((n : Int) - 1))).heap[w.heap.size]? = some (.cells #[.int .i64 0, .int .u64 0, .int .u64 0, .slice none 0 0] 26 (0, 0)) := (Below.heap_setCell _ _ _ _ (by simp; omega)).trans H1.out.2.2.1
  have hr2 : Rk (fun b => b = rb ∨ b = tb) w (w1.setCell ⟨tb, 1, none⟩ (.int .i64 ((n : Int) - 1))) := H1.out.2.2.2.1.setCell tb (Or.inr (Or.inr rfl)) _ _
  have g2 : (w1.setCell ⟨tb, 1, none⟩ (.int .i64 ((n : Int) - 1))).cell? ⟨bb, bo, none⟩ = some (.int .u8 (k : Nat)) := by rw [World.cell?_setCell_other _ _ _ _ (fun e => hnb' (congrArg Addr.block e))]; exact g
  have hz2 : (w1.setCell ⟨tb, 1, none⟩ (.int .i64 ((n : Int) - 1))).heap.size = w1.heap.size := by simp
  generalize w1.setCell ⟨tb, 1, none⟩ (.int .i64 ((n : Int) - 1)) = W2 at hv2 ht2 hbx2 hr2 g2 hz2 ⊢
  refine (predOf_any (k : Nat) _ (by omega) (by omega)).mono ?_
  rintro e2 w3 ⟨hin, hout, hb3⟩
  have he := hout (fun h => hk1 ⟨by omega, by omega⟩)
  subst he
  clear hin hout
  have hz3 := hb3.size
  have hpl3 : w.heap.size < w3.heap.size := by omega
  have hbq : Below W2.heap.size W2 (w3.alloc (.cells #[.int .i64 0, .int .i64 0, .int .i64 0, .nilFunc] 102)) := hb3.alloc hz3 _
  have hbx4 := (hbq.block w.heap.size (by omega)).trans hbx2
  have hend : TrEnds tb rb l sv n (tkE (d + 1) (l.drop a)) w (.returned (.tuple #[.agg #[.int .i64 0, .int .u64 0, .int .u64 0, .slice none 0 0], .bool false])) ((w3.alloc (.cells #[.int .i64 0, .int .i64 0, .int .i64 0, .nilFunc] 102)).setRow w.heap.size #[.int .i64 0, .int .u64 0, .int .u64 0, .slice none 0 0]) :=
    ⟨.zero, _, a + 1, 0, (n : Int) - 1, false, rfl, rep_leaf (by omega) (by omega) (by omega) (by omega), (hv2.below hbq).keep (fun b hb => setRow_other _ _ _ _ (by omega)), (ht2.keep (hbq.block _ ht2.lt)).keep (setRow_other _ _ _ _ (by omega)), (hr2.trans (Rk.of_below hbq)).setRow _ (Or.inl (Nat.le_refl _)) _, (fun h => by cases h), fun _ e r h => by
      rw [List.drop_eq_getElem_cons ha, tkE, if_neg (by rw [← at8_eq l a ha, ← HK.out]; exact hk1)] at h; cases h⟩
  have c3 : ∀ o, w3.cell? ⟨w.heap.size, o, none⟩ = (#[.int .i64 0, .int .u64 0, .int .u64 0, .slice none 0 0] : Array Value)[o]? := fun o => cell_of_row w3 _ o _ _ _ ((hb3.block _ (by omega)).trans hbx2)
  have HE := Lib.hid (And.intro hend hbx4)
  clear hend hbx4 hbq hv2 ht2 hbx2 hr2 g g2 hb3 c0 c1 f1
  go_wp2_with (refine wpList_store_row rfl 26 (.tmp 4) (.tmp 50) rfl rfl w.heap.size rfl _ rfl 26 #[.int .i64 0, .int .u64 0, .int .u64 0, .slice none 0 0] HE.out.2 (by kernel_rfl) rfl (by simp [Value.oneCell']) ?_)
  exact bodyPost_ret (v := .tuple #[.agg #[.int .i64 0, .int .u64 0, .int .u64 0, .slice none 0 0], .bool false]) (results_row2 rfl _ _ w.heap.size 26 _ _ _ _ rfl (setRow_heap _ _ _ _ _ _ HE.out.2) Tryz.underlying26 rfl (by kernel_rfl) rfl) rfl HE.out.1
theorem tkr_any (d : Nat) : ∀ (tb rb a n : Nat) (l : List UInt8) (sv : Value) (w : World), d ≤ 100 → rb < tb → n ≤ 32 → Vr w rb a 0 l sv → Tk w tb rb n →
    Calls Tryz.prog 55 #[.pointer (some ⟨tb, 0, none⟩), .int .i64 d] w (TrEnds tb rb l sv n (tkE d (l.drop a)) w) := by
  induction d with
  | zero => intro tb rb a n l sv w _ hrt hn hv ht; exact tkr_none 0 tb rb a n l sv w hrt hn hv ht _ (fun e r h => by cases h) (Or.inr (Or.inl rfl))
  | succ d ih =>
    intro tb rb a n l sv w hd hrt hn hv ht
    have IH : Hid (∀ (tb rb a n : Nat) (l : List UInt8) (sv : Value) (w : World), rb < tb → n ≤ 32 → Vr w rb a 0 l sv → Tk w tb rb n → Calls Tryz.prog 55 #[.pointer (some ⟨tb, 0, none⟩), .int .i64 d] w (TrEnds tb rb l sv n (tkE d (l.drop a)) w)) := Lib.hid fun tb rb a n l sv w h1 h2 h3 h4 => ih tb rb a n l sv w (by omega) h1 h2 h3 h4
    have hal := hv.2.2.1
    by_cases hae : a = l.length
    · exact tkr_none (d + 1) tb rb a n l sv w hrt hn hv ht _ (fun e r h => by rw [hae, List.drop_length] at h; cases h) (Or.inl hae)
    have ha : a < l.length := by omega
    by_cases hn0 : n = 0
    · exact tkr_none (d + 1) tb rb a n l sv w hrt hn hv ht _ (fun e r h => by have := e.size_pos; omega) (Or.inr (Or.inr hn0))
    have hn1 : 1 ≤ n := by omega
    have e : (((d + 1 : Nat) : Int)) = (d : Int) + 1 := by omega
    rw [e]
    by_cases hk : 1 ≤ at8 l a ∧ at8 l a ≤ 7
    · by_cases k1 : at8 l a ≤ 1
      · exact tkr_A d (by omega) IH tb rb a n l sv w hrt hn hv ht hn1 ha hk.1 k1
      by_cases k3 : at8 l a ≤ 3
      · exact tkr_B d (by omega) IH tb rb a n l sv w hrt hn hv ht hn1 ha (by omega) k3
      by_cases k4 : at8 l a ≤ 4
      · exact tkr_C d (by omega) IH tb rb a n l sv w hrt hn hv ht hn1 ha (by omega) k4
      by_cases k5 : at8 l a ≤ 5
      · exact tkr_D d (by omega) IH tb rb a n l sv w hrt hn hv ht hn1 ha (by omega) k5
      · exact tkr_E d (by omega) IH tb rb a n l sv w hrt hn hv ht hn1 ha (by omega) hk.2
    · exact tkr_bad d tb rb a n l sv w hrt hn hv ht hn1 ha hk
end Go.Proofs.YtohjkejdkhdjbaaGreatDoor
namespace Go.Proofs.YtohjkejdkhdjbaaGreatDoor
open Go.RowKit Go
set_option linter.unusedVariables false
set_option linter.unusedSimpArgs false
/-- A taker has been made. -/
def Tmade (w : World) (l : List UInt8) (tv : Value) (wx : World) : Prop :=
  ∃ tb rb sv, tv = .pointer (some ⟨tb, 0, none⟩) ∧ rb < tb ∧ w.heap.size < rb ∧ Vr wx rb 0 0 l sv ∧ Tk wx tb rb 32 ∧ wx.heap[w.heap.size]? = some (.cells #[.int .i64 0, .int .u64 0, .int .u64 0, .slice none 0 0] 26 (0, 0)) ∧ Below w.heap.size w wx
set_option maxHeartbeats 2000000 in
set_option maxRecDepth 100000 in
theorem predTakeT_any (S : Nat → Prop) (own : Bool) (b : List UInt8) (v : Value) (i : Int) (w : World) (hr : RepB w S own b v) (hb : b.length ≤ 100000) (h1 : -9223372036854775808 ≤ i) (h2 : i ≤ 9223372036854775807) :
    Calls Tryz.prog 35 #[v, .int .i64 i] w (TakeEnds (tkAt b i) w) := by
  obtain ⟨_, ad, cap, rfl, hcap⟩ := hr.shape
  have HZ0 := Lib.hid (show (w.alloc (.cells #[.int .i64 0, .int .u64 0, .int .u64 0, .slice none 0 0] 26)).heap[w.heap.size]? = some (.cells #[.int .i64 0, .int .u64 0, .int .u64 0, .slice none 0 0] 26 (0, 0)) from heap_alloc_at _ _ _ rfl)
  have hb0 : Below w.heap.size w (w.alloc (.cells #[.int .i64 0, .int .u64 0, .int .u64 0, .slice none 0 0] 26)) := (Below.refl _ _).alloc (Nat.le_refl _) _
  by_cases hi : i < 0 ∨ (b.length : Int) < i
  · have HN := Lib.hid (takeEnds_none (w' := (w.alloc (.cells #[.int .i64 0, .int .u64 0, .int .u64 0, .slice none 0 0] 26)).setRow w.heap.size #[.int .i64 0, .int .u64 0, .int .u64 0, .slice none 0 0]) (tkAt_out hi) (below_setRow hb0 _ _ (Nat.le_refl _)))
    clear hr hb0
    by_cases hn : i < 0
    · clear hi
      go_enter Tryz.func35, Tryz.ntmps35
      go_wp2_with (refine wpList_store_row rfl 26 (.tmp 4) (.tmp 18) rfl rfl w.heap.size rfl _ rfl 26 _ HZ0.out (by kernel_rfl) rfl (by simp [Value.oneCell']) ?_)
      exact bodyPost_ret (v := .tuple #[.agg #[.int .i64 0, .int .u64 0, .int .u64 0, .slice none 0 0], .int .i64 0, .int .i64 40]) (results_row3 rfl _ _ w.heap.size 26 _ _ _ _ _ rfl (setRow_heap _ _ _ _ _ _ HZ0.out) Tryz.underlying26 rfl (by kernel_rfl) rfl rfl) rfl HN.out
    · have hg : (b.length : Int) < i := by omega
      clear hi
      go_enter Tryz.func35, Tryz.ntmps35
      go_wp2_with (refine wpList_store_row rfl 26 (.tmp 4) (.tmp 18) rfl rfl w.heap.size rfl _ rfl 26 _ HZ0.out (by kernel_rfl) rfl (by simp [Value.oneCell']) ?_)
      exact bodyPost_ret (v := .tuple #[.agg #[.int .i64 0, .int .u64 0, .int .u64 0, .slice none 0 0], .int .i64 0, .int .i64 40]) (results_row3 rfl _ _ w.heap.size 26 _ _ _ _ _ rfl (setRow_heap _ _ _ _ _ _ HZ0.out) Tryz.underlying26 rfl (by kernel_rfl) rfl rfl) rfl HN.out
  obtain ⟨a, rfl⟩ := Int.eq_ofNat_of_zero_le (show 0 ≤ i by omega)
  have ha : a ≤ b.length := by omega
  have HR := Lib.hid (hr.below hb0 (Nat.le_refl _))
  have HB0 := Lib.hid hb0
  clear hi hr hb0
  go_enter Tryz.func35, Tryz.ntmps35
  go_upto_region 3 with (fail)
  go_cut [0, 7] from 10 to 24 (fun _ tv wx => Tmade w (b.drop a) tv wx)
  case first =>
    have hc1 : RepB (w.alloc (.cells #[.int .i64 0, .int .u64 0, .int .u64 0, .slice none 0 0] 26)) S own (b.drop a) (.slice (ad.map fun x => x.add a) (b.length - a) (cap - a)) := by
      have h := RepB.cut HR.out a (b.length - a) (cap - a) (by omega) (by omega)
      rwa [List.take_of_length_le (by simp)] at h
    have hc2 : a = cap → RepB (w.alloc (.cells #[.int .i64 0, .int .u64 0, .int .u64 0, .slice none 0 0] 26)) S own (b.drop a) (.slice ad (b.length - a) 0) := fun h => by
      rw [List.drop_of_length_le (by omega), show b.length - a = 0 from by omega]; exact RepB.none
    have HC1 := Lib.hid hc1
    have HC2 := Lib.hid hc2
    clear hc1 hc2
    have fin : ∀ wx tb rb sv, Vr wx rb 0 0 (b.drop a) sv → (w.alloc (.cells #[.int .i64 0, .int .u64 0, .int .u64 0, .slice none 0 0] 26)).heap.size ≤ rb → Below (w.alloc (.cells #[.int .i64 0, .int .u64 0, .int .u64 0, .slice none 0 0] 26)).heap.size (w.alloc (.cells #[.int .i64 0, .int .u64 0, .int .u64 0, .slice none 0 0] 26)) wx → tb = wx.heap.size →
        Tmade w (b.drop a) (.pointer (some ⟨tb, 0, none⟩)) (wx.alloc (.cells #[.pointer (some ⟨rb, 0, none⟩), .int .i64 32] 89)) := by
      intro wx tb rb sv hv hrb hbx htb
      subst htb
      have hs := hbx.size
      simp only [World.size_alloc] at hrb hs
      exact ⟨_, rb, sv, rfl, hv.lt, by omega, hv.below ((Below.refl _ _).alloc (Nat.le_refl _) _), heap_alloc_at _ _ _ rfl, (heap_alloc_lt _ _ _ (by omega)).trans ((hbx.block _ (by simp)).trans HZ0.out), (HB0.out.trans (hbx.mono (by simp))).alloc (by omega) _⟩
    have HF := Lib.hid fin
    clear fin
    go_wp2_with fail
    · refine (vrRead_any S own (b.drop a) _ _ (HC2.out (by omega)) (by simp; omega)).mono ?_
      rintro r wx ⟨rb, sv, rfl, hv, hrb, hbx⟩
      have HX := Lib.hid (HF.out wx _ rb sv hv hrb hbx rfl)
      clear hv hbx
      go_wp2_with fail
      go_meet
      exact HX.out
    · refine (vrRead_any S own (b.drop a) _ _ (HC1.out) (by simp; omega)).mono ?_
      rintro r wx ⟨rb, sv, rfl, hv, hrb, hbx⟩
      have HX := Lib.hid (HF.out wx _ rb sv hv hrb hbx rfl)
      clear hv hbx
      go_wp2_with fail
      go_meet
      exact HX.out
  case rest =>
    obtain ⟨tb, rb, sv, rfl, hrt, hrb, hv, ht, hbx, hbw⟩ := hcut
    have HT := Lib.hid (tkr_any 8 tb rb 0 32 (b.drop a) sv wc (by omega) hrt (by omega) hv ht)
    have hlt := ht.lt
    have HX := Lib.hid (And.intro hbx hbw)
    clear hv ht hbx hbw
    go_wp2_with fail
    refine HT.out.mono ?_
    rintro r w1 ⟨t, u, a', e', n', ok, rfl, hv, hvr, htk, hrk, hy, hn⟩
    obtain ⟨q0, q1, q2, q3, q4, q5, rfl⟩ := hv.conc
    have hs1 := hrk.size
    have hh : w1.heap[w.heap.size]? = some (.cells #[.int .i64 0, .int .u64 0, .int .u64 0, .slice none 0 0] 26 (0, 0)) := (hrk.keep _ (by omega) (by omega)).trans HX.out.1
    have hb1 : Below w.heap.size w w1 := HX.out.2.trans (hrk.below (B := w.heap.size) (by omega) (fun b hb => by omega))
    have l1 : w.heap.size < w1.heap.size := by omega
    have HH := Lib.hid ((heap_alloc_lt w1 (.cells #[.int .i64 q0, .int .u64 q1, .int .u64 q2, .slice q3 q4 q5] 26) _ l1).trans hh)
    have hvw : RepE w1 (fun b => w.heap.size + 1 ≤ b) true t (.agg #[.int .i64 q0, .int .u64 q1, .int .u64 q2, .slice q3 q4 q5]) := hv.wider (fun b _ h => by have h' : wc.heap.size ≤ b := h; omega)
    have HV := Lib.hid (And.intro hvw hb1)
    have HVR := Lib.hid (And.intro hvr htk)
    have hale := hvr.2.2.1
    have hl2 := htk.lt
    clear hv hvw hb1 hh hvr htk hrk
    cases ok with
    | false =>
      have HN : Hid (tkAt b a = none) := by
        refine Lib.hid ?_
        cases hq : tkE 8 (b.drop a) with
        | none => exact tkAt_none ha hq
        | some x =>
          obtain ⟨e, r⟩ := x
          have := hn rfl e r hq
          rw [tkAt_some ha hq, if_neg (fun h => by simp [Ex.right] at h; omega)]
      clear hy hn
      go_wp2_with (refine wpList_store_row rfl 26 (.tmp 4) (.tmp 37) rfl rfl w.heap.size rfl _ rfl 26 _ HH.out (by kernel_rfl) rfl (by simp [Value.oneCell']) ?_)
      refine bodyPost_ret (v := .tuple #[.agg #[.int .i64 0, .int .u64 0, .int .u64 0, .slice none 0 0], .int .i64 0, .int .i64 40]) (results_row3 rfl _ _ w.heap.size 26 _ _ _ _ _ rfl (setRow_heap _ _ _ _ _ _ HH.out) Tryz.underlying26 rfl (by kernel_rfl) rfl rfl) rfl ?_
      exact takeEnds_none HN.out (below_setRow (HV.out.2.alloc (by omega) _) _ _ (Nat.le_refl _))
    | true =>
      obtain ⟨rfl, htk, hts, _⟩ := hy rfl
      have HN := Lib.hid (tkAt_some ha htk)
      clear hy hn htk
      go_wp2_with fail
      have hbq : Below w1.heap.size w1 (w1.alloc (.cells #[.int .i64 q0, .int .u64 q1, .int .u64 q2, .slice q3 q4 q5] 26)) := (Below.refl _ _).alloc (Nat.le_refl _) _
      refine (predRight_any _ _ t _ _ (by omega) (HV.out.1.below hbq (Nat.le_refl _))).mono ?_
      rintro e2 w2 ⟨rfl, hb2⟩
      have hbw2 : Below w.heap.size w w2 := (HV.out.2.alloc (by omega) _).trans (hb2.mono (by simp; omega))
      have hbox : ∀ o, w2.cell? ⟨w1.heap.size, o, none⟩ = (w1.alloc (.cells #[.int .i64 q0, .int .u64 q1, .int .u64 q2, .slice q3 q4 q5] 26)).cell? ⟨w1.heap.size, o, none⟩ := fun o => hb2.cell (by simp)
      have hsz2 : w1.heap.size < w2.heap.size := by have := hb2.size; simp at this; omega
      have hh2 := (hb2.block w.heap.size (by simp; omega)).trans HH.out
      have HH2 := Lib.hid hh2
      have HV2 := Lib.hid (And.intro ((HV.out.1.below hbq (Nat.le_refl _)).below hb2 (Nat.le_refl _)) hbw2)
      have hvr2 := (HVR.out.1.below hbq).below hb2
      have htk2 := (HVR.out.2.keep (hbq.block _ hl2)).keep (hb2.block _ (by simp; omega))
      obtain ⟨x1, x2, _⟩ := htk2.cells
      have HVR2 := Lib.hid hvr2
      have HAt := Lib.hid (show Vr w2.drew rb a' 0 (b.drop a) sv from hvr2.below (Below.refl _ _).drew)
      have z0 : ∀ o, w2.cell? ⟨w.heap.size, o, none⟩ = (#[.int .i64 0, .int .u64 0, .int .u64 0, .slice none 0 0] : Array Value)[o]? := fun o => cell_of_row w2 _ o _ _ _ hh2
      have zf : ∀ o, w2.frozen? ⟨w.heap.size, o, none⟩ = false := fun o => by rw [frozen_of_row w2 _ o _ _ hh2]
      have zf0 := zf 0
      have zf1 := zf 1
      have zf2 := zf 2
      have zf3 := zf 3
      have hl3 : w.heap.size < w2.heap.size := by omega
      have hl4 : tb < w2.heap.size := by omega
      clear hb2 hbq hbw2 hh2 hvr2 htk2 zf
      cases hrt2 : t.right with
      | false =>
        have HT2 := Lib.hid hrt2
        clear hrt2 z0 zf0 zf1 zf2 zf3
        go_wp2_with (refine wpList_store_row rfl 26 (.tmp 4) (.tmp 37) rfl rfl w.heap.size rfl _ rfl 26 _ HH2.out (by kernel_rfl) rfl (by simp [Value.oneCell']) ?_)
        refine bodyPost_ret (v := .tuple #[.agg #[.int .i64 0, .int .u64 0, .int .u64 0, .slice none 0 0], .int .i64 0, .int .i64 40]) (results_row3 rfl _ _ w.heap.size 26 _ _ _ _ _ rfl (setRow_heap _ _ _ _ _ _ HH2.out) Tryz.underlying26 rfl (by kernel_rfl) rfl rfl) rfl ?_
        exact takeEnds_none (by rw [HN.out, HT2.out]; rfl) (below_setRow HV2.out.2 _ _ (Nat.le_refl _))
      | true =>
        have HT2 := Lib.hid hrt2
        have hal : a' ≤ b.length - a := by simpa using hale
        have y1 : IntKind.i64.wrap ((a : Int) + (a' : Int)) = (a : Int) + (a' : Int) := IntWalk.i64_in _ (by omega)
        clear hrt2
        go_wp2_with fail
        have hF : (selfPut w2 w.heap.size (.int .i64 q0) (.int .u64 q1) (.int .u64 q2) (.slice q3 q4 q5)).heap[w.heap.size]? = some (.cells #[.int .i64 q0, .int .u64 q1, .int .u64 q2, .slice q3 q4 q5] 26 (0, 0)) :=
          heap_set_at (heap_set_at (heap_set_at (heap_set_at HH2.out rfl) rfl) rfl) rfl
        have hG : ∀ x : Nat, x ≠ w.heap.size → (selfPut w2 w.heap.size (.int .i64 q0) (.int .u64 q1) (.int .u64 q2) (.slice q3 q4 q5)).heap[x]? = w2.heap[x]? := by
          intro x hx
          show ((((w2.setCell _ _).setCell _ _).setCell _ _).setCell _ _).heap[x]? = _
          rw [Below.heap_setCell _ _ _ _ (by simpa using hx), Below.heap_setCell _ _ _ _ (by simpa using hx), Below.heap_setCell _ _ _ _ (by simpa using hx), Below.heap_setCell _ _ _ _ (by simpa using hx)]
        have hB : Below w.heap.size w (selfPut w2 w.heap.size (.int .i64 q0) (.int .u64 q1) (.int .u64 q2) (.slice q3 q4 q5)) := ((((HV2.out.2.setCell (Nat.le_refl _) _).setCell (Nat.le_refl _) _).setCell (Nat.le_refl _) _).setCell (Nat.le_refl _) _).drew
        have hE : ((b.length - ((b.drop a).drop a').length : Nat) : Int) = (a : Int) + (a' : Int) := by simp; omega
        have HFG := Lib.hid (And.intro hF (And.intro hG (And.intro hB hE)))
        clear hF hG hB hE
        go_region_with (first | (go_at_call 56; go_fit (vrAt_any rb a' 0 (b.drop a) sv _ HAt.out); rintro r wx ⟨rfl, rfl⟩))
        all_goals
          go_wp2_with fail
          refine bodyPost_ret (v := .tuple #[.agg #[.int .i64 q0, .int .u64 q1, .int .u64 q2, .slice q3 q4 q5], .int .i64 ((a : Int) + (a' : Int)), .int .i64 0]) (results_row3 rfl _ _ w.heap.size 26 _ _ _ _ _ rfl HFG.out.1 Tryz.underlying26 rfl (by kernel_rfl) rfl rfl) rfl ?_
          rw [HN.out, HT2.out]
          refine ⟨_, ?_, RepE.keep (w := w2) (S := fun b => w.heap.size + 1 ≤ b) (fun b hb _ => HFG.out.2.1 b (by omega)) (fun b _ h => Nat.le_of_succ_le h) HV2.out.1, HFG.out.2.2.1⟩
          rw [← HFG.out.2.2.2]; rfl
set_option maxHeartbeats 1000000 in
set_option maxRecDepth 100000 in
theorem predParse_any (S : Nat → Prop) (own : Bool) (b : List UInt8) (v : Value) (w : World) (hr : RepB w S own b v) (hb : b.length ≤ 100000) :
    Calls Tryz.prog 37 #[v] w (ReadEnds (tkAll b) w) := by
  have hb0 : Below w.heap.size w (w.alloc (.cells #[.int .i64 0, .int .u64 0, .int .u64 0, .slice none 0 0] 26)) := (Below.refl _ _).alloc (Nat.le_refl _) _
  have HT := Lib.hid (predTakeT_any S own b v 0 (w.alloc (.cells #[.int .i64 0, .int .u64 0, .int .u64 0, .slice none 0 0] 26)) (hr.below hb0 (Nat.le_refl _)) hb (by omega) (by omega))
  have HB0 := Lib.hid hb0
  obtain ⟨_, ad, cap, rfl, _⟩ := hr.shape
  clear hr hb0
  go_enter Tryz.func37, Tryz.ntmps37
  go_wp2_with fail
  refine HT.out.mono ?_
  rintro e w1 ⟨u, rfl, hv, hb1⟩
  obtain ⟨q0, q1, q2, q3, q4, q5, rfl⟩ := hv.conc
  have hz1 := hb1.size
  simp only [World.size_alloc] at hz1
  have hbw : Below w.heap.size w w1 := HB0.out.trans (hb1.mono (by simp))
  have hh : w1.heap[w.heap.size]? = some (.cells #[.int .i64 0, .int .u64 0, .int .u64 0, .slice none 0 0] 26 (0, 0)) := (hb1.block _ (by simp)).trans (heap_alloc_at _ _ _ rfl)
  have l1 : w.heap.size < w1.heap.size := by omega
  have HH := Lib.hid ((heap_alloc_lt w1 (.cells #[.int .i64 q0, .int .u64 q1, .int .u64 q2, .slice q3 q4 q5] 26) _ l1).trans hh)
  obtain ⟨o, ho⟩ : ∃ o, o = tkAt b 0 := ⟨_, rfl⟩
  have HO := Lib.hid ho
  rw [← ho] at hv ⊢
  have hvw : RepE w1 (fun b => w.heap.size + 1 ≤ b) true ((o.map (·.1)).getD .zero) (.agg #[.int .i64 q0, .int .u64 q1, .int .u64 q2, .slice q3 q4 q5]) := hv.wider (fun b _ h => by simpa using h)
  have HV := Lib.hid (And.intro hvw hbw)
  clear hv hvw hbw hh hb1 ho
  have HF0 : Hid (tkAll b = none → ∀ W, Below w.heap.size w W → ReadEnds (tkAll b) w (.returned (.tuple #[.agg #[.int .i64 0, .int .u64 0, .int .u64 0, .slice none 0 0], .int .i64 40])) W) := Lib.hid fun h W hW => readEnds_none h hW
  cases o with
  | none =>
    have HN : Hid (tkAll b = none) := Lib.hid (by unfold tkAll; rw [← HO.out])
    rw [show codeT (none : Option (Ex × Nat)) = 40 from rfl]
    go_wp2_with (refine wpList_store_row rfl 26 (.tmp 2) (.tmp 21) rfl rfl w.heap.size rfl _ rfl 26 _ HH.out (by kernel_rfl) rfl (by simp [Value.oneCell']) ?_)
    refine bodyPost_ret (v := .tuple #[.agg #[.int .i64 0, .int .u64 0, .int .u64 0, .slice none 0 0], .int .i64 40])
      (results_row2 rfl _ _ w.heap.size 26 _ _ _ _ rfl (setRow_heap _ _ _ _ _ _ HH.out) Tryz.underlying26 rfl (by kernel_rfl) rfl) rfl ?_
    exact HF0.out HN.out _ (below_setRow (HV.out.2.alloc (by omega) _) _ _ (Nat.le_refl _))
  | some x =>
    obtain ⟨t, n⟩ := x
    rw [show codeT (some (t, n)) = 0 from rfl]
    simp only [Option.map_some, Option.getD_some] at HV ⊢
    by_cases hn : n = b.length
    · have HN : Hid (tkAll b = some t) := Lib.hid (by unfold tkAll; rw [← HO.out]; simp [hn])
      have t1 : ((n : Int) != (b.length : Int)) = false := by simp; omega
      clear hn
      go_wp2_with (refine wpList_store_row rfl 26 (.tmp 2) (.tmp 22) rfl rfl w.heap.size rfl _ rfl 26 _ HH.out (by kernel_rfl) rfl (by simp [Value.oneCell']) ?_)
      refine bodyPost_ret (v := .tuple #[.agg #[.int .i64 q0, .int .u64 q1, .int .u64 q2, .slice q3 q4 q5], .int .i64 0])
        (results_row2 rfl _ _ w.heap.size 26 _ _ _ _ rfl (setRow_heap _ _ _ _ _ _ HH.out) Tryz.underlying26 rfl (by kernel_rfl) rfl) rfl ?_
      rw [HN.out]
      exact ⟨_, rfl, RepE.keep (w := w1) (S := fun b => w.heap.size + 1 ≤ b) (fun b hb hbl => (setRow_other _ _ _ _ (by omega)).trans (heap_alloc_lt _ _ _ hbl)) (fun b _ h => Nat.le_of_succ_le h) HV.out.1, below_setRow (HV.out.2.alloc (by omega) _) _ _ (Nat.le_refl _)⟩
    · have HN : Hid (tkAll b = none) := Lib.hid (by unfold tkAll; rw [← HO.out]; simp [hn])
      have t1 : ((n : Int) != (b.length : Int)) = true := by simp; omega
      clear hn
      go_wp2_with (refine wpList_store_row rfl 26 (.tmp 2) (.tmp 21) rfl rfl w.heap.size rfl _ rfl 26 _ HH.out (by kernel_rfl) rfl (by simp [Value.oneCell']) ?_)
      refine bodyPost_ret (v := .tuple #[.agg #[.int .i64 0, .int .u64 0, .int .u64 0, .slice none 0 0], .int .i64 40])
        (results_row2 rfl _ _ w.heap.size 26 _ _ _ _ rfl (setRow_heap _ _ _ _ _ _ HH.out) Tryz.underlying26 rfl (by kernel_rfl) rfl) rfl ?_
      exact HF0.out HN.out _ (below_setRow (HV.out.2.alloc (by omega) _) _ _ (Nat.le_refl _))
end Go.Proofs.YtohjkejdkhdjbaaGreatDoor
namespace Go.Proofs.YtohjkejdkhdjbaaGreatDoor
open Go.RowKit Go
set_option linter.unusedVariables false
set_option linter.unusedSimpArgs false
theorem tkAt_size (b : List UInt8) (i : Int) : (((tkAt b i).map (fun x => x.1)).getD Ex.zero).size ≤ 32 := by
  cases h : tkAt b i with
  | none => simp [Ex.zero, Ex.size, Ex.sizes]
  | some x =>
    obtain ⟨e, n⟩ := x
    have := (tkAt_le h).2
    simp [Ex.right] at this
    simpa using this.2
theorem tkAll_right {b : List UInt8} {e : Ex} (h : tkAll b = some e) : e.right = true := by
  unfold tkAll at h
  split at h
  · rename_i e' n hq
    split at h
    · injection h with h; subst h; exact (tkAt_le hq).2
    · cases h
  · cases h
theorem tkAll_size (b : List UInt8) : ((tkAll b).getD .zero).size ≤ 32 := by
  cases h : tkAll b with
  | none => simp [Ex.zero, Ex.size, Ex.sizes]
  | some e =>
    have := tkAll_right h
    simp [Ex.right] at this
    simpa using this.2
set_option maxHeartbeats 4000000 in
set_option maxRecDepth 100000 in
theorem predTakes_law (S : Nat → Prop) (own : Bool) (b : List UInt8) (v : Value) (i : Int) (w : World) (hr : RepB w S own b v) (h1 : -9223372036854775808 ≤ i) (h2 : i ≤ 9223372036854775807) (hL : Lv w.heap.size w) :
    Calls Tryz.prog 5 #[v, .int .i64 i] w fun e w' => e = .returned (.bool true) ∧ Below w.heap.size w w' := by
  obtain ⟨hb63, ad, cap, rfl, _⟩ := hr.shape
  have HL := Lib.hid hL
  have HR := Lib.hid hr
  clear hr hL
  by_cases hs : 300 < b.length
  · have t : decide ((300 : Int) < (b.length : Int)) = true := by simp; omega
    have HW := Lib.hid (works_any w HL.out)
    go_enter Tryz.func5, Tryz.ntmps5
    go_wp2_with fail
    refine HW.out.mono ?_
    rintro e w1 ⟨rfl, hb⟩
    go_wp2_with fail
    go_ret
    exact ⟨rfl, hb⟩
  · have t : decide ((300 : Int) < (b.length : Int)) = false := by simp; omega
    have hbl : b.length ≤ 300 := by omega
    clear hs
    go_enter Tryz.func5, Tryz.ntmps5
    go_wp2_with fail
    refine (ownBytes_any _ _ b _ w HR.out (by omega)).mono ?_
    rintro e wA ⟨ov, rfl, hown, hbA⟩
    have HO : Hid (RepB wA (fun _ => True) true b ov) := Lib.hid ((RepB.of_owns hown).keep (by omega) (fun _ _ _ => rfl) (fun _ _ _ => trivial))
    obtain ⟨oa, oc, rfl⟩ := owns_slice hown
    have HBA := Lib.hid hbA
    have HRA := Lib.hid (HR.out.below hbA (Nat.le_refl _))
    clear hown hbA
    go_wp2_with fail
    go_loopw [6] (fun t wr => ∃ j : Nat, j ≤ 2 ∧ t = .int .i64 j ∧ Below wA.heap.size wA wr) (fun t _ => 2 - (intOf t).toNat)
    case atStart => exact ⟨0, by omega, rfl, Below.refl _ _⟩
    case round =>
      obtain ⟨j, hj, rfl, hbr⟩ := hrel
      have hzr := hbr.size
      have HBR := Lib.hid hbr
      have HB1 := Lib.hid (HRA.out.below hbr (Nat.le_refl _))
      have HO1 := Lib.hid (HO.out.below hbr (Nat.le_refl _))
      clear hbr
      by_cases hlt : j < 2
      · obtain ⟨p, hp⟩ : ∃ p, p = ((tkAt b i).map (·.1)).getD .zero := ⟨_, rfl⟩
        obtain ⟨n, hn⟩ : ∃ n, n = ((tkAt b i).map (·.2)).getD 0 := ⟨_, rfl⟩
        obtain ⟨c, hc⟩ : ∃ c, c = codeT (tkAt b i) := ⟨_, rfl⟩
        obtain ⟨x, hx⟩ : ∃ x, x = (tkAll b).getD .zero := ⟨_, rfl⟩
        obtain ⟨cx, hcx⟩ : ∃ cx, cx = code (tkAll b) := ⟨_, rfl⟩
        have hps : p.size ≤ 32 := by rw [hp]; exact tkAt_size b i
        have hxs : x.size ≤ 32 := by rw [hx]; exact tkAll_size b
        have HE := Lib.hid (And.intro hp (And.intro hn (And.intro hc (And.intro hx hcx))))
        clear hp hn hc hx hcx
        go_wp2_with fail
        refine (predTakeT_any _ _ b _ i wr HB1.out (by omega) h1 h2).mono ?_
        rintro e w1 ⟨u1, rfl, hu1, hb1⟩
        rw [← HE.out.1] at hu1
        rw [← HE.out.2.1, ← HE.out.2.2.1]
        obtain ⟨p0, p1, p2, p3, p4, p5, rfl⟩ := hu1.conc
        have hz1 := hb1.size
        have hba1 : Below wr.heap.size wr (w1.alloc (.cells #[.int .i64 p0, .int .u64 p1, .int .u64 p2, .slice p3 p4 p5] 26)) := hb1.alloc hz1 _
        have HU1 := Lib.hid (And.intro (hu1.wider (S' := fun b => wr.heap.size ≤ b ∧ b < w1.heap.size) (fun b hb h => ⟨h, hb⟩)) hba1)
        clear hu1 hb1 hba1
        go_wp2_with fail
        refine (refTakeT_any _ _ b _ i _ (HO1.out.below HU1.out.2 (Nat.le_refl _)) (by omega) h1 h2).mono ?_
        rintro e w2 ⟨u2, rfl, hu2, hb2⟩
        rw [← HE.out.1] at hu2
        rw [← HE.out.2.1, ← HE.out.2.2.1]
        obtain ⟨q0, q1, q2, q3, q4, q5, rfl⟩ := hu2.conc
        have hz2 := hb2.size
        simp only [World.size_alloc] at hz2
        have hba2 : Below wr.heap.size wr (w2.alloc (.cells #[.int .i64 q0, .int .u64 q1, .int .u64 q2, .slice q3 q4 q5] 32)) := (HU1.out.2.trans (hb2.mono (by simp; omega))).alloc (by omega) _
        have HU2 := Lib.hid (And.intro hu2 (And.intro hba2 hb2))
        clear hu2 hb2 hba2
        go_wp2_with fail
        refine (predParse_any _ _ b _ _ (HB1.out.below HU2.out.2.1 (Nat.le_refl _)) (by omega)).mono ?_
        rintro e w3 ⟨u3, rfl, hu3, hb3⟩
        rw [← HE.out.2.2.2.1] at hu3
        rw [← HE.out.2.2.2.2]
        obtain ⟨r0, r1, r2, r3, r4, r5, rfl⟩ := hu3.conc
        have hz3 := hb3.size
        simp only [World.size_alloc] at hz3
        have hba3 : Below wr.heap.size wr (w3.alloc (.cells #[.int .i64 r0, .int .u64 r1, .int .u64 r2, .slice r3 r4 r5] 26)) := (HU2.out.2.1.trans (hb3.mono (by simp; omega))).alloc (by omega) _
        have HU3 := Lib.hid (And.intro (hu3.wider (S' := fun b => w2.heap.size + 1 ≤ b ∧ b < w3.heap.size) (fun b hb h => ⟨by simpa using h, hb⟩)) (And.intro hba3 hb3))
        clear hu3 hb3 hba3
        go_wp2_with fail
        refine (refParse_any _ _ b _ _ (HO1.out.below HU3.out.2.1 (Nat.le_refl _)) (by omega)).mono ?_
        rintro e w4 ⟨u4, rfl, hu4, hb4⟩
        rw [← HE.out.2.2.2.1] at hu4
        rw [← HE.out.2.2.2.2]
        obtain ⟨s0, s1, s2, s3, s4, s5, rfl⟩ := hu4.conc
        have hz4 := hb4.size
        simp only [World.size_alloc] at hz4
        obtain ⟨W4, hW4⟩ : ∃ W4, W4 = w4.alloc (.cells #[.int .i64 s0, .int .u64 s1, .int .u64 s2, .slice s3 s4 s5] 32) := ⟨_, rfl⟩
        have hzW : W4.heap.size = w4.heap.size + 1 := by rw [hW4]; simp
        have hb44 : Below w4.heap.size w4 W4 := by rw [hW4]; exact (Below.refl _ _).alloc (Nat.le_refl _) _
        have hb34 : Below w3.heap.size w3 W4 := ((Below.refl _ _).alloc (Nat.le_refl _) _).trans ((hb4.mono (by simp)).trans (hb44.mono (by omega)))
        have hb24 : Below w2.heap.size w2 W4 := ((Below.refl _ _).alloc (Nat.le_refl _) _).trans ((HU3.out.2.2.mono (by simp)).trans (hb34.mono (by omega)))
        have hb14 : Below w1.heap.size w1 W4 := ((Below.refl _ _).alloc (Nat.le_refl _) _).trans ((HU2.out.2.2.mono (by simp)).trans (hb24.mono (by omega)))
        have h15 : W4.heap[w4.heap.size]? = some (.cells #[.int .i64 s0, .int .u64 s1, .int .u64 s2, .slice s3 s4 s5] 32 (0, 0)) := by rw [hW4]; exact heap_alloc_at _ _ _ rfl
        have h13 : W4.heap[w3.heap.size]? = some (.cells #[.int .i64 r0, .int .u64 r1, .int .u64 r2, .slice r3 r4 r5] 26 (0, 0)) := (hb44.block _ (by omega)).trans ((hb4.block _ (by simp)).trans (heap_alloc_at _ _ _ rfl))
        have h10 : W4.heap[w2.heap.size]? = some (.cells #[.int .i64 q0, .int .u64 q1, .int .u64 q2, .slice q3 q4 q5] 32 (0, 0)) := (hb34.block _ (by omega)).trans ((HU3.out.2.2.block _ (by simp)).trans (heap_alloc_at _ _ _ rfl))
        have h7 : W4.heap[w1.heap.size]? = some (.cells #[.int .i64 p0, .int .u64 p1, .int .u64 p2, .slice p3 p4 p5] 26 (0, 0)) := (hb24.block _ (by omega)).trans ((HU2.out.2.2.block _ (by simp)).trans (heap_alloc_at _ _ _ rfl))
        have HB4 := Lib.hid (show Below wr.heap.size wr W4 from HU3.out.2.1.trans ((hb4.mono (by simp; omega)).trans (hb44.mono (by omega))))
        have HV1 := Lib.hid (And.intro (HU1.out.1.below hb14 (Nat.le_refl _)) (HU2.out.1.below hb24 (Nat.le_refl _)))
        have HV3 := Lib.hid (And.intro (HU3.out.1.below hb34 (Nat.le_refl _)) (hu4.below hb44 (Nat.le_refl _)))
        have HS := Lib.hid (And.intro h13 h15)
        have k7 : ∀ o, W4.cell? ⟨w1.heap.size, o, none⟩ = (#[.int .i64 p0, .int .u64 p1, .int .u64 p2, .slice p3 p4 p5] : Array Value)[o]? := fun o => cell_of_row W4 _ o _ _ _ h7
        have k10 : ∀ o, W4.cell? ⟨w2.heap.size, o, none⟩ = (#[.int .i64 q0, .int .u64 q1, .int .u64 q2, .slice q3 q4 q5] : Array Value)[o]? := fun o => cell_of_row W4 _ o _ _ _ h10
        have l7 : w1.heap.size < W4.heap.size := by omega
        have l10 : w2.heap.size < W4.heap.size := by omega
        have hkey : ∀ o, w4.cell? ⟨w1.heap.size, o, none⟩ = (#[.int .i64 p0, .int .u64 p1, .int .u64 p2, .slice p3 p4 p5] : Array Value)[o]? := fun o => (hb44.cell (p := ⟨w1.heap.size, o, none⟩) (by show w1.heap.size < _; omega)).symm.trans (k7 o)
        have hkey2 : ∀ o, w4.cell? ⟨w2.heap.size, o, none⟩ = (#[.int .i64 q0, .int .u64 q1, .int .u64 q2, .slice q3 q4 q5] : Array Value)[o]? := fun o => (hb44.cell (p := ⟨w2.heap.size, o, none⟩) (by show w2.heap.size < _; omega)).symm.trans (k10 o)
        have m7 : w1.heap.size < w4.heap.size := by omega
        have m10 : w2.heap.size < w4.heap.size := by omega
        have HW4 := Lib.hid hW4
        have hzW' : w4.heap.size + 1 ≤ W4.heap.size := by omega
        clear hu4 hb4 hb44 hb34 hb24 hb14 h15 h13 h10 h7 hW4 hzW k7 k10
        go_wp2_with fail
        rw [← HW4.out]
        refine (same_keep wr.heap.size w1.heap.size _ _ _ (fun b h => h) p _ _ n c W4 (by omega) (by omega) (by omega) HV1.out.1 HV1.out.2).mono ?_
        rintro e w5 ⟨rfl, hb5, hk5⟩
        have hz5 := hb5.size
        have h13' : w5.heap[w3.heap.size]? = some (.cells #[.int .i64 r0, .int .u64 r1, .int .u64 r2, .slice r3 r4 r5] 26 (0, 0)) := (hk5 _ (by simp; omega) (by omega)).trans HS.out.1
        have h15' : w5.heap[w4.heap.size]? = some (.cells #[.int .i64 s0, .int .u64 s1, .int .u64 s2, .slice s3 s4 s5] 32 (0, 0)) := (hk5 _ (by simp; omega) (by omega)).trans HS.out.2
        have HV5 := Lib.hid (And.intro (RepE.keep (S' := fun b => w2.heap.size + 1 ≤ b ∧ b < w3.heap.size) (fun b hb hl => hk5 b (by simp; omega) hl) (fun _ _ h => h) HV3.out.1) (RepE.keep (S' := fun b => w3.heap.size ≤ b) (fun b hb hl => hk5 b (by simp at hb ⊢; omega) hl) (fun b _ h => by simp at h; omega) HV3.out.2))
        have HB5 := Lib.hid (HB4.out.trans hb5)
        have k13 : ∀ o, w5.cell? ⟨w3.heap.size, o, none⟩ = (#[.int .i64 r0, .int .u64 r1, .int .u64 r2, .slice r3 r4 r5] : Array Value)[o]? := fun o => cell_of_row w5 _ o _ _ _ h13'
        have k15 : ∀ o, w5.cell? ⟨w4.heap.size, o, none⟩ = (#[.int .i64 s0, .int .u64 s1, .int .u64 s2, .slice s3 s4 s5] : Array Value)[o]? := fun o => cell_of_row w5 _ o _ _ _ h15'
        have l13 : w3.heap.size < w5.heap.size := by omega
        have l15 : w4.heap.size < w5.heap.size := by omega
        clear hb5 hk5 h13' h15' hkey hkey2
        go_wp2_with fail
        refine (same_keep (w2.heap.size + 1) w3.heap.size _ _ _ (fun b h => h) x _ _ 0 cx w5 (by omega) (by omega) (by omega) HV5.out.1 HV5.out.2).mono ?_
        rintro e w6 ⟨rfl, hb6, hk6⟩
        have HB6 := Lib.hid (HB5.out.trans (hb6.mono (by omega)))
        clear hb6 hk6 k13 k15
        go_wp2_with fail
        go_roundw
        case rel => exact ⟨j + 1, by omega, by go_num, HBR.out.trans (HB6.out.mono (by omega))⟩
        case measure => simp [intOf]; omega
      · go_wp2_with fail
        refine (sameBytes_any _ _ _ _ b b _ _ _ HB1.out HO1.out).mono ?_
        rintro e w1 ⟨rfl, hb1⟩
        have td : decide (b = b) = true := by simp
        rw [td]
        have hbw : Below w.heap.size w w1 := HBA.out.trans ((HBR.out.mono (by have := HBA.out.size; omega)).trans (hb1.mono (by have := HBA.out.size; omega)))
        have HBW := Lib.hid hbw
        have HW := Lib.hid (works_any w1 ((HL.out.below hbw).mono hbw.size))
        clear hb1 hbw
        go_wp2_with fail
        refine HW.out.mono ?_
        rintro e w2 ⟨rfl, hb2⟩
        go_wp2_with fail
        go_ret
        exact ⟨rfl, HBW.out.trans (hb2.mono HBW.out.size)⟩
end Go.Proofs.YtohjkejdkhdjbaaGreatDoor
