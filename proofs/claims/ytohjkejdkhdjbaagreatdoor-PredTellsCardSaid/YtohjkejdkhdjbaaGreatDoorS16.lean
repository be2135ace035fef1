/- Walks: the chapter's examples, run. -/
import Derived.Test.YtohjkejdkhdjbaaGreatDoorS15
import Derived.Test.YtohjkejdkhdjbaaGreatDoorEx09
import Derived.Test.YtohjkejdkhdjbaaGreatDoorW04g
import Derived.Test.YtohjkejdkhdjbaaGreatDoorW04n
namespace Go.Proofs.YtohjkejdkhdjbaaGreatDoor
open Go.RowKit Go
set_option linter.unusedVariables false
set_option linter.unusedSimpArgs false


/-- pred.Read at a text whose answer is known. -/
theorem readAt (l : List UInt8) (o : Option Ex) (h : rdText l = o) (hl : l.length ≤ 800) (w : World) (hL : Lv w.heap.size w) : Calls Tryz.prog 9 #[.string ⟨l.toArray⟩] w (ReadEnds o w) := by
  have h1 := predRead_any ⟨l.toArray⟩ w (by rw [← ba_size]; simpa using hl) hL
  have h2 : (ByteArray.mk l.toArray).data.toList = l := by simp
  rw [h2, h] at h1
  exact h1

theorem readSome (l : List UInt8) (x : Ex) (h : rdText l = some x) (hl : l.length ≤ 800) (w : World) (hL : Lv w.heap.size w) : Calls Tryz.prog 9 #[.string ⟨l.toArray⟩] w fun e w' => ∃ q0 q1 q2 q3 q4 q5, e = .returned (.tuple #[.agg #[.int .i64 q0, .int .u64 (q1 : Nat), .int .u64 (q2 : Nat), .slice q3 q4 q5], .int .i64 0]) ∧ RepE w' (fun b => w.heap.size ≤ b) true x (.agg #[.int .i64 q0, .int .u64 (q1 : Nat), .int .u64 (q2 : Nat), .slice q3 q4 q5]) ∧ Below w.heap.size w w' := by
  refine (readAt l _ h hl w hL).mono ?_
  rintro e w' ⟨v, rfl, hv, hb⟩
  have hv' : RepE w' (fun b => w.heap.size ≤ b) true x v := hv
  obtain ⟨q0, q1, q2, q3, q4, q5, rfl⟩ := hv'.conc
  exact ⟨q0, q1, q2, q3, q4, q5, rfl, hv', hb⟩
theorem readNone (l : List UInt8) (h : rdText l = none) (hl : l.length ≤ 800) (w : World) (hL : Lv w.heap.size w) : Calls Tryz.prog 9 #[.string ⟨l.toArray⟩] w fun e w' => ∃ q0 q1 q2 q3 q4 q5, e = .returned (.tuple #[.agg #[.int .i64 q0, .int .u64 (q1 : Nat), .int .u64 (q2 : Nat), .slice q3 q4 q5], .int .i64 40]) ∧ Below w.heap.size w w' := by
  refine (readAt l _ h hl w hL).mono ?_
  rintro e w' ⟨v, rfl, hv, hb⟩
  obtain ⟨q0, q1, q2, q3, q4, q5, rfl⟩ := hv.conc
  exact ⟨q0, q1, q2, q3, q4, q5, rfl, hb⟩

set_option maxHeartbeats 1000000 in
set_option maxRecDepth 100000 in
theorem works_any (w : World) (hL : Lv w.heap.size w) : Calls Tryz.prog 8 #[] w fun e w' => e = .returned (.bool true) ∧ Below w.heap.size w w' := by
  have HL := Lib.hid hL
  clear hL
  go_enter Tryz.func8, Tryz.ntmps8
  go_wp2_with fail
  refine (readSome _ _ rdText_1 (by simp) _ HL.out).mono ?_
  rintro e w1 ⟨q0, q1, q2, q3, q4, q5, rfl, hv, hb1⟩
  have hA1 : Below w.heap.size w (w1.alloc (.cells #[.int .i64 q0, .int .u64 q1, .int .u64 q2, .slice q3 q4 q5] 26)) := hb1.alloc hb1.size _
  have HL1 := Lib.hid ((HL.out.below hA1).mono hA1.size)
  have H1 := Lib.hid (And.intro (hv.below ((Below.refl w1.heap.size w1).alloc (Nat.le_refl _) (.cells #[.int .i64 q0, .int .u64 q1, .int .u64 q2, .slice q3 q4 q5] 26)) (Nat.le_refl _)) (And.intro hA1 (heap_alloc_new w1 (.cells #[.int .i64 q0, .int .u64 q1, .int .u64 q2, .slice q3 q4 q5] 26))))
  have hz1 := hb1.size
  clear hv hb1 hA1
  go_wp2_with fail
  refine (readNone _ rdText_2 (by simp) _ HL1.out).mono ?_
  rintro e w2 ⟨r0, r1, r2, r3, r4, r5, rfl, hb2⟩
  have hz2 := hb2.size
  rw [World.size_alloc] at hz2
  have hA2 : Below (w1.heap.size + 1) (w1.alloc (.cells #[.int .i64 q0, .int .u64 q1, .int .u64 q2, .slice q3 q4 q5] 26)) (w2.alloc (.cells #[.int .i64 r0, .int .u64 r1, .int .u64 r2, .slice r3 r4 r5] 26)) := by rw [← World.size_alloc]; exact hb2.alloc hb2.size _
  have HL2 : Hid (Lv (w2.alloc (.cells #[.int .i64 r0, .int .u64 r1, .int .u64 r2, .slice r3 r4 r5] 26)).heap.size (w2.alloc (.cells #[.int .i64 r0, .int .u64 r1, .int .u64 r2, .slice r3 r4 r5] 26))) := Lib.hid (((HL1.out.below hb2).below ((Below.refl _ _).alloc hb2.size (.cells #[.int .i64 r0, .int .u64 r1, .int .u64 r2, .slice r3 r4 r5] 26))).mono (by simp; omega))
  have H2 := Lib.hid hA2
  clear hb2 hA2
  go_wp2_with fail
  refine (readNone _ rdText_3 (by simp) _ HL2.out).mono ?_
  rintro e w3 ⟨s0, s1, s2, s3, s4, s5, rfl, hb3⟩
  have hz3 := hb3.size
  rw [World.size_alloc] at hz3
  have hA3 : Below (w1.heap.size + 1) (w1.alloc (.cells #[.int .i64 q0, .int .u64 q1, .int .u64 q2, .slice q3 q4 q5] 26)) (w3.alloc (.cells #[.int .i64 s0, .int .u64 s1, .int .u64 s2, .slice s3 s4 s5] 26)) := H2.out.trans ((hb3.alloc hb3.size _).mono (by simp; omega))
  have HL3 : Hid (Lv (w3.alloc (.cells #[.int .i64 s0, .int .u64 s1, .int .u64 s2, .slice s3 s4 s5] 26)).heap.size (w3.alloc (.cells #[.int .i64 s0, .int .u64 s1, .int .u64 s2, .slice s3 s4 s5] 26))) := Lib.hid (((HL2.out.below hb3).below ((Below.refl _ _).alloc hb3.size (.cells #[.int .i64 s0, .int .u64 s1, .int .u64 s2, .slice s3 s4 s5] 26))).mono (by simp; omega))
  have H3 := Lib.hid hA3
  clear hb3 hA3
  go_wp2_with fail
  refine (readNone _ rdText_4 (by simp) _ HL3.out).mono ?_
  rintro e w4 ⟨t0, t1, t2, t3, t4, t5, rfl, hb4⟩
  have hz4 := hb4.size
  rw [World.size_alloc] at hz4
  have hA4 : Below (w1.heap.size + 1) (w1.alloc (.cells #[.int .i64 q0, .int .u64 q1, .int .u64 q2, .slice q3 q4 q5] 26)) (w4.alloc (.cells #[.int .i64 t0, .int .u64 t1, .int .u64 t2, .slice t3 t4 t5] 26)) := H3.out.trans ((hb4.alloc hb4.size _).mono (by simp; omega))
  have hh4 : (w4.alloc (.cells #[.int .i64 t0, .int .u64 t1, .int .u64 t2, .slice t3 t4 t5] 26)).heap[w1.heap.size]? = some (.cells #[.int .i64 q0, .int .u64 q1, .int .u64 q2, .slice q3 q4 q5] 26) := (hA4.block _ (by omega)).trans H1.out.2.2
  have hx4 := H1.out.1.below hA4 (by simp)
  have hB4 := H1.out.2.1.trans (hA4.mono (by omega))
  have hs4 : w1.heap.size < w4.heap.size := by omega
  have c4 : ∀ o, w4.cell? ⟨w1.heap.size, o, none⟩ = (#[.int .i64 q0, .int .u64 q1, .int .u64 q2, .slice q3 q4 q5] : Array Value)[o]? := fun o => cell_of_row w4 _ o _ _ _ ((heap_alloc_lt w4 (.cells #[.int .i64 t0, .int .u64 t1, .int .u64 t2, .slice t3 t4 t5] 26) _ hs4).symm.trans hh4)
  have H4 := Lib.hid (And.intro hx4 (And.intro hB4 hh4))
  clear hb4 hA4 hh4 hx4 hB4
  go_wp2_with fail
  refine (predPut_any _ _ exW _ _ (by decide) H4.out.1).mono ?_
  rintro e w5 ⟨bv, rfl, hown5, hb5⟩
  obtain ⟨ba, bc, rfl⟩ := owns_slice hown5
  have hz5 := hb5.size
  rw [World.size_alloc] at hz5
  have H5 := Lib.hid (And.intro (RepB.of_owns hown5) (And.intro (H4.out.1.below hb5 (Nat.le_refl _)) (And.intro (H4.out.2.1.trans (hb5.mono (by simp; omega))) ((hb5.block _ (by simp; omega)).trans H4.out.2.2))))
  have c5 : ∀ o, w5.cell? ⟨w1.heap.size, o, none⟩ = (#[.int .i64 q0, .int .u64 q1, .int .u64 q2, .slice q3 q4 q5] : Array Value)[o]? := fun o => cell_of_row w5 _ o _ _ _ H5.out.2.2.2
  clear hown5 hb5 c4
  go_wp2_with fail
  have hlit : RepB (w5.alloc (.cells #[.int .u8 6, .int .u8 2, .int .u8 2, .int .u8 7, .int .u8 5, .int .u8 4, .int .u8 3, .int .u8 1] 5)) (fun _ => True) true [6, 2, 2, 7, 5, 4, 3, 1] (.slice (some ⟨w5.heap.size, 0, none⟩) 8 8) := by
    have h := sl_lit w5 (fun _ => True) #[.int .u8 6, .int .u8 2, .int .u8 2, .int .u8 7, .int .u8 5, .int .u8 4, .int .u8 3, .int .u8 1] 5 8 8 (by simp) (by omega) trivial (by omega)
    unfold RepB
    simpa [bytes] using h
  have hb6 : Below w5.heap.size w5 (w5.alloc (.cells #[.int .u8 6, .int .u8 2, .int .u8 2, .int .u8 7, .int .u8 5, .int .u8 4, .int .u8 3, .int .u8 1] 5)) := (Below.refl _ _).alloc (Nat.le_refl _) _
  refine (sameBytes_any _ _ _ _ exW.put _ _ _ _ (Sl.below H5.out.1 (by omega) hb6 (Nat.le_refl _)) hlit).mono ?_
  rintro e w6 ⟨he6, hb7⟩
  rw [show decide (exW.put = [6, 2, 2, 7, 5, 4, 3, 1]) = true from by rw [exW_put]; rfl] at he6
  subst he6
  have hz6 := hb7.size
  rw [World.size_alloc] at hz6
  have hb67 := hb6.trans (hb7.mono (by simp))
  have H6 := Lib.hid (And.intro (H5.out.2.1.below hb67 (Nat.le_refl _)) (And.intro (H5.out.2.2.1.trans (hb67.mono (by omega))) ((hb67.block _ (by omega)).trans H5.out.2.2.2)))
  have c6 : ∀ o, w6.cell? ⟨w1.heap.size, o, none⟩ = (#[.int .i64 q0, .int .u64 q1, .int .u64 q2, .slice q3 q4 q5] : Array Value)[o]? := fun o => cell_of_row w6 _ o _ _ _ H6.out.2.2
  clear hlit hb6 hb7 hb67 c5
  go_wp2_with fail
  refine (predHolds_any _ _ exW _ 7 5 _ (by decide) (by omega) (by omega) H6.out.1).mono ?_
  rintro e w7 ⟨he7, hb7⟩
  rw [show exW.holds 7 5 = true from by decide] at he7
  subst he7
  have hz7 := hb7.size
  have H7 := Lib.hid (And.intro (H6.out.1.below hb7 (Nat.le_refl _)) (And.intro (H6.out.2.1.trans (hb7.mono (by omega))) ((hb7.block _ (by omega)).trans H6.out.2.2)))
  have c7 : ∀ o, w7.cell? ⟨w1.heap.size, o, none⟩ = (#[.int .i64 q0, .int .u64 q1, .int .u64 q2, .slice q3 q4 q5] : Array Value)[o]? := fun o => cell_of_row w7 _ o _ _ _ H7.out.2.2
  clear hb7 c6
  go_wp2_with fail
  refine (predHolds_any _ _ exW _ 7 4 _ (by decide) (by omega) (by omega) H7.out.1).mono ?_
  rintro e w8 ⟨he8, hb8⟩
  rw [show exW.holds 7 4 = false from by decide] at he8
  subst he8
  have hz8 := hb8.size
  have H8 := Lib.hid (And.intro (H7.out.1.below hb8 (Nat.le_refl _)) (And.intro (H7.out.2.1.trans (hb8.mono (by omega))) ((hb8.block _ (by omega)).trans H7.out.2.2)))
  have c8 : ∀ o, w8.cell? ⟨w1.heap.size, o, none⟩ = (#[.int .i64 q0, .int .u64 q1, .int .u64 q2, .slice q3 q4 q5] : Array Value)[o]? := fun o => cell_of_row w8 _ o _ _ _ H8.out.2.2
  clear hb8 c7
  go_wp2_with fail
  refine (predHolds_any _ _ exW _ 8 5 _ (by decide) (by omega) (by omega) H8.out.1).mono ?_
  rintro e w9 ⟨he9, hb9⟩
  rw [show exW.holds 8 5 = false from by decide] at he9
  subst he9
  have hz9 := hb9.size
  have H9 := Lib.hid (And.intro (H8.out.1.below hb9 (Nat.le_refl _)) (And.intro (H8.out.2.1.trans (hb9.mono (by omega))) ((hb9.block _ (by omega)).trans H8.out.2.2)))
  have c9 : ∀ o, w9.cell? ⟨w1.heap.size, o, none⟩ = (#[.int .i64 q0, .int .u64 q1, .int .u64 q2, .slice q3 q4 q5] : Array Value)[o]? := fun o => cell_of_row w9 _ o _ _ _ H9.out.2.2
  clear hb9 c8
  go_wp2_with fail
  refine (predDepth_any exW.depth _ _ exW _ _ (Nat.le_refl _) (by decide) H9.out.1).mono ?_
  rintro e wa ⟨hea, hba⟩
  rw [show exW.depth = 3 from by decide] at hea
  subst hea
  have hza := hba.size
  have HA := Lib.hid (And.intro (H9.out.1.below hba (Nat.le_refl _)) (And.intro (H9.out.2.1.trans (hba.mono (by omega))) ((hba.block _ (by omega)).trans H9.out.2.2)))
  have ca : ∀ o, wa.cell? ⟨w1.heap.size, o, none⟩ = (#[.int .i64 q0, .int .u64 q1, .int .u64 q2, .slice q3 q4 q5] : Array Value)[o]? := fun o => cell_of_row wa _ o _ _ _ HA.out.2.2
  clear hba c9
  go_wp2_with fail
  refine (predNodes_any exW.size _ _ exW _ _ (Nat.le_refl _) (by decide) HA.out.1).mono ?_
  rintro e wb ⟨heb, hbb⟩
  rw [show exW.size = 4 from by decide] at heb
  subst heb
  go_wp2_with fail
  go_ret
  exact ⟨rfl, HA.out.2.1.trans (hbb.mono (by omega))⟩
end Go.Proofs.YtohjkejdkhdjbaaGreatDoor
