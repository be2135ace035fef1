/- The law RecordLines, walked: it is true of any text. -/
import Derived.Test.YtjedgiiplebofaaGreatDoorQ34
import Derived.Test.YtjedgiiplebofaaGreatDoorQW31
namespace Go.Proofs.YtjedgiiplebofaaGreatDoor
open Go.RowKit Go
set_option linter.unusedVariables false
set_option linter.unusedSimpArgs false
def pRec (r : Rec) (S : Nat → Prop) (v : Value) (w : World) : Prop := RepR w S true r v
theorem steadyRec (r : Rec) : Steady (pRec r) := fun S S' v w w' hk hs hS h => RepR.keep h hk hS
theorem right_small {r : Rec} (h : r.rightP) : r.p.size ≤ 1000 ∧ r.p.depth ≤ 1000 ∧ r.es.length ≤ r.told.length := by
  have hd := r.p.depth_le_size
  obtain ⟨h1, h7, hp, ho⟩ := h
  by_cases h5 : r.k = 5
  · have hr := hp h5
    simp only [Ex.right, Bool.and_eq_true, decide_eq_true_eq] at hr
    refine ⟨by omega, by omega, ?_⟩
    have ht : r.tail = r.p.told :: r.es.map Ent.told := by unfold Rec.tail; simp [h5]
    rw [told_flat, ht]
    have : ∀ es : List Ent, es.length ≤ ((es.map Ent.told).flatMap (fun y => (32 : UInt8) :: y)).length := by
      intro es
      induction es with
      | nil => simp
      | cons a l ih => simp only [List.map_cons, List.flatMap_cons, List.length_append, List.length_cons]; omega
    have := this r.es
    simp only [List.flatMap_cons, List.length_append]
    omega
  · have hz : r.p = .zero ∧ r.es = [] := by
      rw [← ho]
      unfold Rec.only
      rw [if_neg h5]
      split
      · exact ⟨rfl, rfl⟩
      split
      · exact ⟨rfl, rfl⟩
      split <;> exact ⟨rfl, rfl⟩
    rw [hz.1, hz.2]
    exact ⟨by decide, by decide, by simp⟩
theorem line_small (s : List UInt8) : ((lineB s).getD .zero).p.size ≤ 1000 ∧ ((lineB s).getD .zero).p.depth ≤ 1000 ∧ ((lineB s).getD .zero).es.length ≤ s.length := by
  cases h : lineB s with
  | none => exact ⟨by decide, by decide, by simp [Rec.zero]⟩
  | some r =>
    obtain ⟨h1, _, h3⟩ := lineB_sound h
    obtain ⟨a, b, c⟩ := right_small h1
    rw [h3] at c
    exact ⟨a, b, c⟩
set_option maxHeartbeats 8000000 in
set_option maxRecDepth 100000 in
theorem recordLines_law (s : ByteArray) (w : World) (hL : Lq w.heap.size w) : Calls Tryz.prog 3 #[.string s] w fun e w' => e = .returned (.bool true) ∧ Below w.heap.size w w' := by
  by_cases hs : 300 < s.size
  · have t1 : decide ((300 : Int) < (s.size : Int)) = true := by simp; omega
    have HL := Lib.hid hL
    clear hL
    go_enter Tryz.func3, Tryz.ntmps3
    go_wp2_with fail
    refine (works5_any w HL.out).mono ?_
    rintro e w1 ⟨rfl, hb1⟩
    have HB := Lib.hid hb1
    clear hb1
    go_wp2_with fail
    go_ret
    exact ⟨rfl, HB.out⟩
  · have t1 : decide ((300 : Int) < (s.size : Int)) = false := by simp; omega
    have HP := Lib.hid (And.intro (recLine_any s w (by omega) hL) hL)
    clear hL
    go_enter Tryz.func3, Tryz.ntmps3
    go_wp2_with fail
    refine HP.out.1.mono ?_
    rintro e w1 ⟨v1, rfl, hr1, hb1⟩
    obtain ⟨cd, hcd⟩ : ∃ cd, cd = codeL (lineB s.data.toList) := ⟨_, rfl⟩
    obtain ⟨r, hr⟩ : ∃ r, r = (lineB s.data.toList).getD .zero := ⟨_, rfl⟩
    have hsm := line_small s.data.toList
    rw [ba_size, ← hr] at hsm
    have HS : Hid (r.p.size ≤ 1000 ∧ r.p.depth ≤ 1000 ∧ r.es.length ≤ 100000) := Lib.hid ⟨hsm.1, hsm.2.1, by omega⟩
    have HCD := Lib.hid (And.intro hcd hr)
    rw [← hr] at hr1
    rw [← hcd]
    obtain ⟨m0, m1, m2, m3, m4, m5, m6, m7, rfl, hk1, hk2, hnums, he, hes⟩ := hr1.conc
    have H1 := Lib.hid (And.intro hr1 hb1)
    clear hr1 hb1 hsm hcd hr hk1 hk2 hnums he hes
    go_upto_region 4 with fail
    obtain ⟨w2, hw2⟩ : ∃ w2, w2 = w1.alloc (.cells #[.int .i64 r.k, .int .u64 (r.t : Nat), .int .u64 (r.x : Nat), .int .u64 (r.w : Nat), .int .u64 (r.n : Nat), .int .u64 (r.v : Nat), .int .i64 m0, .int .u64 (m1 : Nat), .int .u64 (m2 : Nat), .slice m3 m4 m5, .slice m6 r.es.length m7] 31) := ⟨_, rfl⟩
    obtain ⟨b3, hb3⟩ : ∃ b3, b3 = w1.heap.size := ⟨_, rfl⟩
    have hb2 : Below w1.heap.size w1 w2 := by rw [hw2]; exact (Below.refl _ _).alloc (Nat.le_refl _) _
    have hh2 : w2.heap[b3]? = some (.cells #[.int .i64 r.k, .int .u64 (r.t : Nat), .int .u64 (r.x : Nat), .int .u64 (r.w : Nat), .int .u64 (r.n : Nat), .int .u64 (r.v : Nat), .int .i64 m0, .int .u64 (m1 : Nat), .int .u64 (m2 : Nat), .slice m3 m4 m5, .slice m6 r.es.length m7] 31 (0, 0)) := by rw [hw2, hb3]; exact heap_alloc_at _ _ _ rfl
    rw [← hw2, ← hb3]
    have H2 := Lib.hid (And.intro (H1.out.2.trans (hb2.mono H1.out.2.size)) (And.intro hh2 (H1.out.1.below hb2 (Nat.le_refl _))))
    clear hw2 hb2 hh2 hb3
    go_wp2_with fail
    refine (refLine_any s w2 (by omega)).mono ?_
    rintro e w3 ⟨v2, rfl, hr3, hb3⟩
    rw [← HCD.out.2] at hr3
    rw [← HCD.out.1]
    obtain ⟨n0, n1, n2, n3, n4, n5, n6, n7, rfl, hk1, hk2, hnums, he, hes⟩ := hr3.conc
    have H3 := Lib.hid (And.intro hr3 hb3)
    clear hr3 hb3 hk1 hk2 hnums he hes
    go_upto_region 5 with fail
    obtain ⟨w4, hw4⟩ : ∃ w4, w4 = w3.alloc (.cells #[.int .i64 r.k, .int .u64 (r.t : Nat), .int .u64 (r.x : Nat), .int .u64 (r.w : Nat), .int .u64 (r.n : Nat), .int .u64 (r.v : Nat), .int .i64 n0, .int .u64 (n1 : Nat), .int .u64 (n2 : Nat), .slice n3 n4 n5, .slice n6 r.es.length n7] 41) := ⟨_, rfl⟩
    obtain ⟨b5, hb5⟩ : ∃ b5, b5 = w3.heap.size := ⟨_, rfl⟩
    have hb4 : Below w3.heap.size w3 w4 := by rw [hw4]; exact (Below.refl _ _).alloc (Nat.le_refl _) _
    have hh5 : w4.heap[b5]? = some (.cells #[.int .i64 r.k, .int .u64 (r.t : Nat), .int .u64 (r.x : Nat), .int .u64 (r.w : Nat), .int .u64 (r.n : Nat), .int .u64 (r.v : Nat), .int .i64 n0, .int .u64 (n1 : Nat), .int .u64 (n2 : Nat), .slice n3 n4 n5, .slice n6 r.es.length n7] 41 (0, 0)) := by rw [hw4, hb5]; exact heap_alloc_at _ _ _ rfl
    rw [← hw4, ← hb5]
    have l2 : b3 < w2.heap.size := (Array.getElem?_eq_some_iff.1 H2.out.2.1).1
    have hz3 := H3.out.2.size
    have hh3 : w4.heap[b3]? = some (.cells #[.int .i64 r.k, .int .u64 (r.t : Nat), .int .u64 (r.x : Nat), .int .u64 (r.w : Nat), .int .u64 (r.n : Nat), .int .u64 (r.v : Nat), .int .i64 m0, .int .u64 (m1 : Nat), .int .u64 (m2 : Nat), .slice m3 m4 m5, .slice m6 r.es.length m7] 31 (0, 0)) := (hb4.block _ (by omega)).trans ((H3.out.2.block _ l2).trans H2.out.2.1)
    have l3 : b3 < w4.heap.size := (Array.getElem?_eq_some_iff.1 hh3).1
    have l5 : b5 < w4.heap.size := (Array.getElem?_eq_some_iff.1 hh5).1
    have hB4 : Below w.heap.size w w4 := H2.out.1.trans ((H3.out.2.trans (hb4.mono hz3)).mono H2.out.1.size)
    have HA : Hid (RepR w4 (fun _ => True) true r (.agg #[.int .i64 r.k, .int .u64 (r.t : Nat), .int .u64 (r.x : Nat), .int .u64 (r.w : Nat), .int .u64 (r.n : Nat), .int .u64 (r.v : Nat), .int .i64 m0, .int .u64 (m1 : Nat), .int .u64 (m2 : Nat), .slice m3 m4 m5, .slice m6 r.es.length m7])) := Lib.hid (((H2.out.2.2.below H3.out.2 (Nat.le_refl _)).below hb4 (Nat.le_refl _)).wider (fun _ _ _ => trivial))
    have HB : Hid (RepR w4 (fun _ => True) true r (.agg #[.int .i64 r.k, .int .u64 (r.t : Nat), .int .u64 (r.x : Nat), .int .u64 (r.w : Nat), .int .u64 (r.n : Nat), .int .u64 (r.v : Nat), .int .i64 n0, .int .u64 (n1 : Nat), .int .u64 (n2 : Nat), .slice n3 n4 n5, .slice n6 r.es.length n7])) := Lib.hid ((H3.out.1.below hb4 (Nat.le_refl _)).wider (fun _ _ _ => trivial))
    have HL : Hid (Lq w4.heap.size w4) := Lib.hid ((HP.out.2.below hB4).mono hB4.size)
    have HB4 := Lib.hid hB4
    clear hw4 hb4 hB4 hb5
    refine wp_region_prs (w0 := w4) rfl [.eq (.int .i64 cd), .eq (.int .i64 cd), .eq (.bool true), .eq (.bool true), .eq (.agg #[.int .i64 r.k, .int .u64 (r.t : Nat), .int .u64 (r.x : Nat), .int .u64 (r.w : Nat), .int .u64 (r.n : Nat), .int .u64 (r.v : Nat), .int .i64 m0, .int .u64 (m1 : Nat), .int .u64 (m2 : Nat), .slice m3 m4 m5, .slice m6 r.es.length m7]), .of (pRec r), .eq (.agg #[.int .i64 r.k, .int .u64 (r.t : Nat), .int .u64 (r.x : Nat), .int .u64 (r.w : Nat), .int .u64 (r.n : Nat), .int .u64 (r.v : Nat), .int .i64 n0, .int .u64 (n1 : Nat), .int .u64 (n2 : Nat), .slice n3 n4 n5, .slice n6 r.es.length n7]), .eq (.bool true), .eq (.bool true), .eq (.bool true), .eq (.bool true), .eq (.bool true), .eq (.bool true)] (by kernel_rfl) ⟨?_, ?_, ?_, ?_, ?_, ?_, ?_, ?_, ?_, ?_, ?_, ?_, ?_, ?_, trivial⟩ (fun vs => [(21, (.int .i64 cd)), (22, (.int .i64 cd)), (23, (.bool true)), (24, (.bool true)), (25, (.agg #[.int .i64 r.k, .int .u64 (r.t : Nat), .int .u64 (r.x : Nat), .int .u64 (r.w : Nat), .int .u64 (r.n : Nat), .int .u64 (r.v : Nat), .int .i64 m0, .int .u64 (m1 : Nat), .int .u64 (m2 : Nat), .slice m3 m4 m5, .slice m6 r.es.length m7])), (26, vs 5), (27, (.agg #[.int .i64 r.k, .int .u64 (r.t : Nat), .int .u64 (r.x : Nat), .int .u64 (r.w : Nat), .int .u64 (r.n : Nat), .int .u64 (r.v : Nat), .int .i64 n0, .int .u64 (n1 : Nat), .int .u64 (n2 : Nat), .slice n3 n4 n5, .slice n6 r.es.length n7])), (28, (.bool true)), (29, (.bool true)), (30, (.bool true)), (31, (.bool true)), (32, (.bool true)), (2, (.bool true))]) (fun _ => rfl) ?_
    · refine RStep.mk rfl rfl (fun S a wx K Q hR hK => ?_)
      have t4 : a.tmps[4]? = some (.int .i64 cd) := (hR.old 4 (by kernel_rfl)).trans (by kernel_rfl)
      go_simp
      exact hK _ _ (Below.refl _ _) rfl
    · refine RStep.mk rfl rfl (fun S a wx K Q hR hK => ?_)
      have t6 : a.tmps[6]? = some (.int .i64 cd) := (hR.old 6 (by kernel_rfl)).trans (by kernel_rfl)
      go_simp
      exact hK _ _ (Below.refl _ _) rfl
    · refine RStep.mk rfl rfl (fun S a wx K Q hR hK => ?_)
      have t21 := hR.eq 0 (by kernel_rfl) rfl rfl
      have t22 := hR.eq 1 (by kernel_rfl) rfl rfl
      go_simp
      (try go_ints)
      exact hK _ _ (Below.refl _ _) rfl
    · refine RStep.mk rfl rfl (fun S a wx K Q hR hK => ?_)
      have t23 := hR.eq 2 (by kernel_rfl) rfl rfl
      go_simp
      exact hK _ _ (Below.refl _ _) rfl
    · refine RStep.mk rfl rfl (fun S a wx K Q hR hK => ?_)
      have t3 : a.tmps[3]? = some (.pointer (some ⟨b3, 0, none⟩)) := (hR.old 3 (by kernel_rfl)).trans (by kernel_rfl)
      have y0 := (hR.bel.cell l3).trans (by rw [cell_of_row w4 _ 0 _ _ _ hh3])
      have y1 := (hR.bel.cell l3).trans (by rw [cell_of_row w4 _ 1 _ _ _ hh3])
      have y2 := (hR.bel.cell l3).trans (by rw [cell_of_row w4 _ 2 _ _ _ hh3])
      have y3 := (hR.bel.cell l3).trans (by rw [cell_of_row w4 _ 3 _ _ _ hh3])
      have y4 := (hR.bel.cell l3).trans (by rw [cell_of_row w4 _ 4 _ _ _ hh3])
      have y5 := (hR.bel.cell l3).trans (by rw [cell_of_row w4 _ 5 _ _ _ hh3])
      have y6 := (hR.bel.cell l3).trans (by rw [cell_of_row w4 _ 6 _ _ _ hh3])
      have y7 := (hR.bel.cell l3).trans (by rw [cell_of_row w4 _ 7 _ _ _ hh3])
      have y8 := (hR.bel.cell l3).trans (by rw [cell_of_row w4 _ 8 _ _ _ hh3])
      have y9 := (hR.bel.cell l3).trans (by rw [cell_of_row w4 _ 9 _ _ _ hh3])
      have y10 := (hR.bel.cell l3).trans (by rw [cell_of_row w4 _ 10 _ _ _ hh3])
      go_simp
      exact hK _ _ (Below.refl _ _) rfl
    · exact steadyRec r
    · refine RStep.mk rfl rfl (fun S a wx K Q hR hK => ?_)
      have t25 := hR.eq 4 (by kernel_rfl) rfl rfl
      go_simp
      go_at_call 20
      refine (docRecord_any (fun _ => True) true r _ _ HS.out.2.1 HS.out.1 HS.out.2.2 (HA.out.below hR.bel (Nat.le_refl _))).mono ?_
      rintro e w' ⟨⟨vt, rfl, hvt⟩, hbt⟩
      exact hK _ _ hbt (hvt.wider (fun b _ h => hR.new b h))
    · refine RStep.mk rfl rfl (fun S a wx K Q hR hK => ?_)
      have t5 : a.tmps[5]? = some (.pointer (some ⟨b5, 0, none⟩)) := (hR.old 5 (by kernel_rfl)).trans (by kernel_rfl)
      have y0 := (hR.bel.cell l5).trans (by rw [cell_of_row w4 _ 0 _ _ _ hh5])
      have y1 := (hR.bel.cell l5).trans (by rw [cell_of_row w4 _ 1 _ _ _ hh5])
      have y2 := (hR.bel.cell l5).trans (by rw [cell_of_row w4 _ 2 _ _ _ hh5])
      have y3 := (hR.bel.cell l5).trans (by rw [cell_of_row w4 _ 3 _ _ _ hh5])
      have y4 := (hR.bel.cell l5).trans (by rw [cell_of_row w4 _ 4 _ _ _ hh5])
      have y5 := (hR.bel.cell l5).trans (by rw [cell_of_row w4 _ 5 _ _ _ hh5])
      have y6 := (hR.bel.cell l5).trans (by rw [cell_of_row w4 _ 6 _ _ _ hh5])
      have y7 := (hR.bel.cell l5).trans (by rw [cell_of_row w4 _ 7 _ _ _ hh5])
      have y8 := (hR.bel.cell l5).trans (by rw [cell_of_row w4 _ 8 _ _ _ hh5])
      have y9 := (hR.bel.cell l5).trans (by rw [cell_of_row w4 _ 9 _ _ _ hh5])
      have y10 := (hR.bel.cell l5).trans (by rw [cell_of_row w4 _ 10 _ _ _ hh5])
      go_simp
      exact hK _ _ (Below.refl _ _) rfl
    · refine RStep.mk rfl rfl (fun S a wx K Q hR hK => ?_)
      obtain ⟨u26, t26, f26⟩ := hR.of 5 (by kernel_rfl) rfl rfl
      have t27 := hR.eq 6 (by kernel_rfl) rfl rfl
      have f26b : RepR wx S true r u26 := f26
      go_simp
      go_at_call 19
      refine (refSameR_any _ (fun _ => True) true true r r _ _ _ HS.out.2.1 f26b (HB.out.below hR.bel (Nat.le_refl _))).mono ?_
      rintro e w' ⟨rfl, hbt⟩
      rw [Rec.same_refl]
      exact hK _ _ hbt rfl
    · refine RStep.mk rfl rfl (fun S a wx K Q hR hK => ?_)
      have t24 := hR.eq 3 (by kernel_rfl) rfl rfl
      have t28 := hR.eq 7 (by kernel_rfl) rfl rfl
      go_simp
      exact hK _ _ (Below.refl _ _) rfl
    · refine RStep.mk rfl rfl (fun S a wx K Q hR hK => ?_)
      have t29 := hR.eq 8 (by kernel_rfl) rfl rfl
      go_simp
      exact hK _ _ (Below.refl _ _) rfl
    · refine RStep.mk rfl rfl (fun S a wx K Q hR hK => ?_)
      go_simp
      go_at_call 16
      refine (works5_any wx ((HL.out.below hR.bel).mono hR.bel.size)).mono ?_
      rintro e w' ⟨rfl, hbt⟩
      exact hK _ _ hbt rfl
    · refine RStep.mk rfl rfl (fun S a wx K Q hR hK => ?_)
      have t30 := hR.eq 9 (by kernel_rfl) rfl rfl
      have t31 := hR.eq 10 (by kernel_rfl) rfl rfl
      go_simp
      exact hK _ _ (Below.refl _ _) rfl
    · refine RStep.mk rfl rfl (fun S a wx K Q hR hK => ?_)
      have t32 := hR.eq 11 (by kernel_rfl) rfl rfl
      go_simp
      exact hK _ _ (Below.refl _ _) rfl
    intro S1 vs w5 hD
    have HB5 := Lib.hid (HB4.out.trans (hD.bel.mono HB4.out.size))
    simp only [putsL, List.foldl_cons, List.foldl_nil]
    clear hD hh3 hh5
    go_simp
    go_wp2_with fail
    go_ret
    exact ⟨rfl, HB5.out⟩
end Go.Proofs.YtjedgiiplebofaaGreatDoor
