/- The law PredReads, walked. -/
import Derived.Test.YtohjkejdkhdjbaaGreatDoorQ5
namespace Go.Proofs.YtohjkejdkhdjbaaGreatDoor
open Go.RowKit Go
set_option linter.unusedVariables false
set_option linter.unusedSimpArgs false
theorem rdText_size (l : List UInt8) : ((rdText l).getD .zero).size ≤ 32 := by
  cases h : rdText l with
  | none => simp [Ex.zero, Ex.size, Ex.sizes]
  | some e =>
    have := (rdText_some h).2
    simp [Ex.right] at this
    simpa using this.2
set_option maxHeartbeats 1000000 in
set_option maxRecDepth 100000 in
theorem predReads_law (s : ByteArray) (w : World) (hL : Lv w.heap.size w) : Calls Tryz.prog 3 #[.string s] w fun e w' => e = .returned (.bool true) ∧ Below w.heap.size w w' := by
  have HL := Lib.hid hL
  clear hL
  by_cases hs : 300 < s.size
  · have t : decide ((300 : Int) < (s.size : Int)) = true := by simp; omega
    have HW := Lib.hid (works_any w HL.out)
    go_enter Tryz.func3, Tryz.ntmps3
    go_wp2_with fail
    refine HW.out.mono ?_
    rintro e w1 ⟨rfl, hb⟩
    go_wp2_with fail
    go_ret
    exact ⟨rfl, hb⟩
  · have t : decide ((300 : Int) < (s.size : Int)) = false := by simp; omega
    go_enter Tryz.func3, Tryz.ntmps3
    go_wp2_with fail
    refine (predRead_any s _ (by omega) HL.out).mono ?_
    rintro e w1 ⟨v, rfl, hv, hb1⟩
    have hpz := rdText_size s.data.toList
    obtain ⟨p, hp⟩ : ∃ p, p = (rdText s.data.toList).getD .zero := ⟨_, rfl⟩
    obtain ⟨c, hc⟩ : ∃ c, c = code (rdText s.data.toList) := ⟨_, rfl⟩
    rw [← hp] at hpz hv
    rw [← hc]
    obtain ⟨q0, q1, q2, q3, q4, q5, rfl⟩ := hv.conc
    have hz1 := hb1.size
    have hv1 : RepE w1 (fun b => w.heap.size ≤ b ∧ b < w1.heap.size) true p (.agg #[.int .i64 q0, .int .u64 q1, .int .u64 q2, .slice q3 q4 q5]) := hv.wider fun b hb h => ⟨h, hb⟩
    have H1 := Lib.hid (And.intro hv1 (And.intro hb1 (And.intro hp hc)))
    clear hv hb1 hp hc hv1
    go_wp2_with fail
    refine (refRead_any s _ (by omega)).mono ?_
    rintro e w2 ⟨u, rfl, hu, hb2⟩
    rw [← H1.out.2.2.1] at hu
    rw [← H1.out.2.2.2]
    obtain ⟨r0, r1, r2, r3, r4, r5, rfl⟩ := hu.conc
    have hz2 := hb2.size
    rw [World.size_alloc] at hz2
    have hA : Below w1.heap.size w1 w2 := ((Below.refl _ _).alloc (Nat.le_refl _) _).trans (hb2.mono (by simp))
    have hh : w2.heap[w1.heap.size]? = some (.cells #[.int .i64 q0, .int .u64 q1, .int .u64 q2, .slice q3 q4 q5] 26) := (hb2.block _ (by simp)).trans (heap_alloc_new _ _)
    have c2 : ∀ o, w2.cell? ⟨w1.heap.size, o, none⟩ = (#[.int .i64 q0, .int .u64 q1, .int .u64 q2, .slice q3 q4 q5] : Array Value)[o]? := fun o => cell_of_row w2 _ o _ _ _ hh
    have l2 : w1.heap.size < w2.heap.size := by omega
    have H2 := Lib.hid (And.intro hu (And.intro hA hb2))
    clear hu hb2 hA hh
    go_wp2_with fail
    have hbq : Below w2.heap.size w2 (w2.alloc (.cells #[.int .i64 r0, .int .u64 r1, .int .u64 r2, .slice r3 r4 r5] 32)) := (Below.refl _ _).alloc (Nat.le_refl _) _
    have hbw : Below w.heap.size w (w2.alloc (.cells #[.int .i64 r0, .int .u64 r1, .int .u64 r2, .slice r3 r4 r5] 32)) := H1.out.2.1.trans ((H2.out.2.1.mono (by omega)).trans (hbq.mono (by omega)))
    refine (same_any w.heap.size w1.heap.size _ _ _ (fun b h => h) p _ _ 0 c _ (by omega) (by omega) (by simp; omega) (((H1.out.1.below H2.out.2.1 (Nat.le_refl _))).below hbq (Nat.le_refl _)) (H2.out.1.below hbq (Nat.le_refl _))).mono ?_
    rintro e w3 ⟨rfl, hb3⟩
    have hz3 := hb3.size
    rw [World.size_alloc] at hz3
    have HB := Lib.hid (hbw.trans hb3)
    have HW := Lib.hid (works_any w3 ((HL.out.below HB.out).mono HB.out.size))
    clear hbq hbw hb3 c2
    go_wp2_with fail
    refine HW.out.mono ?_
    rintro e w4 ⟨rfl, hb4⟩
    go_wp2_with fail
    go_ret
    exact ⟨rfl, HB.out.trans (hb4.mono HB.out.size)⟩
end Go.Proofs.YtohjkejdkhdjbaaGreatDoor
