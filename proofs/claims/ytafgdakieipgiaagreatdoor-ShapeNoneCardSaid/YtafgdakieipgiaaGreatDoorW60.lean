/- Walk: a record of few parts, by its cells alone. -/
import Derived.Test.YtafgdakieipgiaaGreatDoorW61
namespace Go.Proofs.YtafgdakieipgiaaGreatDoor
open Go.RowKit Go
set_option linter.unusedVariables false
set_option linter.unusedSimpArgs false
theorem docFewRec_cells (S : Nat → Prop) (own : Bool) (e : Ex) (c0 c1 c2 c3 c4 c5 : Value) (k0 k1 k2 : Int) (k3 k6 : Option Addr) (k4 k5 n6 k7 : Nat) (w : World) (he : RepE w S own e (.agg #[.int .i64 k0, .int .u64 k1, .int .u64 k2, .slice k3 k4 k5])) :
    Calls Tryz.prog 4 #[.agg #[c0, c1, c2, c3, c4, c5, .int .i64 k0, .int .u64 k1, .int .u64 k2, .slice k3 k4 k5, .slice k6 n6 k7]] w fun r w' => r = .returned (.bool (decide (n6 ≤ 60) && decide (e.size ≤ 60))) ∧ Below w.heap.size w w' := by
  have hb : Below w.heap.size w (w.alloc (.cells #[c0, c1, c2, c3, c4, c5, .int .i64 k0, .int .u64 k1, .int .u64 k2, .slice k3 k4 k5, .slice k6 n6 k7] 30)) := (Below.refl _ _).alloc (Nat.le_refl _) _
  have HE := Lib.hid (docFew_any S own e _ _ (he.below hb (Nat.le_refl _)))
  have HB := Lib.hid hb
  clear he hb
  by_cases h6 : n6 ≤ 60
  · have t1 : decide ((n6 : Int) ≤ 60) = true := by simp; omega
    have HK := Lib.hid h6
    clear h6
    go_enter Tryz.func4, Tryz.ntmps4
    go_wp2_with fail
    refine HE.out.mono ?_
    rintro e w1 ⟨rfl, hb1⟩
    have HB1 := Lib.hid (HB.out.trans (hb1.mono (by simp)))
    clear hb1
    go_wp2_with fail
    go_ret
    exact ⟨ret_bool (by simp [HK.out]), HB1.out⟩
  · have t1 : decide ((n6 : Int) ≤ 60) = false := by simp; omega
    have HK := Lib.hid h6
    clear h6
    go_enter Tryz.func4, Tryz.ntmps4
    go_wp2_with fail
    go_ret
    exact ⟨ret_bool (by simp [HK.out]), HB.out⟩
end Go.Proofs.YtafgdakieipgiaaGreatDoor
