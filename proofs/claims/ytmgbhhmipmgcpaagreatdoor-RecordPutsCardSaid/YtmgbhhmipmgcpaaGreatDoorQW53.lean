/- Walks. -/
import Derived.Test.YtmgbhhmipmgcpaaGreatDoorQ30
import Derived.Test.YtmgbhhmipmgcpaaGreatDoorQ29
import Derived.Laws.IdiomStrings
namespace Go.Proofs.YtmgbhhmipmgcpaaGreatDoor
open Go.RowKit Go
set_option linter.unusedVariables false
set_option linter.unusedSimpArgs false
theorem iY (S : Nat → Prop) (own : Bool) (r : Rec) (v : Value) (w : World) (hv : aI w S own r v) :
  Calls Tryz.prog 13 #[v] w fun e w' => e = .returned (.bool (decide (r.es.length ≤ 60) && decide (r.p.size ≤ 60))) ∧ Below w.heap.size w w' := by
 obtain ⟨k0, k1, k2, k3, k4, k5, k6, k7, rfl, hk1, hk2, hnums, he, hes⟩ := hv.conc
 obtain ⟨n6, hn6⟩ : ∃ n6, n6 = r.es.length := ⟨_, rfl⟩
 have hb : Below w.heap.size w (w.alloc (.cells #[.int .i64 r.k, .int .u64 r.t, .int .u64 r.x, .int .u64 r.w, .int .u64 r.n, .int .u64 r.v, .int .i64 k0, .int .u64 k1, .int .u64 k2, .slice k3 k4 k5, .slice k6 n6 k7] 47)) := br.alloc nl _
 have HE := hid (ry S own r.p _ _ (he.below hb nl))
 have HB := hid hb
 have hl := hes.shape.1
 rw [← hn6] at hl ⊢
 clear hv he hes hb hn6 hnums
 by_cases h6 : n6 ≤ 60
 ·have t1 : decide ((n6 : Int) ≤ 60) = true := by simp; omega
  have HK := hid h6
  clear h6
  go_enter Tryz.func13, Tryz.ntmps13
  go_wp2_with fail
  refine HE.out.mono ?_
  rintro e w1 ⟨rfl, hb1⟩
  have HB1 := hid (HB.out.trans (hb1.mono (by simp)))
  clear hb1
  go_wp2_with fail
  go_ret
  exact ⟨aj (by simp [HK.out]), HB1.out⟩
 ·have t1 : decide ((n6 : Int) ≤ 60) = false := by simp; omega
  have HK := hid h6
  clear h6
  go_enter Tryz.func13, Tryz.ntmps13
  go_wp2_with fail
  go_ret
  exact ⟨aj (by simp [HK.out]), HB.out⟩
end Go.Proofs.YtmgbhhmipmgcpaaGreatDoor
