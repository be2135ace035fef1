/- Walks. -/
import Derived.Test.YtmgbhhmipmgcpaaGreatDoorQ29
import Derived.Test.YtmgbhhmipmgcpaaGreatDoorQW04n
import Derived.Deep.DeepFit
import Derived.Deep.CutRange
set_option maxHeartbeats 2000000
set_option maxRecDepth 100000
namespace Go.Proofs.YtmgbhhmipmgcpaaGreatDoor
open Go.RowKit Go
set_option linter.unusedVariables false
set_option linter.unusedSimpArgs false
section
variable {P : Program} (w : World)
end
section
variable {P : Program} (w : World)
end
def qO (a b c d : Nat) : Int := if a = c ∧ b = d then 0 else if a < c ∨ (a = c ∧ b < d) then -1 else 1
def lW (a c : Nat) : Int := if a < c then -1 else if c < a then 1 else 0
theorem xw (a b c d : Nat) : qO a b c d = if lW a c = 0 then lW b d else lW a c := by
 unfold qO lW
 repeat' split
 all_goals omega
theorem lY (a b : Nat) (w : World) : Calls Tryz.prog 28 #[.agg #[.int .u64 (a : Nat), .int .u64 (b : Nat)]] w fun e w' => e = .returned (.bool (decide (a = 0) && decide (b = 0))) ∧ Below w.heap.size w w' := by
 go_enter Tryz.func28, Tryz.ntmps28
 go_wp2_with fail
 all_goals
  go_ret
  exact ⟨by simp_all, br.alloc nl _⟩
theorem nL (a : Nat) (w : World) : Calls Tryz.prog 100 #[.int .u64 (a : Nat)] w fun e w' => e = .returned (.bool false) ∧ w' = w := by
 go_enter Tryz.func100, Tryz.ntmps100
 go_wp2_with fail
 go_ret
 exact ⟨by simp, rfl⟩
theorem kF (a c : Nat) (w : World) : Calls Tryz.prog 62 #[.int .u64 (a : Nat), .int .u64 (c : Nat)] w fun e w' => e = .returned (.int .i64 (lW a c)) ∧ w' = w := by
 have HC := hid (show lW a c = if a < c then -1 else if c < a then 1 else 0 from rfl)
 generalize lW a c = z at HC ⊢
 go_enter Tryz.func62, Tryz.ntmps62
 go_wp2_with fail
 refine (nL a w).mono ?_
 rintro e w1 ⟨rfl, rfl⟩
 go_wp2_with fail
 refine (nL c w1).mono ?_
 rintro e w2 ⟨rfl, rfl⟩
 by_cases h1 : a < c
 ·have t1 : (a : Int) < (c : Int) := by omega
  have hz := HC.out
  rw [if_pos h1] at hz
  subst hz
  clear h1 HC
  go_wp2_with fail
  go_ret
  exact ⟨rfl, rfl⟩
 ·by_cases h2 : c < a
  ·have t1 : ¬ (a : Int) < (c : Int) := by omega
   have t2 : (c : Int) < (a : Int) := by omega
   have hz := HC.out
   rw [if_neg h1, if_pos h2] at hz
   subst hz
   clear h1 h2 HC
   go_wp2_with fail
   go_ret
   exact ⟨rfl, rfl⟩
  ·have t1 : ¬ (a : Int) < (c : Int) := by omega
   have t2 : ¬ (c : Int) < (a : Int) := by omega
   have hz := HC.out
   rw [if_neg h1, if_neg h2] at hz
   subst hz
   clear h1 h2 HC
   go_wp2_with fail
   go_ret
   exact ⟨rfl, rfl⟩
theorem uW (x y : Int) (bl : Nat) (w : World) (hx : w.cell? ⟨bl, 0, none⟩ = some (.int .i64 x)) (hy : w.cell? ⟨bl, 1, none⟩ = some (.int .i64 y)) : Calls Tryz.prog 61 #[.slice (some ⟨bl, 0, none⟩) 2 2] w fun e w' => e = .returned (.int .i64 (if x = 0 then y else x)) ∧ w' = w := by
 have HZ := hid (And.intro hx hy)
 go_enter Tryz.func61, Tryz.ntmps61
 go_wp2_with fail
 go_loopw [8] (fun i wr => ∃ j : Nat, j ≤ 2 ∧ i = .int .i64 j ∧ wr = w ∧ (1 ≤ j → x = 0) ∧ (2 ≤ j → y = 0)) (fun i _ => 2 - (intOf i).toNat)
 case atStart => exact ⟨0, by omega, rfl, rfl, by omega, by omega⟩
 case round =>
  obtain ⟨j, hj, rfl, rfl, h1, h2⟩ := hrel
  have hc : j = 0 ∨ j = 1 ∨ j = 2 := by omega
  rcases hc with rfl | rfl | rfl
  ·clear h1 h2
   by_cases h0 : x = 0
   ·subst h0
    go_wp2_with fail
    go_roundw
    case rel => exact ⟨1, by omega, by go_num, by simp⟩
    case measure => simp [intOf]
   ·go_wp2_with fail
    go_ret
    exact ⟨rfl, rfl⟩
  ·have h1 := h1 (by omega)
   subst h1
   clear h2
   by_cases h0 : y = 0
   ·subst h0
    go_wp2_with fail
    go_roundw
    case rel => exact ⟨2, by omega, by go_num, by simp⟩
    case measure => simp [intOf]
   ·go_wp2_with fail
    go_ret
    exact ⟨rfl, rfl⟩
  ·have h1 := h1 (by omega)
   have h2 := h2 (by omega)
   subst h1 h2
   go_wp2_with fail
   go_ret
   exact ⟨rfl, rfl⟩
theorem lZ (va vb vc vd : Nat) (w : World) : Calls Tryz.prog 24 #[.agg #[.int .u64 (va : Nat), .int .u64 (vb : Nat)], .agg #[.int .u64 (vc : Nat), .int .u64 (vd : Nat)]] w fun e w' => e = .returned (.int .i64 (qO va vb vc vd)) ∧ Below w.heap.size w w' := by
 obtain ⟨Z, hZ⟩ : ∃ Z, Z = qO va vb vc vd := ⟨_, rfl⟩
 rw [← hZ]
 rw [xw] at hZ
 obtain ⟨X, hX⟩ : ∃ X, X = (w.alloc (.cells #[.int .u64 (va : Nat), .int .u64 (vb : Nat)] 41)).alloc (.cells #[.int .u64 (vc : Nat), .int .u64 (vd : Nat)] 41) := ⟨_, rfl⟩
 have hb : Below w.heap.size w X := by rw [hX]; exact (br.alloc nl _).alloc (by simp) _
 have p0 : X.heap[w.heap.size]? = some (.cells #[.int .u64 (va : Nat), .int .u64 (vb : Nat)] 41 (0, 0)) := by rw [hX]; exact heap_alloc2_old _ _ _
 have p1 : X.heap[w.heap.size + 1]? = some (.cells #[.int .u64 (vc : Nat), .int .u64 (vd : Nat)] 41 (0, 0)) := by rw [hX]; exact aa _ _ _ (by simp)
 have HX := hid (And.intro hb (And.intro p0 p1))
 have HE := hid hX
 clear hb p0 p1 hX
 go_enter Tryz.func24, Tryz.ntmps24
 go_upto_region 1 with fail
 rw [← HE.out]
 clear HE
 have c0 : X.cell? ⟨w.heap.size, 0, none⟩ = some (.int .u64 (va : Nat)) := by rw [cell_of_row X _ 0 _ _ _ HX.out.2.1]; rfl
 have c1 : X.cell? ⟨w.heap.size, 1, none⟩ = some (.int .u64 (vb : Nat)) := by rw [cell_of_row X _ 1 _ _ _ HX.out.2.1]; rfl
 have c2 : X.cell? ⟨w.heap.size + 1, 0, none⟩ = some (.int .u64 (vc : Nat)) := by rw [cell_of_row X _ 0 _ _ _ HX.out.2.2]; rfl
 have c3 : X.cell? ⟨w.heap.size + 1, 1, none⟩ = some (.int .u64 (vd : Nat)) := by rw [cell_of_row X _ 1 _ _ _ HX.out.2.2]; rfl
 generalize hA : lW va vc = A
 generalize hB : lW vb vd = B
 have HA := hid (And.intro hA hB)
 rw [hA, hB] at hZ
 have HZ := hid hZ.symm
 have l1 : w.heap.size + 1 < X.heap.size := (Array.getElem?_eq_some_iff.1 HX.out.2.2).1
 have l0 : w.heap.size < X.heap.size := by omega
 clear hA hB hZ
 refine aA (w0 := X) rfl [.eq (.pointer (some ⟨w.heap.size, 0, none⟩)), .eq (.int .u64 (va : Nat)), .eq (.pointer (some ⟨w.heap.size + 1, 0, none⟩)), .eq (.int .u64 (vc : Nat)), .eq (.int .i64 A), .eq (.pointer (some ⟨w.heap.size, 1, none⟩)), .eq (.int .u64 (vb : Nat)), .eq (.pointer (some ⟨w.heap.size + 1, 1, none⟩)), .eq (.int .u64 (vd : Nat)), .eq (.int .i64 B), .of (gY 2 2 #[.int .i64 A, .int .i64 B]), .eq (.int .i64 Z), .eq (.int .i64 Z)] (by kernel_rfl) ⟨?_, ?_, ?_, ?_, ?_, ?_, ?_, ?_, ?_, ?_, ?_, ?_, ?_, ?_, trivial⟩ (fun vs => [(5, (.pointer (some ⟨w.heap.size, 0, none⟩))), (6, (.int .u64 (va : Nat))), (7, (.pointer (some ⟨w.heap.size + 1, 0, none⟩))), (8, (.int .u64 (vc : Nat))), (9, (.int .i64 A)), (10, (.pointer (some ⟨w.heap.size, 1, none⟩))), (11, (.int .u64 (vb : Nat))), (12, (.pointer (some ⟨w.heap.size + 1, 1, none⟩))), (13, (.int .u64 (vd : Nat))), (14, (.int .i64 B)), (15, vs 10), (16, (.int .i64 Z)), (4, (.int .i64 Z))]) (fun _ => rfl) ?_
 ·refine rs fun S a wx K Q hR hK => ?_
  have t2 : a.tmps[2]? = some (.pointer (some ⟨w.heap.size, 0, none⟩)) := hR.o 2
  go_simp
  exact hK _ _ br rfl
 ·refine rs fun S a wx K Q hR hK => ?_
  have t5 := hR.q 0
  have y0 := (hR.bel.cell l0).trans c0
  go_simp
  exact hK _ _ br rfl
 ·refine rs fun S a wx K Q hR hK => ?_
  have t3 : a.tmps[3]? = some (.pointer (some ⟨w.heap.size + 1, 0, none⟩)) := hR.o 3
  go_simp
  exact hK _ _ br rfl
 ·refine rs fun S a wx K Q hR hK => ?_
  have t7 := hR.q 2
  have y0 := (hR.bel.cell l1).trans c2
  go_simp
  exact hK _ _ br rfl
 ·refine rs fun S a wx K Q hR hK => ?_
  have t6 := hR.q 1
  have t8 := hR.q 3
  go_simp
  go_at_call 62
  go_fit (kF va vc _)
  rintro e w' ⟨rfl, rfl⟩
  exact hK _ _ br (by show Value.int .i64 (lW va vc) = _; rw [HA.out.1])
 ·refine rs fun S a wx K Q hR hK => ?_
  have t2 : a.tmps[2]? = some (.pointer (some ⟨w.heap.size, 0, none⟩)) := hR.o 2
  go_simp
  exact hK _ _ br rfl
 ·refine rs fun S a wx K Q hR hK => ?_
  have t10 := hR.q 5
  have y0 := (hR.bel.cell l0).trans c1
  go_simp
  exact hK _ _ br rfl
 ·refine rs fun S a wx K Q hR hK => ?_
  have t3 : a.tmps[3]? = some (.pointer (some ⟨w.heap.size + 1, 0, none⟩)) := hR.o 3
  go_simp
  exact hK _ _ br rfl
 ·refine rs fun S a wx K Q hR hK => ?_
  have t12 := hR.q 7
  have y0 := (hR.bel.cell l1).trans c3
  go_simp
  exact hK _ _ br rfl
 ·refine rs fun S a wx K Q hR hK => ?_
  have t11 := hR.q 6
  have t13 := hR.q 8
  go_simp
  go_at_call 62
  go_fit (kF vb vd _)
  rintro e w' ⟨rfl, rfl⟩
  exact hK _ _ br (by show Value.int .i64 (lW vb vd) = _; rw [HA.out.2])
 ·exact fC _ _ _
 ·refine rs fun S a wx K Q hR hK => ?_
  have t9 := hR.q 4
  have t14 := hR.q 9
  go_simp
  exact hK _ _ (br.alloc nl _) ⟨_, _, rfl, hR.new _ nl, heap_alloc_new _ _⟩
 ·refine rs fun S a wx K Q hR hK => ?_
  obtain ⟨u15, t15, f15⟩ := hR.f 10
  obtain ⟨g15, T15, rfl, hS15, h15⟩ := f15
  go_simp
  go_at_call 61
  refine (uW A B g15 _ (by rw [cell_of_row _ _ 0 _ _ _ h15]; rfl) (by rw [cell_of_row _ _ 1 _ _ _ h15]; rfl)).mono ?_
  rintro e w' ⟨rfl, rfl⟩
  exact hK _ _ br (by show Value.int .i64 (if A = 0 then B else A) = _; rw [HZ.out])
 ·refine rs fun S a wx K Q hR hK => ?_
  have t16 := hR.q 11
  go_simp
  exact hK _ _ br rfl
 intro S1 vs w5 hD
 have HB5 := hid (HX.out.1.trans (hD.bel.mono HX.out.1.size))
 simp only [aM, List.foldl_cons, List.foldl_nil]
 clear hD c0 c1 c2 c3
 go_simp
 go_wp2_with fail
 go_ret
 exact ⟨rfl, HB5.out⟩
theorem ma (a b c d : Nat) (w : World) : Calls Tryz.prog 25 #[.agg #[.int .u64 (a : Nat), .int .u64 (b : Nat)], .agg #[.int .u64 (c : Nat), .int .u64 (d : Nat)]] w fun e w' => e = .returned (.int .i64 (qO a b c d)) ∧ Below w.heap.size w w' := by
 obtain ⟨Z, hZ⟩ : ∃ Z, Z = qO a b c d := ⟨_, rfl⟩
 rw [← hZ]
 unfold qO at hZ
 by_cases h1 : a = c
 ·by_cases h2 : b = d
  ·subst h1 h2
   rw [if_pos ⟨rfl, rfl⟩] at hZ
   subst hZ
   go_enter Tryz.func25, Tryz.ntmps25
   go_wp2_with fail
   go_ret
   exact ⟨rfl, (br.alloc nl _).alloc (by simp) _⟩
  ·subst h1
   have t0 : ¬ (b : Int) = (d : Int) := by omega
   have t1 : ¬ (a : Int) < (a : Int) := by omega
   by_cases h3 : b < d
   ·rw [if_neg (by omega), if_pos (.inr ⟨rfl, h3⟩)] at hZ
    subst hZ
    have t2 : (b : Int) < (d : Int) := by omega
    go_enter Tryz.func25, Tryz.ntmps25
    go_wp2_with fail
    go_ret
    exact ⟨rfl, (br.alloc nl _).alloc (by simp) _⟩
   ·rw [if_neg (by omega), if_neg (by omega)] at hZ
    subst hZ
    have t2 : ¬ (b : Int) < (d : Int) := by omega
    go_enter Tryz.func25, Tryz.ntmps25
    go_wp2_with fail
    go_ret
    exact ⟨rfl, (br.alloc nl _).alloc (by simp) _⟩
 ·have t0 : ¬ (a : Int) = (c : Int) := by omega
  by_cases h3 : a < c
  ·rw [if_neg (by omega), if_pos (.inl h3)] at hZ
   subst hZ
   have t2 : (a : Int) < (c : Int) := by omega
   go_enter Tryz.func25, Tryz.ntmps25
   go_wp2_with fail
   go_ret
   exact ⟨rfl, (br.alloc nl _).alloc (by simp) _⟩
  ·rw [if_neg (by omega), if_neg (by omega)] at hZ
   subst hZ
   have t2 : ¬ (a : Int) < (c : Int) := by omega
   go_enter Tryz.func25, Tryz.ntmps25
   go_wp2_with fail
   go_ret
   exact ⟨rfl, (br.alloc nl _).alloc (by simp) _⟩
end Go.Proofs.YtmgbhhmipmgcpaaGreatDoor
