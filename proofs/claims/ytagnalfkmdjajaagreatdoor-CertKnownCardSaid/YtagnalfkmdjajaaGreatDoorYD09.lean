/- Walks. -/
import Derived.Test.YtagnalfkmdjajaaGreatDoorY29
set_option maxHeartbeats 12000000
set_option maxRecDepth 100000
namespace Go.Proofs.YtagnalfkmdjajaaGreatDoor
open Go.RowKit Go
set_option linter.unusedVariables false
set_option linter.unusedSimpArgs false
theorem BH (cb rd rb : Nat) (l : List UInt8) (sv : Value) (s : Option (List UInt8)) (w : World) (hs : SF w cb rd rb sv) (hc : w.heap[cb]? = some (.cells #[.int .i64 2, .slice none 0 0, .int .i64 0, .int .i64 0, .slice none 0 0] 25 (0, 0))) (hr : RD rd rb l sv s false w) :
  Calls Tryz.prog 29 #[.pointer (some ⟨cb, 0, none⟩), .iface 80 (.pointer (some ⟨rd, 0, none⟩))] w (xP cb rd rb l sv 2 s w) := by
 have hcl : cb < w.heap.size := hs.lcb
 have HS := hid hs
 have HW := hid hr
 have HC := hid hc
 have d0 : w.cell? ⟨cb, 0, none⟩ = some (.int .i64 2) := by rw [cell_of_row w _ 0 _ _ _ hc]; rfl
 have d2 : w.cell? ⟨cb, 2, none⟩ = some (.int .i64 0) := by rw [cell_of_row w _ 2 _ _ _ hc]; rfl
 have z2 : w.frozen? ⟨cb, 2, none⟩ = false := by rw [frozen_of_row w _ 2 _ _ hc]
 clear hr hc hs
 go_enter Tryz.func29, Tryz.ntmps29
 go_upto_region 1 with fail
 refine ak (w0 := w) rfl [.eq (.iface 80 (.pointer (some ⟨rd, 0, none⟩))), .eq (.pointer (some ⟨cb, 0, none⟩)), .eq (.pointer (some ⟨cb, 0, none⟩)), .eq (.pointer (some ⟨cb, 2, none⟩)), .eq (.func (.method "alibi/cert.whole") #[.iface 80 (.pointer (some ⟨rd, 0, none⟩))] #[]), .eq (.func (.method "alibi/cert.whole") #[.iface 80 (.pointer (some ⟨rd, 0, none⟩))] #[]), .eq (.iface 80 (.pointer (some ⟨rd, 0, none⟩))), .tail] 7 [] [] (by kernel_rfl) ⟨?_, ?_, ?_, ?_, ?_, ?_, ?_, trivial⟩ trivial [fun vs w' => tq rd rb l sv (aB s).2 (false || decide (9223372036854775807 + 0 < (aB s).1)) cb 2 (.int .i64 (eZ 0 (aB s).1)) w w'] ⟨?_, trivial⟩ (fun vs => [(17, (.iface 80 (.pointer (some ⟨rd, 0, none⟩)))), (18, (.pointer (some ⟨cb, 0, none⟩))), (19, (.pointer (some ⟨cb, 0, none⟩))), (20, (.pointer (some ⟨cb, 2, none⟩))), (21, (.func (.method "alibi/cert.whole") #[.iface 80 (.pointer (some ⟨rd, 0, none⟩))] #[])), (22, (.func (.method "alibi/cert.whole") #[.iface 80 (.pointer (some ⟨rd, 0, none⟩))] #[])), (23, (.iface 80 (.pointer (some ⟨rd, 0, none⟩)))), (24, vs 7)]) (fun _ => rfl) ?_
 ·refine rs fun S a wx K Q hR hK => ?_
  have t1 : a.tmps[1]? = some (.iface 80 (.pointer (some ⟨rd, 0, none⟩))) := hR.o 1
  go_simp
  exact hK _ _ br rfl
 ·refine rs fun S a wx K Q hR hK => ?_
  have t0 : a.tmps[0]? = some (.pointer (some ⟨cb, 0, none⟩)) := hR.o 0
  go_simp
  exact hK _ _ br rfl
 ·refine rs fun S a wx K Q hR hK => ?_
  have t18 := hR.q 1
  go_simp
  exact hK _ _ br rfl
 ·refine rs fun S a wx K Q hR hK => ?_
  have t19 := hR.q 2
  go_simp
  exact hK _ _ br rfl
 ·refine rs fun S a wx K Q hR hK => ?_
  have t17 := hR.q 0
  go_simp
  exact hK _ _ br rfl
 ·refine rs fun S a wx K Q hR hK => ?_
  have t21 := hR.q 4
  refine bF (.tmp 21) rfl (aI t21) (gu rd _) ?_
  exact hK _ _ br rfl
 ·refine rs fun S a wx K Q hR hK => ?_
  have t17 := hR.q 0
  go_simp
  exact hK _ _ br rfl
 ·refine ts fun vs a wx K Q hR hZ hK => ?_
  have t23 := hR.d 6 23
  rw [hR.eqs 6 _ rfl] at t23
  have t20 := hR.d 3 20
  rw [hR.eqs 3 _ rfl] at t20
  obtain ⟨hbel2, S2, hlow, hof⟩ := hZ
  have hwx := HW.out.below hbel2
  go_simp
  go_invoke
  go_simp
  go_at_call 175
  refine (gI cb 2 0 (.int .i64 0) hwx HS.out.cbrb HS.out.cbrd HS.out.offc (by omega) ((hbel2.cell (p := ⟨cb, 2, none⟩) hcl).trans d2) ((hbel2.frozen (p := ⟨cb, 2, none⟩) hcl).trans z2) rfl).mono ?_
  rintro e w2 ⟨rfl, ht⟩
  exact hK _ _ (ht.from_below hbel2 hcl)
 intro vs wN hE hZ
 have HZ := hid hZ
 simp only [aP, List.foldl_cons, List.foldl_nil]
 clear hE hZ
 generalize vs 7 = vt
 go_simp
 have hcN : wN.heap[cb]? = some (.cells #[.int .i64 2, .slice none 0 0, .int .i64 (eZ 0 (aB s).1), .int .i64 0, .slice none 0 0] 25 (0, 0)) := HZ.out.at'.trans (aQ HC.out rfl)
 have HCN := hid hcN
 have d3 : wN.cell? ⟨cb, 3, none⟩ = some (.int .i64 0) := by rw [cell_of_row wN _ 3 _ _ _ hcN]; rfl
 have z3 : wN.frozen? ⟨cb, 3, none⟩ = false := by rw [frozen_of_row wN _ 3 _ _ hcN]
 have hcl1 : cb < wN.heap.size := (Array.getElem?_eq_some_iff.1 hcN).1
 have HT1 := HZ
 have HW1 := hid HZ.out.rs
 clear HW HZ hcN d0 d2 z2
 have HW := HW1
 clear HW1
 go_wp2_with fail
 refine ak (w0 := wN) rfl [.eq (.iface 80 (.pointer (some ⟨rd, 0, none⟩))), .eq (.pointer (some ⟨cb, 0, none⟩)), .eq (.pointer (some ⟨cb, 0, none⟩)), .eq (.pointer (some ⟨cb, 3, none⟩)), .eq (.func (.method "alibi/cert.whole") #[.iface 80 (.pointer (some ⟨rd, 0, none⟩))] #[]), .eq (.func (.method "alibi/cert.whole") #[.iface 80 (.pointer (some ⟨rd, 0, none⟩))] #[]), .eq (.iface 80 (.pointer (some ⟨rd, 0, none⟩))), .tail] 7 [] [] (by kernel_rfl) ⟨?_, ?_, ?_, ?_, ?_, ?_, ?_, trivial⟩ trivial [fun vs w' => tq rd rb l sv (aB (aB s).2).2 ((false || decide (9223372036854775807 + 0 < (aB s).1)) || decide (9223372036854775807 + 0 < (aB (aB s).2).1)) cb 3 (.int .i64 (eZ 0 (aB (aB s).2).1)) wN w'] ⟨?_, trivial⟩ (fun vs => [(25, (.iface 80 (.pointer (some ⟨rd, 0, none⟩)))), (26, (.pointer (some ⟨cb, 0, none⟩))), (27, (.pointer (some ⟨cb, 0, none⟩))), (28, (.pointer (some ⟨cb, 3, none⟩))), (29, (.func (.method "alibi/cert.whole") #[.iface 80 (.pointer (some ⟨rd, 0, none⟩))] #[])), (30, (.func (.method "alibi/cert.whole") #[.iface 80 (.pointer (some ⟨rd, 0, none⟩))] #[])), (31, (.iface 80 (.pointer (some ⟨rd, 0, none⟩)))), (32, vs 7)]) (fun _ => rfl) ?_
 ·refine rs fun S a wx K Q hR hK => ?_
  have t1 : a.tmps[1]? = some (.iface 80 (.pointer (some ⟨rd, 0, none⟩))) := hR.o 1
  go_simp
  exact hK _ _ br rfl
 ·refine rs fun S a wx K Q hR hK => ?_
  have t0 : a.tmps[0]? = some (.pointer (some ⟨cb, 0, none⟩)) := hR.o 0
  go_simp
  exact hK _ _ br rfl
 ·refine rs fun S a wx K Q hR hK => ?_
  have t26 := hR.q 1
  go_simp
  exact hK _ _ br rfl
 ·refine rs fun S a wx K Q hR hK => ?_
  have t27 := hR.q 2
  go_simp
  exact hK _ _ br rfl
 ·refine rs fun S a wx K Q hR hK => ?_
  have t25 := hR.q 0
  go_simp
  exact hK _ _ br rfl
 ·refine rs fun S a wx K Q hR hK => ?_
  have t29 := hR.q 4
  refine bF (.tmp 29) rfl (aI t29) (gu rd _) ?_
  exact hK _ _ br rfl
 ·refine rs fun S a wx K Q hR hK => ?_
  have t25 := hR.q 0
  go_simp
  exact hK _ _ br rfl
 ·refine ts fun vs a wx K Q hR hZ hK => ?_
  have t31 := hR.d 6 31
  rw [hR.eqs 6 _ rfl] at t31
  have t28 := hR.d 3 28
  rw [hR.eqs 3 _ rfl] at t28
  obtain ⟨hbel2, S2, hlow, hof⟩ := hZ
  have hwx := HW.out.below hbel2
  go_simp
  go_invoke
  go_simp
  go_at_call 175
  refine (gI cb 3 0 (.int .i64 0) hwx HS.out.cbrb HS.out.cbrd HS.out.offc (by omega) ((hbel2.cell (p := ⟨cb, 3, none⟩) hcl1).trans d3) ((hbel2.frozen (p := ⟨cb, 3, none⟩) hcl1).trans z3) rfl).mono ?_
  rintro e w2 ⟨rfl, ht⟩
  exact hK _ _ (ht.from_below hbel2 hcl1)
 intro vs wE hE hZ
 have HZ := hid hZ
 simp only [aP, List.foldl_cons, List.foldl_nil]
 clear hE hZ
 generalize vs 7 = vt
 go_simp
 (try (go_wp2_with fail))
 go_end0
 refine ⟨rfl, #[.int .i64 2, .slice none 0 0, .int .i64 (eZ 0 (aB s).1), .int .i64 (eZ 0 (aB (aB s).2).1), .slice none 0 0], HZ.out.at'.trans (aQ HCN.out rfl), ?_, ?_, ?_⟩
 ·rw [Az (by decide) (by decide)]
  exact ⟨_, _, rfl, bn.nil _ _ _, aX.nil _ _ _⟩
 ·rw [Dr (by decide) (by decide)]
  exact HZ.out.rs
 ·exact (HT1.out.kx.wider fun b _ h => by rcases h with h | h | h; exact .inr (.inl h); exact .inr (.inr h); exact .inl h).trans (HZ.out.kx.wider fun b _ h => by rcases h with h | h | h; exact .inr (.inl h); exact .inr (.inr h); exact .inl h)
theorem BI (cb rd rb : Nat) (l : List UInt8) (sv : Value) (s : Option (List UInt8)) (w : World) (hs : SF w cb rd rb sv) (hc : w.heap[cb]? = some (.cells #[.int .i64 3, .slice none 0 0, .int .i64 0, .int .i64 0, .slice none 0 0] 25 (0, 0))) (hr : RD rd rb l sv s false w) :
  Calls Tryz.prog 29 #[.pointer (some ⟨cb, 0, none⟩), .iface 80 (.pointer (some ⟨rd, 0, none⟩))] w (xP cb rd rb l sv 3 s w) := by
 have hcl : cb < w.heap.size := hs.lcb
 have HS := hid hs
 have HW := hid hr
 have HC := hid hc
 have d0 : w.cell? ⟨cb, 0, none⟩ = some (.int .i64 3) := by rw [cell_of_row w _ 0 _ _ _ hc]; rfl
 have d2 : w.cell? ⟨cb, 2, none⟩ = some (.int .i64 0) := by rw [cell_of_row w _ 2 _ _ _ hc]; rfl
 have z2 : w.frozen? ⟨cb, 2, none⟩ = false := by rw [frozen_of_row w _ 2 _ _ hc]
 clear hr hc hs
 go_enter Tryz.func29, Tryz.ntmps29
 go_upto_region 1 with fail
 refine ak (w0 := w) rfl [.eq (.iface 80 (.pointer (some ⟨rd, 0, none⟩))), .eq (.pointer (some ⟨cb, 0, none⟩)), .eq (.pointer (some ⟨cb, 0, none⟩)), .eq (.pointer (some ⟨cb, 2, none⟩)), .eq (.func (.method "alibi/cert.whole") #[.iface 80 (.pointer (some ⟨rd, 0, none⟩))] #[]), .eq (.func (.method "alibi/cert.whole") #[.iface 80 (.pointer (some ⟨rd, 0, none⟩))] #[]), .eq (.iface 80 (.pointer (some ⟨rd, 0, none⟩))), .tail] 7 [] [] (by kernel_rfl) ⟨?_, ?_, ?_, ?_, ?_, ?_, ?_, trivial⟩ trivial [fun vs w' => tq rd rb l sv (aB s).2 (false || decide (9223372036854775807 + 0 < (aB s).1)) cb 2 (.int .i64 (eZ 0 (aB s).1)) w w'] ⟨?_, trivial⟩ (fun vs => [(17, (.iface 80 (.pointer (some ⟨rd, 0, none⟩)))), (18, (.pointer (some ⟨cb, 0, none⟩))), (19, (.pointer (some ⟨cb, 0, none⟩))), (20, (.pointer (some ⟨cb, 2, none⟩))), (21, (.func (.method "alibi/cert.whole") #[.iface 80 (.pointer (some ⟨rd, 0, none⟩))] #[])), (22, (.func (.method "alibi/cert.whole") #[.iface 80 (.pointer (some ⟨rd, 0, none⟩))] #[])), (23, (.iface 80 (.pointer (some ⟨rd, 0, none⟩)))), (24, vs 7)]) (fun _ => rfl) ?_
 ·refine rs fun S a wx K Q hR hK => ?_
  have t1 : a.tmps[1]? = some (.iface 80 (.pointer (some ⟨rd, 0, none⟩))) := hR.o 1
  go_simp
  exact hK _ _ br rfl
 ·refine rs fun S a wx K Q hR hK => ?_
  have t0 : a.tmps[0]? = some (.pointer (some ⟨cb, 0, none⟩)) := hR.o 0
  go_simp
  exact hK _ _ br rfl
 ·refine rs fun S a wx K Q hR hK => ?_
  have t18 := hR.q 1
  go_simp
  exact hK _ _ br rfl
 ·refine rs fun S a wx K Q hR hK => ?_
  have t19 := hR.q 2
  go_simp
  exact hK _ _ br rfl
 ·refine rs fun S a wx K Q hR hK => ?_
  have t17 := hR.q 0
  go_simp
  exact hK _ _ br rfl
 ·refine rs fun S a wx K Q hR hK => ?_
  have t21 := hR.q 4
  refine bF (.tmp 21) rfl (aI t21) (gu rd _) ?_
  exact hK _ _ br rfl
 ·refine rs fun S a wx K Q hR hK => ?_
  have t17 := hR.q 0
  go_simp
  exact hK _ _ br rfl
 ·refine ts fun vs a wx K Q hR hZ hK => ?_
  have t23 := hR.d 6 23
  rw [hR.eqs 6 _ rfl] at t23
  have t20 := hR.d 3 20
  rw [hR.eqs 3 _ rfl] at t20
  obtain ⟨hbel2, S2, hlow, hof⟩ := hZ
  have hwx := HW.out.below hbel2
  go_simp
  go_invoke
  go_simp
  go_at_call 175
  refine (gI cb 2 0 (.int .i64 0) hwx HS.out.cbrb HS.out.cbrd HS.out.offc (by omega) ((hbel2.cell (p := ⟨cb, 2, none⟩) hcl).trans d2) ((hbel2.frozen (p := ⟨cb, 2, none⟩) hcl).trans z2) rfl).mono ?_
  rintro e w2 ⟨rfl, ht⟩
  exact hK _ _ (ht.from_below hbel2 hcl)
 intro vs wN hE hZ
 have HZ := hid hZ
 simp only [aP, List.foldl_cons, List.foldl_nil]
 clear hE hZ
 generalize vs 7 = vt
 go_simp
 have hcN : wN.heap[cb]? = some (.cells #[.int .i64 3, .slice none 0 0, .int .i64 (eZ 0 (aB s).1), .int .i64 0, .slice none 0 0] 25 (0, 0)) := HZ.out.at'.trans (aQ HC.out rfl)
 have HCN := hid hcN
 have d3 : wN.cell? ⟨cb, 3, none⟩ = some (.int .i64 0) := by rw [cell_of_row wN _ 3 _ _ _ hcN]; rfl
 have z3 : wN.frozen? ⟨cb, 3, none⟩ = false := by rw [frozen_of_row wN _ 3 _ _ hcN]
 have hcl1 : cb < wN.heap.size := (Array.getElem?_eq_some_iff.1 hcN).1
 have HT1 := HZ
 have HW1 := hid HZ.out.rs
 clear HW HZ hcN d0 d2 z2
 have HW := HW1
 clear HW1
 go_wp2_with fail
 refine ak (w0 := wN) rfl [.eq (.iface 80 (.pointer (some ⟨rd, 0, none⟩))), .eq (.pointer (some ⟨cb, 0, none⟩)), .eq (.pointer (some ⟨cb, 0, none⟩)), .eq (.pointer (some ⟨cb, 3, none⟩)), .eq (.func (.method "alibi/cert.whole") #[.iface 80 (.pointer (some ⟨rd, 0, none⟩))] #[]), .eq (.func (.method "alibi/cert.whole") #[.iface 80 (.pointer (some ⟨rd, 0, none⟩))] #[]), .eq (.iface 80 (.pointer (some ⟨rd, 0, none⟩))), .tail] 7 [] [] (by kernel_rfl) ⟨?_, ?_, ?_, ?_, ?_, ?_, ?_, trivial⟩ trivial [fun vs w' => tq rd rb l sv (aB (aB s).2).2 ((false || decide (9223372036854775807 + 0 < (aB s).1)) || decide (9223372036854775807 + 0 < (aB (aB s).2).1)) cb 3 (.int .i64 (eZ 0 (aB (aB s).2).1)) wN w'] ⟨?_, trivial⟩ (fun vs => [(25, (.iface 80 (.pointer (some ⟨rd, 0, none⟩)))), (26, (.pointer (some ⟨cb, 0, none⟩))), (27, (.pointer (some ⟨cb, 0, none⟩))), (28, (.pointer (some ⟨cb, 3, none⟩))), (29, (.func (.method "alibi/cert.whole") #[.iface 80 (.pointer (some ⟨rd, 0, none⟩))] #[])), (30, (.func (.method "alibi/cert.whole") #[.iface 80 (.pointer (some ⟨rd, 0, none⟩))] #[])), (31, (.iface 80 (.pointer (some ⟨rd, 0, none⟩)))), (32, vs 7)]) (fun _ => rfl) ?_
 ·refine rs fun S a wx K Q hR hK => ?_
  have t1 : a.tmps[1]? = some (.iface 80 (.pointer (some ⟨rd, 0, none⟩))) := hR.o 1
  go_simp
  exact hK _ _ br rfl
 ·refine rs fun S a wx K Q hR hK => ?_
  have t0 : a.tmps[0]? = some (.pointer (some ⟨cb, 0, none⟩)) := hR.o 0
  go_simp
  exact hK _ _ br rfl
 ·refine rs fun S a wx K Q hR hK => ?_
  have t26 := hR.q 1
  go_simp
  exact hK _ _ br rfl
 ·refine rs fun S a wx K Q hR hK => ?_
  have t27 := hR.q 2
  go_simp
  exact hK _ _ br rfl
 ·refine rs fun S a wx K Q hR hK => ?_
  have t25 := hR.q 0
  go_simp
  exact hK _ _ br rfl
 ·refine rs fun S a wx K Q hR hK => ?_
  have t29 := hR.q 4
  refine bF (.tmp 29) rfl (aI t29) (gu rd _) ?_
  exact hK _ _ br rfl
 ·refine rs fun S a wx K Q hR hK => ?_
  have t25 := hR.q 0
  go_simp
  exact hK _ _ br rfl
 ·refine ts fun vs a wx K Q hR hZ hK => ?_
  have t31 := hR.d 6 31
  rw [hR.eqs 6 _ rfl] at t31
  have t28 := hR.d 3 28
  rw [hR.eqs 3 _ rfl] at t28
  obtain ⟨hbel2, S2, hlow, hof⟩ := hZ
  have hwx := HW.out.below hbel2
  go_simp
  go_invoke
  go_simp
  go_at_call 175
  refine (gI cb 3 0 (.int .i64 0) hwx HS.out.cbrb HS.out.cbrd HS.out.offc (by omega) ((hbel2.cell (p := ⟨cb, 3, none⟩) hcl1).trans d3) ((hbel2.frozen (p := ⟨cb, 3, none⟩) hcl1).trans z3) rfl).mono ?_
  rintro e w2 ⟨rfl, ht⟩
  exact hK _ _ (ht.from_below hbel2 hcl1)
 intro vs wE hE hZ
 have HZ := hid hZ
 simp only [aP, List.foldl_cons, List.foldl_nil]
 clear hE hZ
 generalize vs 7 = vt
 go_simp
 (try (go_wp2_with fail))
 go_end0
 refine ⟨rfl, #[.int .i64 3, .slice none 0 0, .int .i64 (eZ 0 (aB s).1), .int .i64 (eZ 0 (aB (aB s).2).1), .slice none 0 0], HZ.out.at'.trans (aQ HCN.out rfl), ?_, ?_, ?_⟩
 ·rw [Az (by decide) (by decide)]
  exact ⟨_, _, rfl, bn.nil _ _ _, aX.nil _ _ _⟩
 ·rw [Dr (by decide) (by decide)]
  exact HZ.out.rs
 ·exact (HT1.out.kx.wider fun b _ h => by rcases h with h | h | h; exact .inr (.inl h); exact .inr (.inr h); exact .inl h).trans (HZ.out.kx.wider fun b _ h => by rcases h with h | h | h; exact .inr (.inl h); exact .inr (.inr h); exact .inl h)
theorem BJ (cb rd rb : Nat) (l : List UInt8) (sv : Value) (s : Option (List UInt8)) (w : World) (hs : SF w cb rd rb sv) (hc : w.heap[cb]? = some (.cells #[.int .i64 1, .slice none 0 0, .int .i64 0, .int .i64 0, .slice none 0 0] 25 (0, 0))) (hr : RD rd rb l sv s false w) :
  Calls Tryz.prog 29 #[.pointer (some ⟨cb, 0, none⟩), .iface 80 (.pointer (some ⟨rd, 0, none⟩))] w (xP cb rd rb l sv 1 s w) := by
 have hcl : cb < w.heap.size := hs.lcb
 have HS := hid hs
 have HW := hid hr
 have HC := hid hc
 have d1 : w.cell? ⟨cb, 1, none⟩ = some (.slice none 0 0) := by rw [cell_of_row w _ 1 _ _ _ hc]; rfl
 have d0 : w.cell? ⟨cb, 0, none⟩ = some (.int .i64 1) := by rw [cell_of_row w _ 0 _ _ _ hc]; rfl
 obtain ⟨i0, hi0, hz0, hz1, hz2⟩ := info_parts kP
 clear hr hc hs
 go_enter Tryz.func29, Tryz.ntmps29
 go_upto_region 4 with fail
 refine ak (w0 := w) rfl [.eq (.iface 80 (.pointer (some ⟨rd, 0, none⟩))), .eq (.pointer (some ⟨cb, 0, none⟩)), .eq (.pointer (some ⟨cb, 0, none⟩)), .eq (.pointer (some ⟨cb, 1, none⟩)), .eq (.slice none 0 0), .eq (.int .i64 0), .eq (.func (.method "alibi/cert.many") #[.iface 80 (.pointer (some ⟨rd, 0, none⟩))] #[]), .eq (.func (.method "alibi/cert.many") #[.iface 80 (.pointer (some ⟨rd, 0, none⟩))] #[]), .eq (.iface 80 (.pointer (some ⟨rd, 0, none⟩))), .tail, .tail] 9 [10] [] (by kernel_rfl) ⟨?_, ?_, ?_, ?_, ?_, ?_, ?_, ?_, ?_, trivial⟩ trivial [fun vs w' => vs 9 = .int .i64 ((aG s).1 : Nat) ∧ RD rd rb l sv (aB s).2 (aG s).2 w' ∧ Kx (fun b => b = rd ∨ b = rb) w w', fun vs w' => vs 10 = .int .i64 ((aG s).1 : Nat) ∧ RD rd rb l sv (aB s).2 (aG s).2 w' ∧ Kx (fun b => b = rd ∨ b = rb) w w'] ⟨?_, ?_, trivial⟩ (fun vs => [(35, (.iface 80 (.pointer (some ⟨rd, 0, none⟩)))), (36, (.pointer (some ⟨cb, 0, none⟩))), (37, (.pointer (some ⟨cb, 0, none⟩))), (38, (.pointer (some ⟨cb, 1, none⟩))), (39, (.slice none 0 0)), (40, (.int .i64 0)), (41, (.func (.method "alibi/cert.many") #[.iface 80 (.pointer (some ⟨rd, 0, none⟩))] #[])), (42, (.func (.method "alibi/cert.many") #[.iface 80 (.pointer (some ⟨rd, 0, none⟩))] #[])), (43, (.iface 80 (.pointer (some ⟨rd, 0, none⟩)))), (44, vs 9), (4, vs 10)]) (fun _ => rfl) ?_
 ·refine rs fun S a wx K Q hR hK => ?_
  have t1 : a.tmps[1]? = some (.iface 80 (.pointer (some ⟨rd, 0, none⟩))) := hR.o 1
  go_simp
  exact hK _ _ br rfl
 ·refine rs fun S a wx K Q hR hK => ?_
  have t0 : a.tmps[0]? = some (.pointer (some ⟨cb, 0, none⟩)) := hR.o 0
  go_simp
  exact hK _ _ br rfl
 ·refine rs fun S a wx K Q hR hK => ?_
  have t36 := hR.q 1
  go_simp
  exact hK _ _ br rfl
 ·refine rs fun S a wx K Q hR hK => ?_
  have t37 := hR.q 2
  go_simp
  exact hK _ _ br rfl
 ·refine rs fun S a wx K Q hR hK => ?_
  have t38 := hR.q 3
  have y0 := (hR.bel.cell (p := ⟨cb, 1, none⟩) hcl).trans d1
  go_simp
  exact hK _ _ br rfl
 ·refine rs fun S a wx K Q hR hK => ?_
  have t39 := hR.q 4
  go_simp
  exact hK _ _ br rfl
 ·refine rs fun S a wx K Q hR hK => ?_
  have t35 := hR.q 0
  go_simp
  exact hK _ _ br rfl
 ·refine rs fun S a wx K Q hR hK => ?_
  have t41 := hR.q 6
  refine bF (.tmp 41) rfl (aI t41) (uL rd _) ?_
  exact hK _ _ br rfl
 ·refine rs fun S a wx K Q hR hK => ?_
  have t35 := hR.q 0
  go_simp
  exact hK _ _ br rfl
 ·refine ts fun vs a wx K Q hR hZ hK => ?_
  have t43 := hR.d 8 43
  rw [hR.eqs 8 _ rfl] at t43
  have t40 := hR.d 5 40
  rw [hR.eqs 5 _ rfl] at t40
  obtain ⟨hbel2, S2, hlow, hof⟩ := hZ
  have hwx := HW.out.below hbel2
  go_simp
  go_invoke
  go_simp
  go_at_call 174
  refine (rY _ hwx).mono ?_
  rintro e w2 ⟨rfl, hr2, hk2⟩
  exact hK _ _ ⟨upd_self _ _ _, hr2, (Kx.of_below hbel2).trans hk2⟩
 ·refine ts fun vs a wx K Q hR hZ hK => ?_
  have t44 := hR.d 9 44
  obtain ⟨ev, hz⟩ := hZ
  rw [ev] at t44
  have HZ := hid hz
  clear hz ev
  go_simp
  exact hK _ _ ⟨upd_self _ _ _, HZ.out⟩
 intro vs wN hE hZ
 obtain ⟨ev, hZ⟩ := hZ
 have HZ := hid hZ
 simp only [ev, aP, List.foldl_cons, List.foldl_nil]
 clear hE hZ ev
 generalize vs 9 = vt
 go_simp
 have hcN : wN.heap[cb]? = some (.cells #[.int .i64 1, .slice none 0 0, .int .i64 0, .int .i64 0, .slice none 0 0] 25 (0, 0)) := (HZ.out.2.keep cb hcl (fun h => h.elim HS.out.cbrd HS.out.cbrb)).trans HC.out
 have HCN := hid hcN
 have u1 : wN.cell? ⟨cb, 1, none⟩ = some (.slice none 0 0) := by rw [cell_of_row wN _ 1 _ _ _ hcN]; rfl
 have v1 : wN.frozen? ⟨cb, 1, none⟩ = false := by rw [frozen_of_row wN _ 1 _ _ hcN]
 have hcl1 : cb < wN.heap.size := (Array.getElem?_eq_some_iff.1 hcN).1
 have hn : (aG s).1 ≤ 1000000 := xN HZ.out.1.vr
 have H1 : Hid (RD rd rb l sv (aB s).2 (aG s).2 wN ∧ Kx (X3 cb rd rb) w wN) := hid ⟨HZ.out.1, HZ.out.2.wider fun b _ h => .inr h⟩
 obtain ⟨n, hnn⟩ : ∃ n, n = (aG s).1 := ⟨_, rfl⟩
 rw [← hnn] at hn ⊢
 have HNN := hid hnn
 clear hnn hcN HZ d0 d1 HW
 go_upto_region 5 with fail
 refine ak (w0 := wN) rfl [.eq (.pointer (some ⟨cb, 0, none⟩)), .eq (.pointer (some ⟨cb, 0, none⟩)), .eq (.pointer (some ⟨cb, 0, none⟩)), .eq (.pointer (some ⟨cb, 1, none⟩)), .eq (.slice none 0 0), .eq (.int .i64 (n : Nat)), .eq (.pointer (some ⟨cb, 0, none⟩)), .eq (.pointer (some ⟨cb, 0, none⟩)), .eq (.pointer (some ⟨cb, 1, none⟩)), .eq (.slice none 0 0), .eq (.int .i64 0), .eq (.int .i64 (n : Nat)), .of (vK 3 1 n (fK (n * 1) (lw FO zO []))), .eq (.pointer (some ⟨cb, 0, none⟩)), .eq (.pointer (some ⟨cb, 1, none⟩)), .tail] 15 [] [] (by kernel_rfl) ⟨?_, ?_, ?_, ?_, ?_, ?_, ?_, ?_, ?_, ?_, ?_, ?_, ?_, ?_, ?_, ?_, trivial⟩ trivial [fun vs w' => ∃ ad cap, n ≤ cap ∧ (0 < n → ∃ g, ad = some ⟨g, 0, none⟩) ∧ PO w cb rd rb l sv #[.int .i64 1, .slice ad n cap, .int .i64 0, .int .i64 0, .slice none 0 0] 3 1 FO zO mZ (.slice ad n cap) n (aB s).2 (aG s).2 (0) w'] ⟨?_, trivial⟩ (fun vs => [(45, (.pointer (some ⟨cb, 0, none⟩))), (46, (.pointer (some ⟨cb, 0, none⟩))), (47, (.pointer (some ⟨cb, 0, none⟩))), (48, (.pointer (some ⟨cb, 1, none⟩))), (49, (.slice none 0 0)), (50, (.int .i64 (n : Nat))), (51, (.pointer (some ⟨cb, 0, none⟩))), (52, (.pointer (some ⟨cb, 0, none⟩))), (53, (.pointer (some ⟨cb, 1, none⟩))), (54, (.slice none 0 0)), (55, (.int .i64 0)), (56, (.int .i64 (n : Nat))), (57, vs 12), (58, (.pointer (some ⟨cb, 0, none⟩))), (59, (.pointer (some ⟨cb, 1, none⟩)))]) (fun _ => rfl) ?_
 ·refine rs fun S a wx K Q hR hK => ?_
  have t0 : a.tmps[0]? = some (.pointer (some ⟨cb, 0, none⟩)) := hR.o 0
  go_simp
  exact hK _ _ br rfl
 ·refine rs fun S a wx K Q hR hK => ?_
  have t0 : a.tmps[0]? = some (.pointer (some ⟨cb, 0, none⟩)) := hR.o 0
  go_simp
  exact hK _ _ br rfl
 ·refine rs fun S a wx K Q hR hK => ?_
  have t46 := hR.q 1
  go_simp
  exact hK _ _ br rfl
 ·refine rs fun S a wx K Q hR hK => ?_
  have t47 := hR.q 2
  go_simp
  exact hK _ _ br rfl
 ·refine rs fun S a wx K Q hR hK => ?_
  have t48 := hR.q 3
  have y0 := (hR.bel.cell (p := ⟨cb, 1, none⟩) hcl1).trans u1
  go_simp
  exact hK _ _ br rfl
 ·refine rs fun S a wx K Q hR hK => ?_
  have t4 : a.tmps[4]? = some (.int .i64 (n : Nat)) := hR.o 4
  go_simp
  exact hK _ _ br rfl
 ·refine rs fun S a wx K Q hR hK => ?_
  have t0 : a.tmps[0]? = some (.pointer (some ⟨cb, 0, none⟩)) := hR.o 0
  go_simp
  exact hK _ _ br rfl
 ·refine rs fun S a wx K Q hR hK => ?_
  have t51 := hR.q 6
  go_simp
  exact hK _ _ br rfl
 ·refine rs fun S a wx K Q hR hK => ?_
  have t52 := hR.q 7
  go_simp
  exact hK _ _ br rfl
 ·refine rs fun S a wx K Q hR hK => ?_
  have t53 := hR.q 8
  have y0 := (hR.bel.cell (p := ⟨cb, 1, none⟩) hcl1).trans u1
  go_simp
  exact hK _ _ br rfl
 ·refine rs fun S a wx K Q hR hK => ?_
  have t54 := hR.q 9
  go_simp
  exact hK _ _ br rfl
 ·refine rs fun S a wx K Q hR hK => ?_
  have t50 := hR.q 5
  have t55 := hR.q 10
  have y1 : IntKind.i64.wrap (n : Int) = (n : Int) := by rw [IntKind.wrap_i64]; omega
  go_simp
  (try go_ints)
  exact hK _ _ br rfl
 ·exact uM _ _ _ _
 ·refine rs fun S a wx K Q hR hK => ?_
  have t49 := hR.q 4
  have t56 := hR.q 11
  rcases Nat.eq_zero_or_pos n with hn0 | hn0
  ·subst hn0
   refine fM (.tmp 49) (.tmp 56) 22 3 rfl Tryz.underlying22 (by kernel_rfl) (by kernel_rfl) (by kernel_rfl) (aI t49) (aI t56) nl ?_
   exact hK _ _ br (.inl ⟨rfl, rfl, by simp [fK]⟩)
  ·refine jX wx (.tmp 49) (.tmp 56) 22 3 rfl 3 i0 _ 1 8 .i64 Tryz.underlying22 (by kernel_rfl) hi0 hz0 hz1 hz2 rfl (by omega) n (by unfold maxLen; omega) (by omega) hn0 (aI t49) (aI t56) ?_
   intro cap cur h1 h2 h3 h4
   exact hK _ _ (br.drew.alloc nl _) (.inr ⟨_, cap, cur, rfl, hR.new _ nl, heap_alloc_new wx.drew _, h1, h2, h3, h4.trans (Dp n), qo _ _⟩)
 ·refine rs fun S a wx K Q hR hK => ?_
  have t45 := hR.q 0
  go_simp
  exact hK _ _ br rfl
 ·refine rs fun S a wx K Q hR hK => ?_
  have t58 := hR.q 13
  go_simp
  exact hK _ _ br rfl
 ·refine ts fun vs a wx K Q hR hZ hK => ?_
  have t59 := hR.d 14 59
  rw [hR.eqs 14 _ rfl] at t59
  have t57 := hR.d 12 57
  obtain ⟨hbel2, S2, hlow, hof⟩ := hZ
  obtain ⟨ad, cap, ev, hcap, hob, hown, hpos⟩ := vK.owns (base := w.heap.size) (show vK 3 1 n (fK (n * 1) (lw FO zO [])) S2 (vs 12) wx from hof 12 _ rfl) (fun b hb => by have h5 := hlow b hb; have h6 := H1.out.2.size; omega)
  rw [ev] at t57 hown
  have c5 := (hbel2.cell (p := ⟨cb, 1, none⟩) hcl1).trans u1
  have f5 := (hbel2.frozen (p := ⟨cb, 1, none⟩) hcl1).trans v1
  have HQ := hid (PO.start (B := mZ) HS.out (H1.out.1.below hbel2) (H1.out.2.trans (Kx.of_below hbel2)) ((hbel2.block cb hcl1).trans HCN.out) 1 _ n hown)
  clear hob hown hof ev
  go_simp
  exact hK undef _ ⟨ad, cap, hcap, hpos, HQ.out⟩
 intro vs wM hE hZ
 have HZ := hid hZ
 simp only [aP, List.foldl_cons, List.foldl_nil]
 clear hE hZ
 go_simp
 obtain ⟨ad, cap, hcap, hpos, hpo⟩ := HZ.out
 have p1 : wM.cell? ⟨cb, 1, none⟩ = some (.slice ad n cap) := by rw [cell_of_row wM _ 1 _ _ _ hpo.row]; rfl
 have HPO := hid hpo
 have HPS := hid hpos
 clear HZ hpo hpos u1 v1 hcl1 H1 HCN
 go_wp2_with fail
 go_loopw [65] (fun i wr => ∃ j : Nat, j ≤ n ∧ i = .int .i64 j ∧ Hid (PO w cb rd rb l sv #[.int .i64 1, .slice ad n cap, .int .i64 0, .int .i64 0, .slice none 0 0] 3 1 FO zO mZ (.slice ad n cap) n (aB s).2 (aG s).2 (j) wr)) (fun i _ => n - (intOf i).toNat)
 case atStart => exact ⟨0, by omega, rfl, HPO⟩
 case round =>
  clear HPO p1
  obtain ⟨j, hj, rfl, HR⟩ := hrel
  by_cases hlt : j < n
  ·obtain ⟨g, rfl⟩ := HPS.out (by omega)
   have p1 : wr.cell? ⟨cb, 1, none⟩ = some (.slice (some ⟨g, 0, none⟩) n cap) := by rw [cell_of_row wr _ 1 _ _ _ HR.out.row]; rfl
   have hclr : cb < wr.heap.size := (Array.getElem?_eq_some_iff.1 HR.out.row).1
   have x1 : (0 : Int) ≤ (j : Int) := by omega
   have x2 : (j : Int) < (n : Int) := by omega
   go_wp2_with fail
   refine ak (w0 := wr) rfl [.eq (.iface 80 (.pointer (some ⟨rd, 0, none⟩))), .eq (.pointer (some ⟨cb, 0, none⟩)), .eq (.pointer (some ⟨cb, 0, none⟩)), .eq (.pointer (some ⟨cb, 1, none⟩)), .eq (.slice (some ⟨g, 0, none⟩) n cap), .eq (.int .i64 (j : Nat)), .eq (.pointer (some ⟨g, j, none⟩)), .eq (.func (.method "alibi/cert.whole") #[.iface 80 (.pointer (some ⟨rd, 0, none⟩))] #[]), .eq (.func (.method "alibi/cert.whole") #[.iface 80 (.pointer (some ⟨rd, 0, none⟩))] #[]), .eq (.iface 80 (.pointer (some ⟨rd, 0, none⟩))), .tail] 10 [] [] (by kernel_rfl) ⟨?_, ?_, ?_, ?_, ?_, ?_, ?_, ?_, ?_, ?_, trivial⟩ trivial [fun vs w' => PO w cb rd rb l sv #[.int .i64 1, .slice (some ⟨g, 0, none⟩) n cap, .int .i64 0, .int .i64 0, .slice none 0 0] 3 1 FO zO mZ (.slice (some ⟨g, 0, none⟩) n cap) n (aB s).2 (aG s).2 (j + 1) w'] ⟨?_, trivial⟩ (fun vs => [(68, (.iface 80 (.pointer (some ⟨rd, 0, none⟩)))), (69, (.pointer (some ⟨cb, 0, none⟩))), (70, (.pointer (some ⟨cb, 0, none⟩))), (71, (.pointer (some ⟨cb, 1, none⟩))), (72, (.slice (some ⟨g, 0, none⟩) n cap)), (73, (.int .i64 (j : Nat))), (74, (.pointer (some ⟨g, j, none⟩))), (75, (.func (.method "alibi/cert.whole") #[.iface 80 (.pointer (some ⟨rd, 0, none⟩))] #[])), (76, (.func (.method "alibi/cert.whole") #[.iface 80 (.pointer (some ⟨rd, 0, none⟩))] #[])), (77, (.iface 80 (.pointer (some ⟨rd, 0, none⟩)))), (78, vs 10)]) (fun _ => rfl) ?_
   ·refine rs fun S a wx K Q hR hK => ?_
    have t1 : a.tmps[1]? = some (.iface 80 (.pointer (some ⟨rd, 0, none⟩))) := hR.o 1
    go_simp
    exact hK _ _ br rfl
   ·refine rs fun S a wx K Q hR hK => ?_
    have t0 : a.tmps[0]? = some (.pointer (some ⟨cb, 0, none⟩)) := hR.o 0
    go_simp
    exact hK _ _ br rfl
   ·refine rs fun S a wx K Q hR hK => ?_
    have t69 := hR.q 1
    go_simp
    exact hK _ _ br rfl
   ·refine rs fun S a wx K Q hR hK => ?_
    have t70 := hR.q 2
    go_simp
    exact hK _ _ br rfl
   ·refine rs fun S a wx K Q hR hK => ?_
    have t71 := hR.q 3
    have y0 := (hR.bel.cell (p := ⟨cb, 1, none⟩) hclr).trans p1
    go_simp
    exact hK _ _ br rfl
   ·refine rs fun S a wx K Q hR hK => ?_
    have t5 : a.tmps[5]? = some (.int .i64 (j : Nat)) := hR.o 5
    go_simp
    exact hK _ _ br rfl
   ·refine rs fun S a wx K Q hR hK => ?_
    have t72 := hR.q 4
    have t73 := hR.q 5
    go_simp
    exact hK _ _ br rfl
   ·refine rs fun S a wx K Q hR hK => ?_
    have t68 := hR.q 0
    go_simp
    exact hK _ _ br rfl
   ·refine rs fun S a wx K Q hR hK => ?_
    have t75 := hR.q 7
    refine bF (.tmp 75) rfl (aI t75) (gu rd _) ?_
    exact hK _ _ br rfl
   ·refine rs fun S a wx K Q hR hK => ?_
    have t68 := hR.q 0
    go_simp
    exact hK _ _ br rfl
   ·refine ts fun vs a wx K Q hR hZ hK => ?_
    have t77 := hR.d 9 77
    rw [hR.eqs 9 _ rfl] at t77
    have t74 := hR.d 6 74
    rw [hR.eqs 6 _ rfl] at t74
    obtain ⟨hbel2, S2, hlow, hof⟩ := hZ
    have hwx := HR.out.below hbel2
    go_simp
    go_invoke
    go_simp
    go_at_call 175
    refine (kH HS.out hwx rfl (by omega) 0 (by omega) rfl (fun _ => rfl) (fun _ => rfl)).mono ?_
    rintro e w2 ⟨rfl, h2, _⟩
    exact hK _ _ h2
   intro vs wQ hE hZ
   have HZ := hid hZ
   simp only [aP, List.foldl_cons, List.foldl_nil]
   clear hE hZ
   generalize vs 10 = vt
   go_simp
   go_wp2_with fail
   go_roundw
   case rel => exact ⟨j + 1, by omega, by go_num, HZ⟩
   case measure => simp [intOf]; omega
  ·have hj2 : j = n := by omega
   subst hj2
   have p1 : wr.cell? ⟨cb, 1, none⟩ = some (.slice ad j cap) := by rw [cell_of_row wr _ 1 _ _ _ HR.out.row]; rfl
   go_wp2_with fail
   go_end0
   have hj := HNN.out
   refine ⟨rfl, _, HR.out.row, ?_, ?_, HR.out.kx⟩
   ·rw [En, ← hj]
    exact ⟨_, _, rfl, HR.out.endI, aX.nil _ _ _⟩
   ·rw [EQ, ← hj]
    exact HR.out.rs
theorem BK (cb rd rb : Nat) (l : List UInt8) (sv : Value) (s : Option (List UInt8)) (w : World) (hs : SF w cb rd rb sv) (hc : w.heap[cb]? = some (.cells #[.int .i64 4, .slice none 0 0, .int .i64 0, .int .i64 0, .slice none 0 0] 25 (0, 0))) (hr : RD rd rb l sv s false w) :
  Calls Tryz.prog 29 #[.pointer (some ⟨cb, 0, none⟩), .iface 80 (.pointer (some ⟨rd, 0, none⟩))] w (xP cb rd rb l sv 4 s w) := by
 have hcl : cb < w.heap.size := hs.lcb
 have HS := hid hs
 have HW := hid hr
 have HC := hid hc
 have d4 : w.cell? ⟨cb, 4, none⟩ = some (.slice none 0 0) := by rw [cell_of_row w _ 4 _ _ _ hc]; rfl
 have d0 : w.cell? ⟨cb, 0, none⟩ = some (.int .i64 4) := by rw [cell_of_row w _ 0 _ _ _ hc]; rfl
 obtain ⟨i0, hi0, hz0, hz1, hz2⟩ := info_parts qH
 clear hr hc hs
 go_enter Tryz.func29, Tryz.ntmps29
 go_upto_region 12 with fail
 refine ak (w0 := w) rfl [.eq (.iface 80 (.pointer (some ⟨rd, 0, none⟩))), .eq (.pointer (some ⟨cb, 0, none⟩)), .eq (.pointer (some ⟨cb, 0, none⟩)), .eq (.pointer (some ⟨cb, 4, none⟩)), .eq (.slice none 0 0), .eq (.int .i64 0), .eq (.func (.method "alibi/cert.many") #[.iface 80 (.pointer (some ⟨rd, 0, none⟩))] #[]), .eq (.func (.method "alibi/cert.many") #[.iface 80 (.pointer (some ⟨rd, 0, none⟩))] #[]), .eq (.iface 80 (.pointer (some ⟨rd, 0, none⟩))), .tail, .tail] 9 [10] [] (by kernel_rfl) ⟨?_, ?_, ?_, ?_, ?_, ?_, ?_, ?_, ?_, trivial⟩ trivial [fun vs w' => vs 9 = .int .i64 ((aG s).1 : Nat) ∧ RD rd rb l sv (aB s).2 (aG s).2 w' ∧ Kx (fun b => b = rd ∨ b = rb) w w', fun vs w' => vs 10 = .int .i64 ((aG s).1 : Nat) ∧ RD rd rb l sv (aB s).2 (aG s).2 w' ∧ Kx (fun b => b = rd ∨ b = rb) w w'] ⟨?_, ?_, trivial⟩ (fun vs => [(82, (.iface 80 (.pointer (some ⟨rd, 0, none⟩)))), (83, (.pointer (some ⟨cb, 0, none⟩))), (84, (.pointer (some ⟨cb, 0, none⟩))), (85, (.pointer (some ⟨cb, 4, none⟩))), (86, (.slice none 0 0)), (87, (.int .i64 0)), (88, (.func (.method "alibi/cert.many") #[.iface 80 (.pointer (some ⟨rd, 0, none⟩))] #[])), (89, (.func (.method "alibi/cert.many") #[.iface 80 (.pointer (some ⟨rd, 0, none⟩))] #[])), (90, (.iface 80 (.pointer (some ⟨rd, 0, none⟩)))), (91, vs 9), (6, vs 10)]) (fun _ => rfl) ?_
 ·refine rs fun S a wx K Q hR hK => ?_
  have t1 : a.tmps[1]? = some (.iface 80 (.pointer (some ⟨rd, 0, none⟩))) := hR.o 1
  go_simp
  exact hK _ _ br rfl
 ·refine rs fun S a wx K Q hR hK => ?_
  have t0 : a.tmps[0]? = some (.pointer (some ⟨cb, 0, none⟩)) := hR.o 0
  go_simp
  exact hK _ _ br rfl
 ·refine rs fun S a wx K Q hR hK => ?_
  have t83 := hR.q 1
  go_simp
  exact hK _ _ br rfl
 ·refine rs fun S a wx K Q hR hK => ?_
  have t84 := hR.q 2
  go_simp
  exact hK _ _ br rfl
 ·refine rs fun S a wx K Q hR hK => ?_
  have t85 := hR.q 3
  have y0 := (hR.bel.cell (p := ⟨cb, 4, none⟩) hcl).trans d4
  go_simp
  exact hK _ _ br rfl
 ·refine rs fun S a wx K Q hR hK => ?_
  have t86 := hR.q 4
  go_simp
  exact hK _ _ br rfl
 ·refine rs fun S a wx K Q hR hK => ?_
  have t82 := hR.q 0
  go_simp
  exact hK _ _ br rfl
 ·refine rs fun S a wx K Q hR hK => ?_
  have t88 := hR.q 6
  refine bF (.tmp 88) rfl (aI t88) (uL rd _) ?_
  exact hK _ _ br rfl
 ·refine rs fun S a wx K Q hR hK => ?_
  have t82 := hR.q 0
  go_simp
  exact hK _ _ br rfl
 ·refine ts fun vs a wx K Q hR hZ hK => ?_
  have t90 := hR.d 8 90
  rw [hR.eqs 8 _ rfl] at t90
  have t87 := hR.d 5 87
  rw [hR.eqs 5 _ rfl] at t87
  obtain ⟨hbel2, S2, hlow, hof⟩ := hZ
  have hwx := HW.out.below hbel2
  go_simp
  go_invoke
  go_simp
  go_at_call 174
  refine (rY _ hwx).mono ?_
  rintro e w2 ⟨rfl, hr2, hk2⟩
  exact hK _ _ ⟨upd_self _ _ _, hr2, (Kx.of_below hbel2).trans hk2⟩
 ·refine ts fun vs a wx K Q hR hZ hK => ?_
  have t91 := hR.d 9 91
  obtain ⟨ev, hz⟩ := hZ
  rw [ev] at t91
  have HZ := hid hz
  clear hz ev
  go_simp
  exact hK _ _ ⟨upd_self _ _ _, HZ.out⟩
 intro vs wN hE hZ
 obtain ⟨ev, hZ⟩ := hZ
 have HZ := hid hZ
 simp only [ev, aP, List.foldl_cons, List.foldl_nil]
 clear hE hZ ev
 generalize vs 9 = vt
 go_simp
 have hcN : wN.heap[cb]? = some (.cells #[.int .i64 4, .slice none 0 0, .int .i64 0, .int .i64 0, .slice none 0 0] 25 (0, 0)) := (HZ.out.2.keep cb hcl (fun h => h.elim HS.out.cbrd HS.out.cbrb)).trans HC.out
 have HCN := hid hcN
 have u4 : wN.cell? ⟨cb, 4, none⟩ = some (.slice none 0 0) := by rw [cell_of_row wN _ 4 _ _ _ hcN]; rfl
 have v4 : wN.frozen? ⟨cb, 4, none⟩ = false := by rw [frozen_of_row wN _ 4 _ _ hcN]
 have hcl1 : cb < wN.heap.size := (Array.getElem?_eq_some_iff.1 hcN).1
 have hn : (aG s).1 ≤ 1000000 := xN HZ.out.1.vr
 have H1 : Hid (RD rd rb l sv (aB s).2 (aG s).2 wN ∧ Kx (X3 cb rd rb) w wN) := hid ⟨HZ.out.1, HZ.out.2.wider fun b _ h => .inr h⟩
 obtain ⟨n, hnn⟩ : ∃ n, n = (aG s).1 := ⟨_, rfl⟩
 rw [← hnn] at hn ⊢
 have HNN := hid hnn
 clear hnn hcN HZ d0 d4 HW
 go_upto_region 13 with fail
 refine ak (w0 := wN) rfl [.eq (.pointer (some ⟨cb, 0, none⟩)), .eq (.pointer (some ⟨cb, 0, none⟩)), .eq (.pointer (some ⟨cb, 0, none⟩)), .eq (.pointer (some ⟨cb, 4, none⟩)), .eq (.slice none 0 0), .eq (.int .i64 (n : Nat)), .eq (.pointer (some ⟨cb, 0, none⟩)), .eq (.pointer (some ⟨cb, 0, none⟩)), .eq (.pointer (some ⟨cb, 4, none⟩)), .eq (.slice none 0 0), .eq (.int .i64 0), .eq (.int .i64 (n : Nat)), .of (vK 54 9 n (fK (n * 9) (lw FW zW []))), .eq (.pointer (some ⟨cb, 0, none⟩)), .eq (.pointer (some ⟨cb, 4, none⟩)), .tail] 15 [] [] (by kernel_rfl) ⟨?_, ?_, ?_, ?_, ?_, ?_, ?_, ?_, ?_, ?_, ?_, ?_, ?_, ?_, ?_, ?_, trivial⟩ trivial [fun vs w' => ∃ ad cap, n ≤ cap ∧ (0 < n → ∃ g, ad = some ⟨g, 0, none⟩) ∧ PO w cb rd rb l sv #[.int .i64 4, .slice none 0 0, .int .i64 0, .int .i64 0, .slice ad n cap] 54 9 FW zW fA (.slice ad n cap) n (aB s).2 (aG s).2 (0) w'] ⟨?_, trivial⟩ (fun vs => [(92, (.pointer (some ⟨cb, 0, none⟩))), (93, (.pointer (some ⟨cb, 0, none⟩))), (94, (.pointer (some ⟨cb, 0, none⟩))), (95, (.pointer (some ⟨cb, 4, none⟩))), (96, (.slice none 0 0)), (97, (.int .i64 (n : Nat))), (98, (.pointer (some ⟨cb, 0, none⟩))), (99, (.pointer (some ⟨cb, 0, none⟩))), (100, (.pointer (some ⟨cb, 4, none⟩))), (101, (.slice none 0 0)), (102, (.int .i64 0)), (103, (.int .i64 (n : Nat))), (104, vs 12), (105, (.pointer (some ⟨cb, 0, none⟩))), (106, (.pointer (some ⟨cb, 4, none⟩)))]) (fun _ => rfl) ?_
 ·refine rs fun S a wx K Q hR hK => ?_
  have t0 : a.tmps[0]? = some (.pointer (some ⟨cb, 0, none⟩)) := hR.o 0
  go_simp
  exact hK _ _ br rfl
 ·refine rs fun S a wx K Q hR hK => ?_
  have t0 : a.tmps[0]? = some (.pointer (some ⟨cb, 0, none⟩)) := hR.o 0
  go_simp
  exact hK _ _ br rfl
 ·refine rs fun S a wx K Q hR hK => ?_
  have t93 := hR.q 1
  go_simp
  exact hK _ _ br rfl
 ·refine rs fun S a wx K Q hR hK => ?_
  have t94 := hR.q 2
  go_simp
  exact hK _ _ br rfl
 ·refine rs fun S a wx K Q hR hK => ?_
  have t95 := hR.q 3
  have y0 := (hR.bel.cell (p := ⟨cb, 4, none⟩) hcl1).trans u4
  go_simp
  exact hK _ _ br rfl
 ·refine rs fun S a wx K Q hR hK => ?_
  have t6 : a.tmps[6]? = some (.int .i64 (n : Nat)) := hR.o 6
  go_simp
  exact hK _ _ br rfl
 ·refine rs fun S a wx K Q hR hK => ?_
  have t0 : a.tmps[0]? = some (.pointer (some ⟨cb, 0, none⟩)) := hR.o 0
  go_simp
  exact hK _ _ br rfl
 ·refine rs fun S a wx K Q hR hK => ?_
  have t98 := hR.q 6
  go_simp
  exact hK _ _ br rfl
 ·refine rs fun S a wx K Q hR hK => ?_
  have t99 := hR.q 7
  go_simp
  exact hK _ _ br rfl
 ·refine rs fun S a wx K Q hR hK => ?_
  have t100 := hR.q 8
  have y0 := (hR.bel.cell (p := ⟨cb, 4, none⟩) hcl1).trans u4
  go_simp
  exact hK _ _ br rfl
 ·refine rs fun S a wx K Q hR hK => ?_
  have t101 := hR.q 9
  go_simp
  exact hK _ _ br rfl
 ·refine rs fun S a wx K Q hR hK => ?_
  have t97 := hR.q 5
  have t102 := hR.q 10
  have y1 : IntKind.i64.wrap (n : Int) = (n : Int) := by rw [IntKind.wrap_i64]; omega
  go_simp
  (try go_ints)
  exact hK _ _ br rfl
 ·exact uM _ _ _ _
 ·refine rs fun S a wx K Q hR hK => ?_
  have t96 := hR.q 4
  have t103 := hR.q 11
  rcases Nat.eq_zero_or_pos n with hn0 | hn0
  ·subst hn0
   refine fM (.tmp 96) (.tmp 103) 23 3 rfl Tryz.underlying23 (by kernel_rfl) (by kernel_rfl) (by kernel_rfl) (aI t96) (aI t103) nl ?_
   exact hK _ _ br (.inl ⟨rfl, rfl, by simp [fK]⟩)
  ·refine jX wx (.tmp 96) (.tmp 103) 23 3 rfl 54 i0 _ 9 72 .i64 Tryz.underlying23 (by kernel_rfl) hi0 hz0 hz1 hz2 rfl (by omega) n (by unfold maxLen; omega) (by omega) hn0 (aI t96) (aI t103) ?_
   intro cap cur h1 h2 h3 h4
   exact hK _ _ (br.drew.alloc nl _) (.inr ⟨_, cap, cur, rfl, hR.new _ nl, heap_alloc_new wx.drew _, h1, h2, h3, h4.trans (El n), qo _ _⟩)
 ·refine rs fun S a wx K Q hR hK => ?_
  have t92 := hR.q 0
  go_simp
  exact hK _ _ br rfl
 ·refine rs fun S a wx K Q hR hK => ?_
  have t105 := hR.q 13
  go_simp
  exact hK _ _ br rfl
 ·refine ts fun vs a wx K Q hR hZ hK => ?_
  have t106 := hR.d 14 106
  rw [hR.eqs 14 _ rfl] at t106
  have t104 := hR.d 12 104
  obtain ⟨hbel2, S2, hlow, hof⟩ := hZ
  obtain ⟨ad, cap, ev, hcap, hob, hown, hpos⟩ := vK.owns (base := w.heap.size) (show vK 54 9 n (fK (n * 9) (lw FW zW [])) S2 (vs 12) wx from hof 12 _ rfl) (fun b hb => by have h5 := hlow b hb; have h6 := H1.out.2.size; omega)
  rw [ev] at t104 hown
  have c5 := (hbel2.cell (p := ⟨cb, 4, none⟩) hcl1).trans u4
  have f5 := (hbel2.frozen (p := ⟨cb, 4, none⟩) hcl1).trans v4
  have HQ := hid (PO.start (B := fA) HS.out (H1.out.1.below hbel2) (H1.out.2.trans (Kx.of_below hbel2)) ((hbel2.block cb hcl1).trans HCN.out) 4 _ n hown)
  clear hob hown hof ev
  go_simp
  exact hK undef _ ⟨ad, cap, hcap, hpos, HQ.out⟩
 intro vs wM hE hZ
 have HZ := hid hZ
 simp only [aP, List.foldl_cons, List.foldl_nil]
 clear hE hZ
 go_simp
 obtain ⟨ad, cap, hcap, hpos, hpo⟩ := HZ.out
 have p4 : wM.cell? ⟨cb, 4, none⟩ = some (.slice ad n cap) := by rw [cell_of_row wM _ 4 _ _ _ hpo.row]; rfl
 have HPO := hid hpo
 have HPS := hid hpos
 clear HZ hpo hpos u4 v4 hcl1 H1 HCN
 go_wp2_with fail
 go_loopw [112] (fun i wr => ∃ j : Nat, j ≤ n ∧ i = .int .i64 j ∧ Hid (PO w cb rd rb l sv #[.int .i64 4, .slice none 0 0, .int .i64 0, .int .i64 0, .slice ad n cap] 54 9 FW zW fA (.slice ad n cap) n (aB s).2 (aG s).2 (j * 9) wr)) (fun i _ => n - (intOf i).toNat)
 case atStart => exact ⟨0, by omega, rfl, hid (by rw [Nat.zero_mul]; exact HPO.out)⟩
 case round =>
  clear HPO p4
  obtain ⟨j, hj, rfl, HR⟩ := hrel
  obtain ⟨wA, rfl⟩ : ∃ x : World, x = wr := ⟨_, rfl⟩
  by_cases hlt : j < n
  ·obtain ⟨g, rfl⟩ := HPS.out (by omega)
   have p4 : wA.cell? ⟨cb, 4, none⟩ = some (.slice (some ⟨g, 0, none⟩) n cap) := by rw [cell_of_row wA _ 4 _ _ _ HR.out.row]; rfl
   have hclr : cb < wA.heap.size := (Array.getElem?_eq_some_iff.1 HR.out.row).1
   have hlts : rd < wA.heap.size ∧ rb < wA.heap.size ∧ g < wA.heap.size := by
    have h1 := HR.out.rs.lt
    obtain ⟨_, _, _, _, _, h2, _⟩ := HR.out.at HS.out rfl (by omega)
    exact ⟨h1.1, h1.2, h2⟩
   have HLT := hid hlts
   have x1 : (0 : Int) ≤ (j : Int) := by omega
   have x2 : (j : Int) < (n : Int) := by omega
   clear hlts
   go_wp2_with fail
   clear p4
   refine aK (w0 := wA) rfl [.eq (.pointer (some ⟨g, j * 9, none⟩)), .eq (.pointer (some ⟨g, j * 9, none⟩)), .eq (.pointer (some ⟨g, j * 9, none⟩)), .eq (.pointer (some ⟨g, j * 9, none⟩)), .eq (.pointer (some ⟨g, j * 9, none⟩)), .eq (.pointer (some ⟨g, j * 9 + 1, none⟩)), .eq (.pointer (some ⟨g, j * 9, none⟩)), .eq (.pointer (some ⟨g, j * 9, none⟩)), .eq (.pointer (some ⟨g, j * 9 + 2, none⟩)), .of (dZ 3 3 #[.pointer (some ⟨g, j * 9, none⟩), .pointer (some ⟨g, j * 9 + 1, none⟩), .pointer (some ⟨g, j * 9 + 2, none⟩)]), .eq (.int .i64 3), .eq (.int .i64 0)] (by kernel_rfl) ⟨?_, ?_, ?_, ?_, ?_, ?_, ?_, ?_, ?_, ?_, ?_, ?_, ?_, trivial⟩ (fun vs => [(121, (.pointer (some ⟨g, j * 9, none⟩))), (122, (.pointer (some ⟨g, j * 9, none⟩))), (123, (.pointer (some ⟨g, j * 9, none⟩))), (124, (.pointer (some ⟨g, j * 9, none⟩))), (125, (.pointer (some ⟨g, j * 9, none⟩))), (126, (.pointer (some ⟨g, j * 9 + 1, none⟩))), (127, (.pointer (some ⟨g, j * 9, none⟩))), (128, (.pointer (some ⟨g, j * 9, none⟩))), (129, (.pointer (some ⟨g, j * 9 + 2, none⟩))), (130, vs 9), (131, (.int .i64 3)), (132, (.int .i64 0))]) (fun _ => rfl) ?_
   ·refine rs fun S a wx K Q hR hK => ?_
    have t8 : a.tmps[8]? = some (.pointer (some ⟨g, j * 9, none⟩)) := hR.o 8
    go_simp
    exact hK _ _ br rfl
   ·refine rs fun S a wx K Q hR hK => ?_
    have t121 := hR.q 0
    go_simp
    exact hK _ _ br rfl
   ·refine rs fun S a wx K Q hR hK => ?_
    have t122 := hR.q 1
    go_simp
    exact hK _ _ br rfl
   ·refine rs fun S a wx K Q hR hK => ?_
    have t8 : a.tmps[8]? = some (.pointer (some ⟨g, j * 9, none⟩)) := hR.o 8
    go_simp
    exact hK _ _ br rfl
   ·refine rs fun S a wx K Q hR hK => ?_
    have t124 := hR.q 3
    go_simp
    exact hK _ _ br rfl
   ·refine rs fun S a wx K Q hR hK => ?_
    have t125 := hR.q 4
    go_simp
    exact hK _ _ br rfl
   ·refine rs fun S a wx K Q hR hK => ?_
    have t8 : a.tmps[8]? = some (.pointer (some ⟨g, j * 9, none⟩)) := hR.o 8
    go_simp
    exact hK _ _ br rfl
   ·refine rs fun S a wx K Q hR hK => ?_
    have t127 := hR.q 6
    go_simp
    exact hK _ _ br rfl
   ·refine rs fun S a wx K Q hR hK => ?_
    have t128 := hR.q 7
    go_simp
    exact hK _ _ br rfl
   ·exact bS _ _ _
   ·refine rs fun S a wx K Q hR hK => ?_
    have t123 := hR.q 2
    have t126 := hR.q 5
    have t129 := hR.q 8
    go_simp
    exact hK _ _ (br.alloc nl _) ⟨_, _, rfl, hR.new _ nl, heap_alloc_new _ _⟩
   ·refine rs fun S a wx K Q hR hK => ?_
    obtain ⟨u130, t130, f130⟩ := hR.f 9
    obtain ⟨g0, T0, rfl, hgS, hgh⟩ := f130
    go_simp
    exact hK _ _ br rfl
   ·refine rs fun S a wx K Q hR hK => ?_
    go_simp
    exact hK _ _ br rfl
   intro S13 vs wd hD
   obtain ⟨gp, T0, ev, hgS, hgh⟩ : dZ 3 3 #[.pointer (some ⟨g, j * 9, none⟩), .pointer (some ⟨g, j * 9 + 1, none⟩), .pointer (some ⟨g, j * 9 + 2, none⟩)] S13 (vs 9) wd := hD.ofs 9 _ rfl
   have HD := hid (And.intro hgh (And.intro (hD.low gp hgS) hD.bel))
   simp only [ev, aP, List.foldl_cons, List.foldl_nil]
   clear hD ev hgS hgh
   go_simp
   have HNE : Hid (gp ≠ rd ∧ gp ≠ rb ∧ gp ≠ g) := hid (by have h1 := HLT.out; have h2 := HD.out.2.1; omega)
   go_wp2_with fail
   go_loopw [132] (fun i wr => ∃ i2 : Nat, i2 ≤ 3 ∧ i = .int .i64 i2 ∧ Hid (PO w cb rd rb l sv #[.int .i64 4, .slice none 0 0, .int .i64 0, .int .i64 0, .slice (some ⟨g, 0, none⟩) n cap] 54 9 FW zW fA (.slice (some ⟨g, 0, none⟩) n cap) n (aB s).2 (aG s).2 (j * 9 + i2) wr ∧ wr.heap[gp]? = some (.cells #[.pointer (some ⟨g, j * 9, none⟩), .pointer (some ⟨g, j * 9 + 1, none⟩), .pointer (some ⟨g, j * 9 + 2, none⟩)] T0 (0, 0)))) (fun i _ => 3 - (intOf i).toNat)
   case atStart => exact ⟨0, by omega, rfl, hid ⟨HR.out.below HD.out.2.2, HD.out.1⟩⟩
   case round =>
    obtain ⟨i2, hi2, rfl, HQ⟩ := hrel
    obtain ⟨wB, rfl⟩ : ∃ x : World, x = wr := ⟨_, rfl⟩
    by_cases hlt2 : i2 < 3
    ·have h3 : i2 = 0 ∨ i2 = 1 ∨ i2 = 2 := by omega
     have hpt : wB.cell? ⟨gp, i2, none⟩ = some (.pointer (some ⟨g, j * 9 + i2, none⟩)) := by
      rw [cell_of_row wB _ i2 _ _ _ HQ.out.2]
      rcases h3 with rfl | rfl | rfl <;> rfl
     have hfi : kG (i2) = true ∧ iX (i2) = 0 := by rcases h3 with rfl | rfl | rfl <;> exact ⟨rfl, rfl⟩
     have hF : ∀ x : Nat, FW (j * 9 + i2) x = .int .i64 (eZ 0 x) := fun x => by rw [Dq j _ hfi.1 (by omega)]; rw [hfi.2]
     have hB : ∀ x : Nat, fA (j * 9 + i2) x = decide (9223372036854775807 + 0 < x) := fun x => by rw [xO j _ hfi.1 (by omega)]; rw [hfi.2]
     have hgl : gp < wB.heap.size := (Array.getElem?_eq_some_iff.1 HQ.out.2).1
     have hne : gp ≠ rd ∧ gp ≠ rb ∧ gp ≠ g := HNE.out
     have HF := hid (And.intro hF hB)
     have HNE2 := hid hne
     clear hfi hF hB hne
     go_wp2_with fail
     have hF := HF.out.1
     have hB := HF.out.2
     refine (kH HS.out HQ.out.1 rfl (by omega) 0 (by omega) (zJ _) (fun x => hF x) (fun x => hB x)).mono ?_
     rintro e w2 ⟨rfl, hp2, hk2⟩
     have HZ : Hid (PO w cb rd rb l sv #[.int .i64 4, .slice none 0 0, .int .i64 0, .int .i64 0, .slice (some ⟨g, 0, none⟩) n cap] 54 9 FW zW fA (.slice (some ⟨g, 0, none⟩) n cap) n (aB s).2 (aG s).2 (j * 9 + (i2 + 1)) w2 ∧ w2.heap[gp]? = some (.cells #[.pointer (some ⟨g, j * 9, none⟩), .pointer (some ⟨g, j * 9 + 1, none⟩), .pointer (some ⟨g, j * 9 + 2, none⟩)] T0 (0, 0))) := hid ⟨hp2, (hk2.keep gp hgl (fun h => by rcases h with h | h | h; exact HNE2.out.1 h; exact HNE2.out.2.1 h; exact HNE2.out.2.2 h)).trans HQ.out.2⟩
     clear hp2 hk2 hpt hF hB
     go_wp2_with fail
     go_roundw
     case rel => exact ⟨i2 + 1, by omega, by go_num, HZ⟩
     case measure => simp [intOf]; omega
    ·have hi3 : i2 = 3 := by omega
     subst hi3
     have HR5 : Hid (PO w cb rd rb l sv #[.int .i64 4, .slice none 0 0, .int .i64 0, .int .i64 0, .slice (some ⟨g, 0, none⟩) n cap] 54 9 FW zW fA (.slice (some ⟨g, 0, none⟩) n cap) n (aB s).2 (aG s).2 (j * 9 + 3) wB) := hid HQ.out.1
     have HLT5 : Hid (rd < wB.heap.size ∧ rb < wB.heap.size ∧ g < wB.heap.size) := hid (by
      have h1 := HQ.out.1.rs.lt
      obtain ⟨_, _, _, _, _, h2, _⟩ := HQ.out.1.at HS.out rfl (by omega)
      exact ⟨h1.1, h1.2, h2⟩)
     clear HR HD HQ hi2 hlt2 HNE HLT
     have HR := HR5
     have HLT := HLT5
     clear HR5 HLT5
     go_wp2_with fail
     refine aK (w0 := wB) rfl [.eq (.pointer (some ⟨g, j * 9, none⟩)), .eq (.pointer (some ⟨g, j * 9, none⟩)), .eq (.pointer (some ⟨g, j * 9 + 3, none⟩)), .eq (.pointer (some ⟨g, j * 9, none⟩)), .eq (.pointer (some ⟨g, j * 9, none⟩)), .eq (.pointer (some ⟨g, j * 9 + 4, none⟩)), .eq (.pointer (some ⟨g, j * 9 + 4, none⟩)), .eq (.pointer (some ⟨g, j * 9, none⟩)), .eq (.pointer (some ⟨g, j * 9, none⟩)), .eq (.pointer (some ⟨g, j * 9 + 4, none⟩)), .eq (.pointer (some ⟨g, j * 9 + 5, none⟩)), .eq (.pointer (some ⟨g, j * 9, none⟩)), .eq (.pointer (some ⟨g, j * 9, none⟩)), .eq (.pointer (some ⟨g, j * 9 + 6, none⟩)), .eq (.pointer (some ⟨g, j * 9 + 6, none⟩)), .eq (.pointer (some ⟨g, j * 9, none⟩)), .eq (.pointer (some ⟨g, j * 9, none⟩)), .eq (.pointer (some ⟨g, j * 9 + 6, none⟩)), .eq (.pointer (some ⟨g, j * 9 + 7, none⟩)), .of (dZ 5 5 #[.pointer (some ⟨g, j * 9 + 3, none⟩), .pointer (some ⟨g, j * 9 + 4, none⟩), .pointer (some ⟨g, j * 9 + 5, none⟩), .pointer (some ⟨g, j * 9 + 6, none⟩), .pointer (some ⟨g, j * 9 + 7, none⟩)]), .eq (.int .i64 5), .eq (.int .i64 0)] (by kernel_rfl) ⟨?_, ?_, ?_, ?_, ?_, ?_, ?_, ?_, ?_, ?_, ?_, ?_, ?_, ?_, ?_, ?_, ?_, ?_, ?_, ?_, ?_, ?_, ?_, trivial⟩ (fun vs => [(140, (.pointer (some ⟨g, j * 9, none⟩))), (141, (.pointer (some ⟨g, j * 9, none⟩))), (142, (.pointer (some ⟨g, j * 9 + 3, none⟩))), (143, (.pointer (some ⟨g, j * 9, none⟩))), (144, (.pointer (some ⟨g, j * 9, none⟩))), (145, (.pointer (some ⟨g, j * 9 + 4, none⟩))), (146, (.pointer (some ⟨g, j * 9 + 4, none⟩))), (147, (.pointer (some ⟨g, j * 9, none⟩))), (148, (.pointer (some ⟨g, j * 9, none⟩))), (149, (.pointer (some ⟨g, j * 9 + 4, none⟩))), (150, (.pointer (some ⟨g, j * 9 + 5, none⟩))), (151, (.pointer (some ⟨g, j * 9, none⟩))), (152, (.pointer (some ⟨g, j * 9, none⟩))), (153, (.pointer (some ⟨g, j * 9 + 6, none⟩))), (154, (.pointer (some ⟨g, j * 9 + 6, none⟩))), (155, (.pointer (some ⟨g, j * 9, none⟩))), (156, (.pointer (some ⟨g, j * 9, none⟩))), (157, (.pointer (some ⟨g, j * 9 + 6, none⟩))), (158, (.pointer (some ⟨g, j * 9 + 7, none⟩))), (159, vs 19), (160, (.int .i64 5)), (161, (.int .i64 0))]) (fun _ => rfl) ?_
     ·refine rs fun S a wx K Q hR hK => ?_
      have t8 : a.tmps[8]? = some (.pointer (some ⟨g, j * 9, none⟩)) := hR.o 8
      go_simp
      exact hK _ _ br rfl
     ·refine rs fun S a wx K Q hR hK => ?_
      have t140 := hR.q 0
      go_simp
      exact hK _ _ br rfl
     ·refine rs fun S a wx K Q hR hK => ?_
      have t141 := hR.q 1
      go_simp
      exact hK _ _ br rfl
     ·refine rs fun S a wx K Q hR hK => ?_
      have t8 : a.tmps[8]? = some (.pointer (some ⟨g, j * 9, none⟩)) := hR.o 8
      go_simp
      exact hK _ _ br rfl
     ·refine rs fun S a wx K Q hR hK => ?_
      have t143 := hR.q 3
      go_simp
      exact hK _ _ br rfl
     ·refine rs fun S a wx K Q hR hK => ?_
      have t144 := hR.q 4
      go_simp
      exact hK _ _ br rfl
     ·refine rs fun S a wx K Q hR hK => ?_
      have t145 := hR.q 5
      go_simp
      exact hK _ _ br rfl
     ·refine rs fun S a wx K Q hR hK => ?_
      have t8 : a.tmps[8]? = some (.pointer (some ⟨g, j * 9, none⟩)) := hR.o 8
      go_simp
      exact hK _ _ br rfl
     ·refine rs fun S a wx K Q hR hK => ?_
      have t147 := hR.q 7
      go_simp
      exact hK _ _ br rfl
     ·refine rs fun S a wx K Q hR hK => ?_
      have t148 := hR.q 8
      go_simp
      exact hK _ _ br rfl
     ·refine rs fun S a wx K Q hR hK => ?_
      have t149 := hR.q 9
      go_simp
      exact hK _ _ br rfl
     ·refine rs fun S a wx K Q hR hK => ?_
      have t8 : a.tmps[8]? = some (.pointer (some ⟨g, j * 9, none⟩)) := hR.o 8
      go_simp
      exact hK _ _ br rfl
     ·refine rs fun S a wx K Q hR hK => ?_
      have t151 := hR.q 11
      go_simp
      exact hK _ _ br rfl
     ·refine rs fun S a wx K Q hR hK => ?_
      have t152 := hR.q 12
      go_simp
      exact hK _ _ br rfl
     ·refine rs fun S a wx K Q hR hK => ?_
      have t153 := hR.q 13
      go_simp
      exact hK _ _ br rfl
     ·refine rs fun S a wx K Q hR hK => ?_
      have t8 : a.tmps[8]? = some (.pointer (some ⟨g, j * 9, none⟩)) := hR.o 8
      go_simp
      exact hK _ _ br rfl
     ·refine rs fun S a wx K Q hR hK => ?_
      have t155 := hR.q 15
      go_simp
      exact hK _ _ br rfl
     ·refine rs fun S a wx K Q hR hK => ?_
      have t156 := hR.q 16
      go_simp
      exact hK _ _ br rfl
     ·refine rs fun S a wx K Q hR hK => ?_
      have t157 := hR.q 17
      go_simp
      exact hK _ _ br rfl
     ·exact bS _ _ _
     ·refine rs fun S a wx K Q hR hK => ?_
      have t142 := hR.q 2
      have t146 := hR.q 6
      have t150 := hR.q 10
      have t154 := hR.q 14
      have t158 := hR.q 18
      go_simp
      exact hK _ _ (br.alloc nl _) ⟨_, _, rfl, hR.new _ nl, heap_alloc_new _ _⟩
     ·refine rs fun S a wx K Q hR hK => ?_
      obtain ⟨u159, t159, f159⟩ := hR.f 19
      obtain ⟨g0, T0, rfl, hgS, hgh⟩ := f159
      go_simp
      exact hK _ _ br rfl
     ·refine rs fun S a wx K Q hR hK => ?_
      go_simp
      exact hK _ _ br rfl
     intro S13 vs we hD
     obtain ⟨gp, T0, ev, hgS, hgh⟩ : dZ 5 5 #[.pointer (some ⟨g, j * 9 + 3, none⟩), .pointer (some ⟨g, j * 9 + 4, none⟩), .pointer (some ⟨g, j * 9 + 5, none⟩), .pointer (some ⟨g, j * 9 + 6, none⟩), .pointer (some ⟨g, j * 9 + 7, none⟩)] S13 (vs 19) we := hD.ofs 19 _ rfl
     have HD := hid (And.intro hgh (And.intro (hD.low gp hgS) hD.bel))
     simp only [ev, aP, List.foldl_cons, List.foldl_nil]
     clear hD ev hgS hgh
     go_simp
     have HNE : Hid (gp ≠ rd ∧ gp ≠ rb ∧ gp ≠ g) := hid (by have h1 := HLT.out; have h2 := HD.out.2.1; omega)
     go_wp2_with fail
     go_loopw [161] (fun i wr => ∃ i2 : Nat, i2 ≤ 5 ∧ i = .int .i64 i2 ∧ Hid (PO w cb rd rb l sv #[.int .i64 4, .slice none 0 0, .int .i64 0, .int .i64 0, .slice (some ⟨g, 0, none⟩) n cap] 54 9 FW zW fA (.slice (some ⟨g, 0, none⟩) n cap) n (aB s).2 (aG s).2 (j * 9 + (3 + i2)) wr ∧ wr.heap[gp]? = some (.cells #[.pointer (some ⟨g, j * 9 + 3, none⟩), .pointer (some ⟨g, j * 9 + 4, none⟩), .pointer (some ⟨g, j * 9 + 5, none⟩), .pointer (some ⟨g, j * 9 + 6, none⟩), .pointer (some ⟨g, j * 9 + 7, none⟩)] T0 (0, 0)))) (fun i _ => 5 - (intOf i).toNat)
     case atStart => exact ⟨0, by omega, rfl, hid ⟨HR.out.below HD.out.2.2, HD.out.1⟩⟩
     case round =>
      obtain ⟨i2, hi2, rfl, HQ⟩ := hrel
      obtain ⟨wC, rfl⟩ : ∃ x : World, x = wr := ⟨_, rfl⟩
      by_cases hlt2 : i2 < 5
      ·have h3 : i2 = 0 ∨ i2 = 1 ∨ i2 = 2 ∨ i2 = 3 ∨ i2 = 4 := by omega
       have hpt : wC.cell? ⟨gp, i2, none⟩ = some (.pointer (some ⟨g, j * 9 + (3 + i2), none⟩)) := by
        rw [cell_of_row wC _ i2 _ _ _ HQ.out.2]
        rcases h3 with rfl | rfl | rfl | rfl | rfl <;> rfl
       have hfi : kG (3 + i2) = false ∧ iX (3 + i2) = 0 := by rcases h3 with rfl | rfl | rfl | rfl | rfl <;> exact ⟨rfl, rfl⟩
       have hF : ∀ x : Nat, FW (j * 9 + (3 + i2)) x = .int .u64 (x : Nat) := fun x => by rw [Em j _ hfi.1 (by omega)]
       have hB : ∀ x : Nat, fA (j * 9 + (3 + i2)) x = false := fun x => by rw [BF j _ hfi.1 (by omega)]
       have hgl : gp < wC.heap.size := (Array.getElem?_eq_some_iff.1 HQ.out.2).1
       have hne : gp ≠ rd ∧ gp ≠ rb ∧ gp ≠ g := HNE.out
       have HF := hid (And.intro hF hB)
       have HNE2 := hid hne
       clear hfi hF hB hne
       go_wp2_with fail
       have hF := HF.out.1
       have hB := HF.out.2
       refine (zI HS.out HQ.out.1 rfl (by omega) (zJ _) (fun x => hF x) (fun x => hB x)).mono ?_
       rintro e w2 ⟨rfl, hp2, hk2⟩
       have HZ : Hid (PO w cb rd rb l sv #[.int .i64 4, .slice none 0 0, .int .i64 0, .int .i64 0, .slice (some ⟨g, 0, none⟩) n cap] 54 9 FW zW fA (.slice (some ⟨g, 0, none⟩) n cap) n (aB s).2 (aG s).2 (j * 9 + (3 + (i2 + 1))) w2 ∧ w2.heap[gp]? = some (.cells #[.pointer (some ⟨g, j * 9 + 3, none⟩), .pointer (some ⟨g, j * 9 + 4, none⟩), .pointer (some ⟨g, j * 9 + 5, none⟩), .pointer (some ⟨g, j * 9 + 6, none⟩), .pointer (some ⟨g, j * 9 + 7, none⟩)] T0 (0, 0))) := hid ⟨hp2, (hk2.keep gp hgl (fun h => by rcases h with h | h | h; exact HNE2.out.1 h; exact HNE2.out.2.1 h; exact HNE2.out.2.2 h)).trans HQ.out.2⟩
       clear hp2 hk2 hpt hF hB
       go_wp2_with fail
       go_roundw
       case rel => exact ⟨i2 + 1, by omega, by go_num, HZ⟩
       case measure => simp [intOf]; omega
      ·have hi3 : i2 = 5 := by omega
       subst hi3
       have HR6 : Hid (PO w cb rd rb l sv #[.int .i64 4, .slice none 0 0, .int .i64 0, .int .i64 0, .slice (some ⟨g, 0, none⟩) n cap] 54 9 FW zW fA (.slice (some ⟨g, 0, none⟩) n cap) n (aB s).2 (aG s).2 (j * 9 + 8) wC) := hid HQ.out.1
       clear HR HD HQ hi2 hlt2 HNE HLT
       have HR := HR6
       clear HR6
       go_wp2_with fail
       refine ak (w0 := wC) rfl [.eq (.iface 80 (.pointer (some ⟨rd, 0, none⟩))), .eq (.pointer (some ⟨g, j * 9, none⟩)), .eq (.pointer (some ⟨g, j * 9, none⟩)), .eq (.pointer (some ⟨g, j * 9 + 8, none⟩)), .eq (.func (.method "alibi/cert.whole") #[.iface 80 (.pointer (some ⟨rd, 0, none⟩))] #[]), .eq (.func (.method "alibi/cert.whole") #[.iface 80 (.pointer (some ⟨rd, 0, none⟩))] #[]), .eq (.iface 80 (.pointer (some ⟨rd, 0, none⟩))), .tail] 7 [] [] (by kernel_rfl) ⟨?_, ?_, ?_, ?_, ?_, ?_, ?_, trivial⟩ trivial [fun vs w' => PO w cb rd rb l sv #[.int .i64 4, .slice none 0 0, .int .i64 0, .int .i64 0, .slice (some ⟨g, 0, none⟩) n cap] 54 9 FW zW fA (.slice (some ⟨g, 0, none⟩) n cap) n (aB s).2 (aG s).2 (j * 9 + 8 + 1) w'] ⟨?_, trivial⟩ (fun vs => [(169, (.iface 80 (.pointer (some ⟨rd, 0, none⟩)))), (170, (.pointer (some ⟨g, j * 9, none⟩))), (171, (.pointer (some ⟨g, j * 9, none⟩))), (172, (.pointer (some ⟨g, j * 9 + 8, none⟩))), (173, (.func (.method "alibi/cert.whole") #[.iface 80 (.pointer (some ⟨rd, 0, none⟩))] #[])), (174, (.func (.method "alibi/cert.whole") #[.iface 80 (.pointer (some ⟨rd, 0, none⟩))] #[])), (175, (.iface 80 (.pointer (some ⟨rd, 0, none⟩)))), (176, vs 7)]) (fun _ => rfl) ?_
       ·refine rs fun S a wx K Q hR hK => ?_
        have t1 : a.tmps[1]? = some (.iface 80 (.pointer (some ⟨rd, 0, none⟩))) := hR.o 1
        go_simp
        exact hK _ _ br rfl
       ·refine rs fun S a wx K Q hR hK => ?_
        have t8 : a.tmps[8]? = some (.pointer (some ⟨g, j * 9, none⟩)) := hR.o 8
        go_simp
        exact hK _ _ br rfl
       ·refine rs fun S a wx K Q hR hK => ?_
        have t170 := hR.q 1
        go_simp
        exact hK _ _ br rfl
       ·refine rs fun S a wx K Q hR hK => ?_
        have t171 := hR.q 2
        go_simp
        exact hK _ _ br rfl
       ·refine rs fun S a wx K Q hR hK => ?_
        have t169 := hR.q 0
        go_simp
        exact hK _ _ br rfl
       ·refine rs fun S a wx K Q hR hK => ?_
        have t173 := hR.q 4
        refine bF (.tmp 173) rfl (aI t173) (gu rd _) ?_
        exact hK _ _ br rfl
       ·refine rs fun S a wx K Q hR hK => ?_
        have t169 := hR.q 0
        go_simp
        exact hK _ _ br rfl
       ·refine ts fun vs a wx K Q hR hZ hK => ?_
        have t175 := hR.d 6 175
        rw [hR.eqs 6 _ rfl] at t175
        have t172 := hR.d 3 172
        rw [hR.eqs 3 _ rfl] at t172
        obtain ⟨hbel2, S2, hlow, hof⟩ := hZ
        have hwx := HR.out.below hbel2
        go_simp
        go_invoke
        go_simp
        go_at_call 175
        refine (kH HS.out hwx rfl (by omega) 1 (by omega) (zJ _) (fun x => Dq j 8 rfl (by omega) x) (fun x => xO j 8 rfl (by omega) x)).mono ?_
        rintro e w2 ⟨rfl, h2, _⟩
        exact hK _ _ h2
       intro vs wE hE hZ
       have HZ := hid hZ
       simp only [aP, List.foldl_cons, List.foldl_nil]
       clear hE hZ
       generalize vs 7 = vt
       go_simp
       go_wp2_with fail
       go_roundw
       case rel => exact ⟨j + 1, by omega, by go_num, hid (by rw [show (j + 1) * 9 = j * 9 + 8 + 1 from by omega]; exact HZ.out)⟩
       case measure => simp [intOf]; omega
  ·have hj2 : j = n := by omega
   subst hj2
   have p4 : wA.cell? ⟨cb, 4, none⟩ = some (.slice ad j cap) := by rw [cell_of_row wA _ 4 _ _ _ HR.out.row]; rfl
   go_wp2_with fail
   go_end0
   have hj := HNN.out
   refine ⟨rfl, _, HR.out.row, ?_, ?_, HR.out.kx⟩
   ·rw [Eo, ← hj]
    exact ⟨_, _, rfl, bn.nil _ _ _, HR.out.endW⟩
   ·rw [ER, ← hj]
    exact HR.out.rs
theorem xQ (cb rd rb : Nat) (l : List UInt8) (sv : Value) (k : Int) (s : Option (List UInt8)) (w : World) (hk : 1 ≤ k ∧ k < 5) (hs : SF w cb rd rb sv) (hc : w.heap[cb]? = some (.cells #[.int .i64 k, .slice none 0 0, .int .i64 0, .int .i64 0, .slice none 0 0] 25 (0, 0))) (hr : RD rd rb l sv s false w) :
  Calls Tryz.prog 29 #[.pointer (some ⟨cb, 0, none⟩), .iface 80 (.pointer (some ⟨rd, 0, none⟩))] w (xP cb rd rb l sv k s w) := by
 obtain rfl | rfl | rfl | rfl : k = 1 ∨ k = 2 ∨ k = 3 ∨ k = 4 := by omega
 ·exact BJ cb rd rb l sv s w hs hc hr
 ·exact BH cb rd rb l sv s w hs hc hr
 ·exact BI cb rd rb l sv s w hs hc hr
 ·exact BK cb rd rb l sv s w hs hc hr
end Go.Proofs.YtagnalfkmdjajaaGreatDoor
