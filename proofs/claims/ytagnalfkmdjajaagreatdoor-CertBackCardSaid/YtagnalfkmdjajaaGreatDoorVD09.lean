/- Walks: a certificate's parts, read. -/
import Derived.Test.YtagnalfkmdjajaaGreatDoorV29
import Derived.Handy
namespace Go.Proofs.YtagnalfkmdjajaaGreatDoor
open Go.RowKit Go
set_option linter.unusedVariables false
set_option linter.unusedSimpArgs false
set_option maxHeartbeats 6000000 in
set_option maxRecDepth 100000 in
theorem rdParts_2 (cb rd rb : Nat) (l : List UInt8) (sv : Value) (s : Option (List UInt8)) (w : World) (hs : SF w cb rd rb sv) (hc : w.heap[cb]? = some (.cells #[.int .i64 2, .slice none 0 0, .int .i64 0, .int .i64 0, .slice none 0 0] 25 (0, 0))) (hr : RD rd rb l sv s false w) :
    Calls Tryz.prog 29 #[.pointer (some ⟨cb, 0, none⟩), .iface 80 (.pointer (some ⟨rd, 0, none⟩))] w (RdEnd cb rd rb l sv 2 s w) := by
  have hcl : cb < w.heap.size := hs.lcb
  have HS := Lib.hid hs
  have HW := Lib.hid hr
  have HC := Lib.hid hc
  have d0 : w.cell? ⟨cb, 0, none⟩ = some (.int .i64 2) := by rw [cell_of_row w _ 0 _ _ _ hc]; rfl
  have d2 : w.cell? ⟨cb, 2, none⟩ = some (.int .i64 0) := by rw [cell_of_row w _ 2 _ _ _ hc]; rfl
  have z2 : w.frozen? ⟨cb, 2, none⟩ = false := by rw [frozen_of_row w _ 2 _ _ hc]
  clear hr hc hs
  go_enter Tryz.func29, Tryz.ntmps29
  go_upto_region 1 with fail
  refine wp_region_tail (w0 := w) rfl [.eq (.iface 80 (.pointer (some ⟨rd, 0, none⟩))), .eq (.pointer (some ⟨cb, 0, none⟩)), .eq (.pointer (some ⟨cb, 0, none⟩)), .eq (.pointer (some ⟨cb, 2, none⟩)), .eq (.func (.method "alibi/cert.whole") #[.iface 80 (.pointer (some ⟨rd, 0, none⟩))] #[]), .eq (.func (.method "alibi/cert.whole") #[.iface 80 (.pointer (some ⟨rd, 0, none⟩))] #[]), .eq (.iface 80 (.pointer (some ⟨rd, 0, none⟩))), .tail] 7 [] [] (by kernel_rfl) ⟨?_, ?_, ?_, ?_, ?_, ?_, ?_, trivial⟩ trivial [fun vs w' => RdTo rd rb l sv (numS s).2 (false || decide (9223372036854775807 + 0 < (numS s).1)) cb 2 (.int .i64 (numI 0 (numS s).1)) w w'] ⟨?_, trivial⟩ (fun vs => [(17, (.iface 80 (.pointer (some ⟨rd, 0, none⟩)))), (18, (.pointer (some ⟨cb, 0, none⟩))), (19, (.pointer (some ⟨cb, 0, none⟩))), (20, (.pointer (some ⟨cb, 2, none⟩))), (21, (.func (.method "alibi/cert.whole") #[.iface 80 (.pointer (some ⟨rd, 0, none⟩))] #[])), (22, (.func (.method "alibi/cert.whole") #[.iface 80 (.pointer (some ⟨rd, 0, none⟩))] #[])), (23, (.iface 80 (.pointer (some ⟨rd, 0, none⟩)))), (24, vs 7)]) (fun _ => rfl) ?_
  · refine RStep.mk rfl rfl (fun S a wx K Q hR hK => ?_)
    have t1 : a.tmps[1]? = some (.iface 80 (.pointer (some ⟨rd, 0, none⟩))) := (hR.old 1 (by kernel_rfl)).trans (by kernel_rfl)
    go_simp
    exact hK _ _ (Below.refl _ _) rfl
  · refine RStep.mk rfl rfl (fun S a wx K Q hR hK => ?_)
    have t0 : a.tmps[0]? = some (.pointer (some ⟨cb, 0, none⟩)) := (hR.old 0 (by kernel_rfl)).trans (by kernel_rfl)
    go_simp
    exact hK _ _ (Below.refl _ _) rfl
  · refine RStep.mk rfl rfl (fun S a wx K Q hR hK => ?_)
    have t18 := hR.eq 1 (by kernel_rfl) rfl rfl
    go_simp
    exact hK _ _ (Below.refl _ _) rfl
  · refine RStep.mk rfl rfl (fun S a wx K Q hR hK => ?_)
    have t19 := hR.eq 2 (by kernel_rfl) rfl rfl
    go_simp
    exact hK _ _ (Below.refl _ _) rfl
  · refine RStep.mk rfl rfl (fun S a wx K Q hR hK => ?_)
    have t17 := hR.eq 0 (by kernel_rfl) rfl rfl
    go_simp
    exact hK _ _ (Below.refl _ _) rfl
  · refine RStep.mk rfl rfl (fun S a wx K Q hR hK => ?_)
    have t21 := hR.eq 4 (by kernel_rfl) rfl rfl
    refine wp_nilMeth (.tmp 21) rfl (eval_of t21) (nil_wholeR rd _) ?_
    exact hK _ _ (Below.refl _ _) rfl
  · refine RStep.mk rfl rfl (fun S a wx K Q hR hK => ?_)
    have t17 := hR.eq 0 (by kernel_rfl) rfl rfl
    go_simp
    exact hK _ _ (Below.refl _ _) rfl
  · refine TStep.mk rfl (fun vs a wx K Q hR hZ hK => ?_)
    have t23 := hR.dep 6 23 (by kernel_rfl) rfl
    rw [hR.eqs 6 _ rfl] at t23
    have t20 := hR.dep 3 20 (by kernel_rfl) rfl
    rw [hR.eqs 3 _ rfl] at t20
    obtain ⟨hbel2, S2, hlow, hof⟩ := hZ
    have hwx := HW.out.below hbel2
    go_simp
    go_invoke
    go_simp
    go_at_call 175
    refine (rdWhole_any cb 2 0 (.int .i64 0) hwx HS.out.cbrb HS.out.cbrd HS.out.offc (by omega) ((hbel2.cell (p := ⟨cb, 2, none⟩) hcl).trans d2) ((hbel2.frozen (p := ⟨cb, 2, none⟩) hcl).trans z2) rfl).mono ?_
    rintro e w2 ⟨rfl, ht⟩
    exact hK _ _ (ht.from_below hbel2 hcl)
  intro vs wN hE hZ
  have HZ := Lib.hid hZ
  simp only [putsL, List.foldl_cons, List.foldl_nil]
  clear hE hZ
  generalize vs 7 = vt
  go_simp
  have hcN : wN.heap[cb]? = some (.cells #[.int .i64 2, .slice none 0 0, .int .i64 (numI 0 (numS s).1), .int .i64 0, .slice none 0 0] 25 (0, 0)) := HZ.out.at'.trans (heap_set_at HC.out rfl)
  have HCN := Lib.hid hcN
  have d3 : wN.cell? ⟨cb, 3, none⟩ = some (.int .i64 0) := by rw [cell_of_row wN _ 3 _ _ _ hcN]; rfl
  have z3 : wN.frozen? ⟨cb, 3, none⟩ = false := by rw [frozen_of_row wN _ 3 _ _ hcN]
  have hcl1 : cb < wN.heap.size := (Array.getElem?_eq_some_iff.1 hcN).1
  have HT1 := HZ
  have HW1 := Lib.hid HZ.out.rs
  clear HW HZ hcN d0 d2 z2
  have HW := HW1
  clear HW1
  go_wp2_with fail
  refine wp_region_tail (w0 := wN) rfl [.eq (.iface 80 (.pointer (some ⟨rd, 0, none⟩))), .eq (.pointer (some ⟨cb, 0, none⟩)), .eq (.pointer (some ⟨cb, 0, none⟩)), .eq (.pointer (some ⟨cb, 3, none⟩)), .eq (.func (.method "alibi/cert.whole") #[.iface 80 (.pointer (some ⟨rd, 0, none⟩))] #[]), .eq (.func (.method "alibi/cert.whole") #[.iface 80 (.pointer (some ⟨rd, 0, none⟩))] #[]), .eq (.iface 80 (.pointer (some ⟨rd, 0, none⟩))), .tail] 7 [] [] (by kernel_rfl) ⟨?_, ?_, ?_, ?_, ?_, ?_, ?_, trivial⟩ trivial [fun vs w' => RdTo rd rb l sv (numS (numS s).2).2 ((false || decide (9223372036854775807 + 0 < (numS s).1)) || decide (9223372036854775807 + 0 < (numS (numS s).2).1)) cb 3 (.int .i64 (numI 0 (numS (numS s).2).1)) wN w'] ⟨?_, trivial⟩ (fun vs => [(25, (.iface 80 (.pointer (some ⟨rd, 0, none⟩)))), (26, (.pointer (some ⟨cb, 0, none⟩))), (27, (.pointer (some ⟨cb, 0, none⟩))), (28, (.pointer (some ⟨cb, 3, none⟩))), (29, (.func (.method "alibi/cert.whole") #[.iface 80 (.pointer (some ⟨rd, 0, none⟩))] #[])), (30, (.func (.method "alibi/cert.whole") #[.iface 80 (.pointer (some ⟨rd, 0, none⟩))] #[])), (31, (.iface 80 (.pointer (some ⟨rd, 0, none⟩)))), (32, vs 7)]) (fun _ => rfl) ?_
  · refine RStep.mk rfl rfl (fun S a wx K Q hR hK => ?_)
    have t1 : a.tmps[1]? = some (.iface 80 (.pointer (some ⟨rd, 0, none⟩))) := (hR.old 1 (by kernel_rfl)).trans (by kernel_rfl)
    go_simp
    exact hK _ _ (Below.refl _ _) rfl
  · refine RStep.mk rfl rfl (fun S a wx K Q hR hK => ?_)
    have t0 : a.tmps[0]? = some (.pointer (some ⟨cb, 0, none⟩)) := (hR.old 0 (by kernel_rfl)).trans (by kernel_rfl)
    go_simp
    exact hK _ _ (Below.refl _ _) rfl
  · refine RStep.mk rfl rfl (fun S a wx K Q hR hK => ?_)
    have t26 := hR.eq 1 (by kernel_rfl) rfl rfl
    go_simp
    exact hK _ _ (Below.refl _ _) rfl
  · refine RStep.mk rfl rfl (fun S a wx K Q hR hK => ?_)
    have t27 := hR.eq 2 (by kernel_rfl) rfl rfl
    go_simp
    exact hK _ _ (Below.refl _ _) rfl
  · refine RStep.mk rfl rfl (fun S a wx K Q hR hK => ?_)
    have t25 := hR.eq 0 (by kernel_rfl) rfl rfl
    go_simp
    exact hK _ _ (Below.refl _ _) rfl
  · refine RStep.mk rfl rfl (fun S a wx K Q hR hK => ?_)
    have t29 := hR.eq 4 (by kernel_rfl) rfl rfl
    refine wp_nilMeth (.tmp 29) rfl (eval_of t29) (nil_wholeR rd _) ?_
    exact hK _ _ (Below.refl _ _) rfl
  · refine RStep.mk rfl rfl (fun S a wx K Q hR hK => ?_)
    have t25 := hR.eq 0 (by kernel_rfl) rfl rfl
    go_simp
    exact hK _ _ (Below.refl _ _) rfl
  · refine TStep.mk rfl (fun vs a wx K Q hR hZ hK => ?_)
    have t31 := hR.dep 6 31 (by kernel_rfl) rfl
    rw [hR.eqs 6 _ rfl] at t31
    have t28 := hR.dep 3 28 (by kernel_rfl) rfl
    rw [hR.eqs 3 _ rfl] at t28
    obtain ⟨hbel2, S2, hlow, hof⟩ := hZ
    have hwx := HW.out.below hbel2
    go_simp
    go_invoke
    go_simp
    go_at_call 175
    refine (rdWhole_any cb 3 0 (.int .i64 0) hwx HS.out.cbrb HS.out.cbrd HS.out.offc (by omega) ((hbel2.cell (p := ⟨cb, 3, none⟩) hcl1).trans d3) ((hbel2.frozen (p := ⟨cb, 3, none⟩) hcl1).trans z3) rfl).mono ?_
    rintro e w2 ⟨rfl, ht⟩
    exact hK _ _ (ht.from_below hbel2 hcl1)
  intro vs wE hE hZ
  have HZ := Lib.hid hZ
  simp only [putsL, List.foldl_cons, List.foldl_nil]
  clear hE hZ
  generalize vs 7 = vt
  go_simp
  (try (go_wp2_with fail))
  go_end0
  refine ⟨rfl, #[.int .i64 2, .slice none 0 0, .int .i64 (numI 0 (numS s).1), .int .i64 (numI 0 (numS (numS s).2).1), .slice none 0 0], HZ.out.at'.trans (heap_set_at HCN.out rfl), ?_, ?_, ?_⟩
  · rw [rdCrt_o (by decide) (by decide)]
    exact ⟨_, _, rfl, RepI.nil _ _ _, RepW.nil _ _ _⟩
  · rw [rdNs_o (by decide) (by decide)]
    exact HZ.out.rs
  · exact (HT1.out.kx.wider fun b _ h => by rcases h with h | h | h; exact .inr (.inl h); exact .inr (.inr h); exact .inl h).trans (HZ.out.kx.wider fun b _ h => by rcases h with h | h | h; exact .inr (.inl h); exact .inr (.inr h); exact .inl h)
set_option maxHeartbeats 6000000 in
set_option maxRecDepth 100000 in
theorem rdParts_3 (cb rd rb : Nat) (l : List UInt8) (sv : Value) (s : Option (List UInt8)) (w : World) (hs : SF w cb rd rb sv) (hc : w.heap[cb]? = some (.cells #[.int .i64 3, .slice none 0 0, .int .i64 0, .int .i64 0, .slice none 0 0] 25 (0, 0))) (hr : RD rd rb l sv s false w) :
    Calls Tryz.prog 29 #[.pointer (some ⟨cb, 0, none⟩), .iface 80 (.pointer (some ⟨rd, 0, none⟩))] w (RdEnd cb rd rb l sv 3 s w) := by
  have hcl : cb < w.heap.size := hs.lcb
  have HS := Lib.hid hs
  have HW := Lib.hid hr
  have HC := Lib.hid hc
  have d0 : w.cell? ⟨cb, 0, none⟩ = some (.int .i64 3) := by rw [cell_of_row w _ 0 _ _ _ hc]; rfl
  have d2 : w.cell? ⟨cb, 2, none⟩ = some (.int .i64 0) := by rw [cell_of_row w _ 2 _ _ _ hc]; rfl
  have z2 : w.frozen? ⟨cb, 2, none⟩ = false := by rw [frozen_of_row w _ 2 _ _ hc]
  clear hr hc hs
  go_enter Tryz.func29, Tryz.ntmps29
  go_upto_region 1 with fail
  refine wp_region_tail (w0 := w) rfl [.eq (.iface 80 (.pointer (some ⟨rd, 0, none⟩))), .eq (.pointer (some ⟨cb, 0, none⟩)), .eq (.pointer (some ⟨cb, 0, none⟩)), .eq (.pointer (some ⟨cb, 2, none⟩)), .eq (.func (.method "alibi/cert.whole") #[.iface 80 (.pointer (some ⟨rd, 0, none⟩))] #[]), .eq (.func (.method "alibi/cert.whole") #[.iface 80 (.pointer (some ⟨rd, 0, none⟩))] #[]), .eq (.iface 80 (.pointer (some ⟨rd, 0, none⟩))), .tail] 7 [] [] (by kernel_rfl) ⟨?_, ?_, ?_, ?_, ?_, ?_, ?_, trivial⟩ trivial [fun vs w' => RdTo rd rb l sv (numS s).2 (false || decide (9223372036854775807 + 0 < (numS s).1)) cb 2 (.int .i64 (numI 0 (numS s).1)) w w'] ⟨?_, trivial⟩ (fun vs => [(17, (.iface 80 (.pointer (some ⟨rd, 0, none⟩)))), (18, (.pointer (some ⟨cb, 0, none⟩))), (19, (.pointer (some ⟨cb, 0, none⟩))), (20, (.pointer (some ⟨cb, 2, none⟩))), (21, (.func (.method "alibi/cert.whole") #[.iface 80 (.pointer (some ⟨rd, 0, none⟩))] #[])), (22, (.func (.method "alibi/cert.whole") #[.iface 80 (.pointer (some ⟨rd, 0, none⟩))] #[])), (23, (.iface 80 (.pointer (some ⟨rd, 0, none⟩)))), (24, vs 7)]) (fun _ => rfl) ?_
  · refine RStep.mk rfl rfl (fun S a wx K Q hR hK => ?_)
    have t1 : a.tmps[1]? = some (.iface 80 (.pointer (some ⟨rd, 0, none⟩))) := (hR.old 1 (by kernel_rfl)).trans (by kernel_rfl)
    go_simp
    exact hK _ _ (Below.refl _ _) rfl
  · refine RStep.mk rfl rfl (fun S a wx K Q hR hK => ?_)
    have t0 : a.tmps[0]? = some (.pointer (some ⟨cb, 0, none⟩)) := (hR.old 0 (by kernel_rfl)).trans (by kernel_rfl)
    go_simp
    exact hK _ _ (Below.refl _ _) rfl
  · refine RStep.mk rfl rfl (fun S a wx K Q hR hK => ?_)
    have t18 := hR.eq 1 (by kernel_rfl) rfl rfl
    go_simp
    exact hK _ _ (Below.refl _ _) rfl
  · refine RStep.mk rfl rfl (fun S a wx K Q hR hK => ?_)
    have t19 := hR.eq 2 (by kernel_rfl) rfl rfl
    go_simp
    exact hK _ _ (Below.refl _ _) rfl
  · refine RStep.mk rfl rfl (fun S a wx K Q hR hK => ?_)
    have t17 := hR.eq 0 (by kernel_rfl) rfl rfl
    go_simp
    exact hK _ _ (Below.refl _ _) rfl
  · refine RStep.mk rfl rfl (fun S a wx K Q hR hK => ?_)
    have t21 := hR.eq 4 (by kernel_rfl) rfl rfl
    refine wp_nilMeth (.tmp 21) rfl (eval_of t21) (nil_wholeR rd _) ?_
    exact hK _ _ (Below.refl _ _) rfl
  · refine RStep.mk rfl rfl (fun S a wx K Q hR hK => ?_)
    have t17 := hR.eq 0 (by kernel_rfl) rfl rfl
    go_simp
    exact hK _ _ (Below.refl _ _) rfl
  · refine TStep.mk rfl (fun vs a wx K Q hR hZ hK => ?_)
    have t23 := hR.dep 6 23 (by kernel_rfl) rfl
    rw [hR.eqs 6 _ rfl] at t23
    have t20 := hR.dep 3 20 (by kernel_rfl) rfl
    rw [hR.eqs 3 _ rfl] at t20
    obtain ⟨hbel2, S2, hlow, hof⟩ := hZ
    have hwx := HW.out.below hbel2
    go_simp
    go_invoke
    go_simp
    go_at_call 175
    refine (rdWhole_any cb 2 0 (.int .i64 0) hwx HS.out.cbrb HS.out.cbrd HS.out.offc (by omega) ((hbel2.cell (p := ⟨cb, 2, none⟩) hcl).trans d2) ((hbel2.frozen (p := ⟨cb, 2, none⟩) hcl).trans z2) rfl).mono ?_
    rintro e w2 ⟨rfl, ht⟩
    exact hK _ _ (ht.from_below hbel2 hcl)
  intro vs wN hE hZ
  have HZ := Lib.hid hZ
  simp only [putsL, List.foldl_cons, List.foldl_nil]
  clear hE hZ
  generalize vs 7 = vt
  go_simp
  have hcN : wN.heap[cb]? = some (.cells #[.int .i64 3, .slice none 0 0, .int .i64 (numI 0 (numS s).1), .int .i64 0, .slice none 0 0] 25 (0, 0)) := HZ.out.at'.trans (heap_set_at HC.out rfl)
  have HCN := Lib.hid hcN
  have d3 : wN.cell? ⟨cb, 3, none⟩ = some (.int .i64 0) := by rw [cell_of_row wN _ 3 _ _ _ hcN]; rfl
  have z3 : wN.frozen? ⟨cb, 3, none⟩ = false := by rw [frozen_of_row wN _ 3 _ _ hcN]
  have hcl1 : cb < wN.heap.size := (Array.getElem?_eq_some_iff.1 hcN).1
  have HT1 := HZ
  have HW1 := Lib.hid HZ.out.rs
  clear HW HZ hcN d0 d2 z2
  have HW := HW1
  clear HW1
  go_wp2_with fail
  refine wp_region_tail (w0 := wN) rfl [.eq (.iface 80 (.pointer (some ⟨rd, 0, none⟩))), .eq (.pointer (some ⟨cb, 0, none⟩)), .eq (.pointer (some ⟨cb, 0, none⟩)), .eq (.pointer (some ⟨cb, 3, none⟩)), .eq (.func (.method "alibi/cert.whole") #[.iface 80 (.pointer (some ⟨rd, 0, none⟩))] #[]), .eq (.func (.method "alibi/cert.whole") #[.iface 80 (.pointer (some ⟨rd, 0, none⟩))] #[]), .eq (.iface 80 (.pointer (some ⟨rd, 0, none⟩))), .tail] 7 [] [] (by kernel_rfl) ⟨?_, ?_, ?_, ?_, ?_, ?_, ?_, trivial⟩ trivial [fun vs w' => RdTo rd rb l sv (numS (numS s).2).2 ((false || decide (9223372036854775807 + 0 < (numS s).1)) || decide (9223372036854775807 + 0 < (numS (numS s).2).1)) cb 3 (.int .i64 (numI 0 (numS (numS s).2).1)) wN w'] ⟨?_, trivial⟩ (fun vs => [(25, (.iface 80 (.pointer (some ⟨rd, 0, none⟩)))), (26, (.pointer (some ⟨cb, 0, none⟩))), (27, (.pointer (some ⟨cb, 0, none⟩))), (28, (.pointer (some ⟨cb, 3, none⟩))), (29, (.func (.method "alibi/cert.whole") #[.iface 80 (.pointer (some ⟨rd, 0, none⟩))] #[])), (30, (.func (.method "alibi/cert.whole") #[.iface 80 (.pointer (some ⟨rd, 0, none⟩))] #[])), (31, (.iface 80 (.pointer (some ⟨rd, 0, none⟩)))), (32, vs 7)]) (fun _ => rfl) ?_
  · refine RStep.mk rfl rfl (fun S a wx K Q hR hK => ?_)
    have t1 : a.tmps[1]? = some (.iface 80 (.pointer (some ⟨rd, 0, none⟩))) := (hR.old 1 (by kernel_rfl)).trans (by kernel_rfl)
    go_simp
    exact hK _ _ (Below.refl _ _) rfl
  · refine RStep.mk rfl rfl (fun S a wx K Q hR hK => ?_)
    have t0 : a.tmps[0]? = some (.pointer (some ⟨cb, 0, none⟩)) := (hR.old 0 (by kernel_rfl)).trans (by kernel_rfl)
    go_simp
    exact hK _ _ (Below.refl _ _) rfl
  · refine RStep.mk rfl rfl (fun S a wx K Q hR hK => ?_)
    have t26 := hR.eq 1 (by kernel_rfl) rfl rfl
    go_simp
    exact hK _ _ (Below.refl _ _) rfl
  · refine RStep.mk rfl rfl (fun S a wx K Q hR hK => ?_)
    have t27 := hR.eq 2 (by kernel_rfl) rfl rfl
    go_simp
    exact hK _ _ (Below.refl _ _) rfl
  · refine RStep.mk rfl rfl (fun S a wx K Q hR hK => ?_)
    have t25 := hR.eq 0 (by kernel_rfl) rfl rfl
    go_simp
    exact hK _ _ (Below.refl _ _) rfl
  · refine RStep.mk rfl rfl (fun S a wx K Q hR hK => ?_)
    have t29 := hR.eq 4 (by kernel_rfl) rfl rfl
    refine wp_nilMeth (.tmp 29) rfl (eval_of t29) (nil_wholeR rd _) ?_
    exact hK _ _ (Below.refl _ _) rfl
  · refine RStep.mk rfl rfl (fun S a wx K Q hR hK => ?_)
    have t25 := hR.eq 0 (by kernel_rfl) rfl rfl
    go_simp
    exact hK _ _ (Below.refl _ _) rfl
  · refine TStep.mk rfl (fun vs a wx K Q hR hZ hK => ?_)
    have t31 := hR.dep 6 31 (by kernel_rfl) rfl
    rw [hR.eqs 6 _ rfl] at t31
    have t28 := hR.dep 3 28 (by kernel_rfl) rfl
    rw [hR.eqs 3 _ rfl] at t28
    obtain ⟨hbel2, S2, hlow, hof⟩ := hZ
    have hwx := HW.out.below hbel2
    go_simp
    go_invoke
    go_simp
    go_at_call 175
    refine (rdWhole_any cb 3 0 (.int .i64 0) hwx HS.out.cbrb HS.out.cbrd HS.out.offc (by omega) ((hbel2.cell (p := ⟨cb, 3, none⟩) hcl1).trans d3) ((hbel2.frozen (p := ⟨cb, 3, none⟩) hcl1).trans z3) rfl).mono ?_
    rintro e w2 ⟨rfl, ht⟩
    exact hK _ _ (ht.from_below hbel2 hcl1)
  intro vs wE hE hZ
  have HZ := Lib.hid hZ
  simp only [putsL, List.foldl_cons, List.foldl_nil]
  clear hE hZ
  generalize vs 7 = vt
  go_simp
  (try (go_wp2_with fail))
  go_end0
  refine ⟨rfl, #[.int .i64 3, .slice none 0 0, .int .i64 (numI 0 (numS s).1), .int .i64 (numI 0 (numS (numS s).2).1), .slice none 0 0], HZ.out.at'.trans (heap_set_at HCN.out rfl), ?_, ?_, ?_⟩
  · rw [rdCrt_o (by decide) (by decide)]
    exact ⟨_, _, rfl, RepI.nil _ _ _, RepW.nil _ _ _⟩
  · rw [rdNs_o (by decide) (by decide)]
    exact HZ.out.rs
  · exact (HT1.out.kx.wider fun b _ h => by rcases h with h | h | h; exact .inr (.inl h); exact .inr (.inr h); exact .inl h).trans (HZ.out.kx.wider fun b _ h => by rcases h with h | h | h; exact .inr (.inl h); exact .inr (.inr h); exact .inl h)
set_option maxHeartbeats 6000000 in
set_option maxRecDepth 100000 in
theorem rdParts_1 (cb rd rb : Nat) (l : List UInt8) (sv : Value) (s : Option (List UInt8)) (w : World) (hs : SF w cb rd rb sv) (hc : w.heap[cb]? = some (.cells #[.int .i64 1, .slice none 0 0, .int .i64 0, .int .i64 0, .slice none 0 0] 25 (0, 0))) (hr : RD rd rb l sv s false w) :
    Calls Tryz.prog 29 #[.pointer (some ⟨cb, 0, none⟩), .iface 80 (.pointer (some ⟨rd, 0, none⟩))] w (RdEnd cb rd rb l sv 1 s w) := by
  have hcl : cb < w.heap.size := hs.lcb
  have HS := Lib.hid hs
  have HW := Lib.hid hr
  have HC := Lib.hid hc
  have d1 : w.cell? ⟨cb, 1, none⟩ = some (.slice none 0 0) := by rw [cell_of_row w _ 1 _ _ _ hc]; rfl
  have d0 : w.cell? ⟨cb, 0, none⟩ = some (.int .i64 1) := by rw [cell_of_row w _ 0 _ _ _ hc]; rfl
  obtain ⟨i0, hi0, hz0, hz1, hz2⟩ := info_parts infoInt
  clear hr hc hs
  go_enter Tryz.func29, Tryz.ntmps29
  go_upto_region 4 with fail
  refine wp_region_tail (w0 := w) rfl [.eq (.iface 80 (.pointer (some ⟨rd, 0, none⟩))), .eq (.pointer (some ⟨cb, 0, none⟩)), .eq (.pointer (some ⟨cb, 0, none⟩)), .eq (.pointer (some ⟨cb, 1, none⟩)), .eq (.slice none 0 0), .eq (.int .i64 0), .eq (.func (.method "alibi/cert.many") #[.iface 80 (.pointer (some ⟨rd, 0, none⟩))] #[]), .eq (.func (.method "alibi/cert.many") #[.iface 80 (.pointer (some ⟨rd, 0, none⟩))] #[]), .eq (.iface 80 (.pointer (some ⟨rd, 0, none⟩))), .tail, .tail] 9 [10] [] (by kernel_rfl) ⟨?_, ?_, ?_, ?_, ?_, ?_, ?_, ?_, ?_, trivial⟩ trivial [fun vs w' => vs 9 = .int .i64 ((manyS s).1 : Nat) ∧ RD rd rb l sv (numS s).2 (manyS s).2 w' ∧ Kx (fun b => b = rd ∨ b = rb) w w', fun vs w' => vs 10 = .int .i64 ((manyS s).1 : Nat) ∧ RD rd rb l sv (numS s).2 (manyS s).2 w' ∧ Kx (fun b => b = rd ∨ b = rb) w w'] ⟨?_, ?_, trivial⟩ (fun vs => [(35, (.iface 80 (.pointer (some ⟨rd, 0, none⟩)))), (36, (.pointer (some ⟨cb, 0, none⟩))), (37, (.pointer (some ⟨cb, 0, none⟩))), (38, (.pointer (some ⟨cb, 1, none⟩))), (39, (.slice none 0 0)), (40, (.int .i64 0)), (41, (.func (.method "alibi/cert.many") #[.iface 80 (.pointer (some ⟨rd, 0, none⟩))] #[])), (42, (.func (.method "alibi/cert.many") #[.iface 80 (.pointer (some ⟨rd, 0, none⟩))] #[])), (43, (.iface 80 (.pointer (some ⟨rd, 0, none⟩)))), (44, vs 9), (4, vs 10)]) (fun _ => rfl) ?_
  · refine RStep.mk rfl rfl (fun S a wx K Q hR hK => ?_)
    have t1 : a.tmps[1]? = some (.iface 80 (.pointer (some ⟨rd, 0, none⟩))) := (hR.old 1 (by kernel_rfl)).trans (by kernel_rfl)
    go_simp
    exact hK _ _ (Below.refl _ _) rfl
  · refine RStep.mk rfl rfl (fun S a wx K Q hR hK => ?_)
    have t0 : a.tmps[0]? = some (.pointer (some ⟨cb, 0, none⟩)) := (hR.old 0 (by kernel_rfl)).trans (by kernel_rfl)
    go_simp
    exact hK _ _ (Below.refl _ _) rfl
  · refine RStep.mk rfl rfl (fun S a wx K Q hR hK => ?_)
    have t36 := hR.eq 1 (by kernel_rfl) rfl rfl
    go_simp
    exact hK _ _ (Below.refl _ _) rfl
  · refine RStep.mk rfl rfl (fun S a wx K Q hR hK => ?_)
    have t37 := hR.eq 2 (by kernel_rfl) rfl rfl
    go_simp
    exact hK _ _ (Below.refl _ _) rfl
  · refine RStep.mk rfl rfl (fun S a wx K Q hR hK => ?_)
    have t38 := hR.eq 3 (by kernel_rfl) rfl rfl
    have y0 := (hR.bel.cell (p := ⟨cb, 1, none⟩) hcl).trans d1
    go_simp
    exact hK _ _ (Below.refl _ _) rfl
  · refine RStep.mk rfl rfl (fun S a wx K Q hR hK => ?_)
    have t39 := hR.eq 4 (by kernel_rfl) rfl rfl
    go_simp
    exact hK _ _ (Below.refl _ _) rfl
  · refine RStep.mk rfl rfl (fun S a wx K Q hR hK => ?_)
    have t35 := hR.eq 0 (by kernel_rfl) rfl rfl
    go_simp
    exact hK _ _ (Below.refl _ _) rfl
  · refine RStep.mk rfl rfl (fun S a wx K Q hR hK => ?_)
    have t41 := hR.eq 6 (by kernel_rfl) rfl rfl
    refine wp_nilMeth (.tmp 41) rfl (eval_of t41) (nil_manyR rd _) ?_
    exact hK _ _ (Below.refl _ _) rfl
  · refine RStep.mk rfl rfl (fun S a wx K Q hR hK => ?_)
    have t35 := hR.eq 0 (by kernel_rfl) rfl rfl
    go_simp
    exact hK _ _ (Below.refl _ _) rfl
  · refine TStep.mk rfl (fun vs a wx K Q hR hZ hK => ?_)
    have t43 := hR.dep 8 43 (by kernel_rfl) rfl
    rw [hR.eqs 8 _ rfl] at t43
    have t40 := hR.dep 5 40 (by kernel_rfl) rfl
    rw [hR.eqs 5 _ rfl] at t40
    obtain ⟨hbel2, S2, hlow, hof⟩ := hZ
    have hwx := HW.out.below hbel2
    go_simp
    go_invoke
    go_simp
    go_at_call 174
    refine (rdMany_any _ hwx).mono ?_
    rintro e w2 ⟨rfl, hr2, hk2⟩
    exact hK _ _ ⟨upd_self _ _ _, hr2, (Kx.of_below hbel2).trans hk2⟩
  · refine TStep.mk rfl (fun vs a wx K Q hR hZ hK => ?_)
    have t44 := hR.dep 9 44 (by kernel_rfl) rfl
    obtain ⟨ev, hz⟩ := hZ
    rw [ev] at t44
    have HZ := Lib.hid hz
    clear hz ev
    go_simp
    exact hK _ _ ⟨upd_self _ _ _, HZ.out⟩
  intro vs wN hE hZ
  obtain ⟨ev, hZ⟩ := hZ
  have HZ := Lib.hid hZ
  simp only [ev, putsL, List.foldl_cons, List.foldl_nil]
  clear hE hZ ev
  generalize vs 9 = vt
  go_simp
  have hcN : wN.heap[cb]? = some (.cells #[.int .i64 1, .slice none 0 0, .int .i64 0, .int .i64 0, .slice none 0 0] 25 (0, 0)) := (HZ.out.2.keep cb hcl (fun h => h.elim HS.out.cbrd HS.out.cbrb)).trans HC.out
  have HCN := Lib.hid hcN
  have u1 : wN.cell? ⟨cb, 1, none⟩ = some (.slice none 0 0) := by rw [cell_of_row wN _ 1 _ _ _ hcN]; rfl
  have v1 : wN.frozen? ⟨cb, 1, none⟩ = false := by rw [frozen_of_row wN _ 1 _ _ hcN]
  have hcl1 : cb < wN.heap.size := (Array.getElem?_eq_some_iff.1 hcN).1
  have hn : (manyS s).1 ≤ 1000000 := manyS_le HZ.out.1.vr
  have H1 : Hid (RD rd rb l sv (numS s).2 (manyS s).2 wN ∧ Kx (X3 cb rd rb) w wN) := Lib.hid ⟨HZ.out.1, HZ.out.2.wider fun b _ h => .inr h⟩
  obtain ⟨n, hnn⟩ : ∃ n, n = (manyS s).1 := ⟨_, rfl⟩
  rw [← hnn] at hn ⊢
  have HNN := Lib.hid hnn
  clear hnn hcN HZ d0 d1 HW
  go_upto_region 5 with fail
  refine wp_region_tail (w0 := wN) rfl [.eq (.pointer (some ⟨cb, 0, none⟩)), .eq (.pointer (some ⟨cb, 0, none⟩)), .eq (.pointer (some ⟨cb, 0, none⟩)), .eq (.pointer (some ⟨cb, 1, none⟩)), .eq (.slice none 0 0), .eq (.int .i64 (n : Nat)), .eq (.pointer (some ⟨cb, 0, none⟩)), .eq (.pointer (some ⟨cb, 0, none⟩)), .eq (.pointer (some ⟨cb, 1, none⟩)), .eq (.slice none 0 0), .eq (.int .i64 0), .eq (.int .i64 (n : Nat)), .of (pRow 3 1 n (rowL (n * 1) (rowN FO zO []))), .eq (.pointer (some ⟨cb, 0, none⟩)), .eq (.pointer (some ⟨cb, 1, none⟩)), .tail] 15 [] [] (by kernel_rfl) ⟨?_, ?_, ?_, ?_, ?_, ?_, ?_, ?_, ?_, ?_, ?_, ?_, ?_, ?_, ?_, ?_, trivial⟩ trivial [fun vs w' => ∃ ad cap, n ≤ cap ∧ (0 < n → ∃ g, ad = some ⟨g, 0, none⟩) ∧ PO w cb rd rb l sv #[.int .i64 1, .slice ad n cap, .int .i64 0, .int .i64 0, .slice none 0 0] 3 1 FO zO badO (.slice ad n cap) n (numS s).2 (manyS s).2 (0) w'] ⟨?_, trivial⟩ (fun vs => [(45, (.pointer (some ⟨cb, 0, none⟩))), (46, (.pointer (some ⟨cb, 0, none⟩))), (47, (.pointer (some ⟨cb, 0, none⟩))), (48, (.pointer (some ⟨cb, 1, none⟩))), (49, (.slice none 0 0)), (50, (.int .i64 (n : Nat))), (51, (.pointer (some ⟨cb, 0, none⟩))), (52, (.pointer (some ⟨cb, 0, none⟩))), (53, (.pointer (some ⟨cb, 1, none⟩))), (54, (.slice none 0 0)), (55, (.int .i64 0)), (56, (.int .i64 (n : Nat))), (57, vs 12), (58, (.pointer (some ⟨cb, 0, none⟩))), (59, (.pointer (some ⟨cb, 1, none⟩)))]) (fun _ => rfl) ?_
  · refine RStep.mk rfl rfl (fun S a wx K Q hR hK => ?_)
    have t0 : a.tmps[0]? = some (.pointer (some ⟨cb, 0, none⟩)) := (hR.old 0 (by kernel_rfl)).trans (by kernel_rfl)
    go_simp
    exact hK _ _ (Below.refl _ _) rfl
  · refine RStep.mk rfl rfl (fun S a wx K Q hR hK => ?_)
    have t0 : a.tmps[0]? = some (.pointer (some ⟨cb, 0, none⟩)) := (hR.old 0 (by kernel_rfl)).trans (by kernel_rfl)
    go_simp
    exact hK _ _ (Below.refl _ _) rfl
  · refine RStep.mk rfl rfl (fun S a wx K Q hR hK => ?_)
    have t46 := hR.eq 1 (by kernel_rfl) rfl rfl
    go_simp
    exact hK _ _ (Below.refl _ _) rfl
  · refine RStep.mk rfl rfl (fun S a wx K Q hR hK => ?_)
    have t47 := hR.eq 2 (by kernel_rfl) rfl rfl
    go_simp
    exact hK _ _ (Below.refl _ _) rfl
  · refine RStep.mk rfl rfl (fun S a wx K Q hR hK => ?_)
    have t48 := hR.eq 3 (by kernel_rfl) rfl rfl
    have y0 := (hR.bel.cell (p := ⟨cb, 1, none⟩) hcl1).trans u1
    go_simp
    exact hK _ _ (Below.refl _ _) rfl
  · refine RStep.mk rfl rfl (fun S a wx K Q hR hK => ?_)
    have t4 : a.tmps[4]? = some (.int .i64 (n : Nat)) := (hR.old 4 (by kernel_rfl)).trans (by kernel_rfl)
    go_simp
    exact hK _ _ (Below.refl _ _) rfl
  · refine RStep.mk rfl rfl (fun S a wx K Q hR hK => ?_)
    have t0 : a.tmps[0]? = some (.pointer (some ⟨cb, 0, none⟩)) := (hR.old 0 (by kernel_rfl)).trans (by kernel_rfl)
    go_simp
    exact hK _ _ (Below.refl _ _) rfl
  · refine RStep.mk rfl rfl (fun S a wx K Q hR hK => ?_)
    have t51 := hR.eq 6 (by kernel_rfl) rfl rfl
    go_simp
    exact hK _ _ (Below.refl _ _) rfl
  · refine RStep.mk rfl rfl (fun S a wx K Q hR hK => ?_)
    have t52 := hR.eq 7 (by kernel_rfl) rfl rfl
    go_simp
    exact hK _ _ (Below.refl _ _) rfl
  · refine RStep.mk rfl rfl (fun S a wx K Q hR hK => ?_)
    have t53 := hR.eq 8 (by kernel_rfl) rfl rfl
    have y0 := (hR.bel.cell (p := ⟨cb, 1, none⟩) hcl1).trans u1
    go_simp
    exact hK _ _ (Below.refl _ _) rfl
  · refine RStep.mk rfl rfl (fun S a wx K Q hR hK => ?_)
    have t54 := hR.eq 9 (by kernel_rfl) rfl rfl
    go_simp
    exact hK _ _ (Below.refl _ _) rfl
  · refine RStep.mk rfl rfl (fun S a wx K Q hR hK => ?_)
    have t50 := hR.eq 5 (by kernel_rfl) rfl rfl
    have t55 := hR.eq 10 (by kernel_rfl) rfl rfl
    have y1 : IntKind.i64.wrap (n : Int) = (n : Int) := by rw [IntKind.wrap_i64]; omega
    go_simp
    (try go_ints)
    exact hK _ _ (Below.refl _ _) rfl
  · exact steadyRow _ _ _ _
  · refine RStep.mk rfl rfl (fun S a wx K Q hR hK => ?_)
    have t49 := hR.eq 4 (by kernel_rfl) rfl rfl
    have t56 := hR.eq 11 (by kernel_rfl) rfl rfl
    rcases Nat.eq_zero_or_pos n with hn0 | hn0
    · subst hn0
      refine wp_append_zero (.tmp 49) (.tmp 56) 22 3 rfl Tryz.underlying22 (by kernel_rfl) (by kernel_rfl) (by kernel_rfl) (eval_of t49) (eval_of t56) (Nat.le_refl _) ?_
      exact hK _ _ (Below.refl _ _) (.inl ⟨rfl, rfl, by simp [rowL]⟩)
    · refine wp_append_make wx (.tmp 49) (.tmp 56) 22 3 rfl 3 i0 _ 1 8 .i64 Tryz.underlying22 (by kernel_rfl) hi0 hz0 hz1 hz2 rfl (by omega) n (by unfold maxLen; omega) (by omega) hn0 (eval_of t49) (eval_of t56) ?_
      intro cap cur h1 h2 h3 h4
      exact hK _ _ ((Below.refl _ _).drew.alloc (Nat.le_refl _) _) (.inr ⟨_, cap, cur, rfl, hR.new _ (Nat.le_refl _), heap_alloc_new wx.drew _, h1, h2, h3, h4.trans (zeroInts n), rowL_len _ _⟩)
  · refine RStep.mk rfl rfl (fun S a wx K Q hR hK => ?_)
    have t45 := hR.eq 0 (by kernel_rfl) rfl rfl
    go_simp
    exact hK _ _ (Below.refl _ _) rfl
  · refine RStep.mk rfl rfl (fun S a wx K Q hR hK => ?_)
    have t58 := hR.eq 13 (by kernel_rfl) rfl rfl
    go_simp
    exact hK _ _ (Below.refl _ _) rfl
  · refine TStep.mk rfl (fun vs a wx K Q hR hZ hK => ?_)
    have t59 := hR.dep 14 59 (by kernel_rfl) rfl
    rw [hR.eqs 14 _ rfl] at t59
    have t57 := hR.dep 12 57 (by kernel_rfl) rfl
    obtain ⟨hbel2, S2, hlow, hof⟩ := hZ
    obtain ⟨ad, cap, ev, hcap, hob, hown, hpos⟩ := pRow.owns (base := w.heap.size) (show pRow 3 1 n (rowL (n * 1) (rowN FO zO [])) S2 (vs 12) wx from hof 12 _ rfl) (fun b hb => by have h5 := hlow b hb; have h6 := H1.out.2.size; omega)
    rw [ev] at t57 hown
    have c5 := (hbel2.cell (p := ⟨cb, 1, none⟩) hcl1).trans u1
    have f5 := (hbel2.frozen (p := ⟨cb, 1, none⟩) hcl1).trans v1
    have HQ := Lib.hid (PO.start (B := badO) HS.out (H1.out.1.below hbel2) (H1.out.2.trans (Kx.of_below hbel2)) ((hbel2.block cb hcl1).trans HCN.out) 1 _ n hown)
    clear hob hown hof ev
    go_simp
    exact hK undef _ ⟨ad, cap, hcap, hpos, HQ.out⟩
  intro vs wM hE hZ
  have HZ := Lib.hid hZ
  simp only [putsL, List.foldl_cons, List.foldl_nil]
  clear hE hZ
  go_simp
  obtain ⟨ad, cap, hcap, hpos, hpo⟩ := HZ.out
  have p1 : wM.cell? ⟨cb, 1, none⟩ = some (.slice ad n cap) := by rw [cell_of_row wM _ 1 _ _ _ hpo.row]; rfl
  have HPO := Lib.hid hpo
  have HPS := Lib.hid hpos
  clear HZ hpo hpos u1 v1 hcl1 H1 HCN
  go_wp2_with fail
  go_loopw [65] (fun i wr => ∃ j : Nat, j ≤ n ∧ i = .int .i64 j ∧ Hid (PO w cb rd rb l sv #[.int .i64 1, .slice ad n cap, .int .i64 0, .int .i64 0, .slice none 0 0] 3 1 FO zO badO (.slice ad n cap) n (numS s).2 (manyS s).2 (j) wr)) (fun i _ => n - (intOf i).toNat)
  case atStart => exact ⟨0, by omega, rfl, HPO⟩
  case round =>
    clear HPO p1
    obtain ⟨j, hj, rfl, HR⟩ := hrel
    by_cases hlt : j < n
    · obtain ⟨g, rfl⟩ := HPS.out (by omega)
      have p1 : wr.cell? ⟨cb, 1, none⟩ = some (.slice (some ⟨g, 0, none⟩) n cap) := by rw [cell_of_row wr _ 1 _ _ _ HR.out.row]; rfl
      have hclr : cb < wr.heap.size := (Array.getElem?_eq_some_iff.1 HR.out.row).1
      have x1 : (0 : Int) ≤ (j : Int) := by omega
      have x2 : (j : Int) < (n : Int) := by omega
      go_wp2_with fail
      refine wp_region_tail (w0 := wr) rfl [.eq (.iface 80 (.pointer (some ⟨rd, 0, none⟩))), .eq (.pointer (some ⟨cb, 0, none⟩)), .eq (.pointer (some ⟨cb, 0, none⟩)), .eq (.pointer (some ⟨cb, 1, none⟩)), .eq (.slice (some ⟨g, 0, none⟩) n cap), .eq (.int .i64 (j : Nat)), .eq (.pointer (some ⟨g, j, none⟩)), .eq (.func (.method "alibi/cert.whole") #[.iface 80 (.pointer (some ⟨rd, 0, none⟩))] #[]), .eq (.func (.method "alibi/cert.whole") #[.iface 80 (.pointer (some ⟨rd, 0, none⟩))] #[]), .eq (.iface 80 (.pointer (some ⟨rd, 0, none⟩))), .tail] 10 [] [] (by kernel_rfl) ⟨?_, ?_, ?_, ?_, ?_, ?_, ?_, ?_, ?_, ?_, trivial⟩ trivial [fun vs w' => PO w cb rd rb l sv #[.int .i64 1, .slice (some ⟨g, 0, none⟩) n cap, .int .i64 0, .int .i64 0, .slice none 0 0] 3 1 FO zO badO (.slice (some ⟨g, 0, none⟩) n cap) n (numS s).2 (manyS s).2 (j + 1) w'] ⟨?_, trivial⟩ (fun vs => [(68, (.iface 80 (.pointer (some ⟨rd, 0, none⟩)))), (69, (.pointer (some ⟨cb, 0, none⟩))), (70, (.pointer (some ⟨cb, 0, none⟩))), (71, (.pointer (some ⟨cb, 1, none⟩))), (72, (.slice (some ⟨g, 0, none⟩) n cap)), (73, (.int .i64 (j : Nat))), (74, (.pointer (some ⟨g, j, none⟩))), (75, (.func (.method "alibi/cert.whole") #[.iface 80 (.pointer (some ⟨rd, 0, none⟩))] #[])), (76, (.func (.method "alibi/cert.whole") #[.iface 80 (.pointer (some ⟨rd, 0, none⟩))] #[])), (77, (.iface 80 (.pointer (some ⟨rd, 0, none⟩)))), (78, vs 10)]) (fun _ => rfl) ?_
      · refine RStep.mk rfl rfl (fun S a wx K Q hR hK => ?_)
        have t1 : a.tmps[1]? = some (.iface 80 (.pointer (some ⟨rd, 0, none⟩))) := (hR.old 1 (by kernel_rfl)).trans (by kernel_rfl)
        go_simp
        exact hK _ _ (Below.refl _ _) rfl
      · refine RStep.mk rfl rfl (fun S a wx K Q hR hK => ?_)
        have t0 : a.tmps[0]? = some (.pointer (some ⟨cb, 0, none⟩)) := (hR.old 0 (by kernel_rfl)).trans (by kernel_rfl)
        go_simp
        exact hK _ _ (Below.refl _ _) rfl
      · refine RStep.mk rfl rfl (fun S a wx K Q hR hK => ?_)
        have t69 := hR.eq 1 (by kernel_rfl) rfl rfl
        go_simp
        exact hK _ _ (Below.refl _ _) rfl
      · refine RStep.mk rfl rfl (fun S a wx K Q hR hK => ?_)
        have t70 := hR.eq 2 (by kernel_rfl) rfl rfl
        go_simp
        exact hK _ _ (Below.refl _ _) rfl
      · refine RStep.mk rfl rfl (fun S a wx K Q hR hK => ?_)
        have t71 := hR.eq 3 (by kernel_rfl) rfl rfl
        have y0 := (hR.bel.cell (p := ⟨cb, 1, none⟩) hclr).trans p1
        go_simp
        exact hK _ _ (Below.refl _ _) rfl
      · refine RStep.mk rfl rfl (fun S a wx K Q hR hK => ?_)
        have t5 : a.tmps[5]? = some (.int .i64 (j : Nat)) := (hR.old 5 (by kernel_rfl)).trans (by kernel_rfl)
        go_simp
        exact hK _ _ (Below.refl _ _) rfl
      · refine RStep.mk rfl rfl (fun S a wx K Q hR hK => ?_)
        have t72 := hR.eq 4 (by kernel_rfl) rfl rfl
        have t73 := hR.eq 5 (by kernel_rfl) rfl rfl
        go_simp
        exact hK _ _ (Below.refl _ _) rfl
      · refine RStep.mk rfl rfl (fun S a wx K Q hR hK => ?_)
        have t68 := hR.eq 0 (by kernel_rfl) rfl rfl
        go_simp
        exact hK _ _ (Below.refl _ _) rfl
      · refine RStep.mk rfl rfl (fun S a wx K Q hR hK => ?_)
        have t75 := hR.eq 7 (by kernel_rfl) rfl rfl
        refine wp_nilMeth (.tmp 75) rfl (eval_of t75) (nil_wholeR rd _) ?_
        exact hK _ _ (Below.refl _ _) rfl
      · refine RStep.mk rfl rfl (fun S a wx K Q hR hK => ?_)
        have t68 := hR.eq 0 (by kernel_rfl) rfl rfl
        go_simp
        exact hK _ _ (Below.refl _ _) rfl
      · refine TStep.mk rfl (fun vs a wx K Q hR hZ hK => ?_)
        have t77 := hR.dep 9 77 (by kernel_rfl) rfl
        rw [hR.eqs 9 _ rfl] at t77
        have t74 := hR.dep 6 74 (by kernel_rfl) rfl
        rw [hR.eqs 6 _ rfl] at t74
        obtain ⟨hbel2, S2, hlow, hof⟩ := hZ
        have hwx := HR.out.below hbel2
        go_simp
        go_invoke
        go_simp
        go_at_call 175
        refine (poWhole_any HS.out hwx rfl (by omega) 0 (by omega) rfl (fun _ => rfl) (fun _ => rfl)).mono ?_
        rintro e w2 ⟨rfl, h2, _⟩
        exact hK _ _ h2
      intro vs wQ hE hZ
      have HZ := Lib.hid hZ
      simp only [putsL, List.foldl_cons, List.foldl_nil]
      clear hE hZ
      generalize vs 10 = vt
      go_simp
      go_wp2_with fail
      go_roundw
      case rel => exact ⟨j + 1, by omega, by go_num, HZ⟩
      case measure => simp [intOf]; omega
    · have hj2 : j = n := by omega
      subst hj2
      have p1 : wr.cell? ⟨cb, 1, none⟩ = some (.slice ad j cap) := by rw [cell_of_row wr _ 1 _ _ _ HR.out.row]; rfl
      go_wp2_with fail
      go_end0
      have hj := HNN.out
      refine ⟨rfl, _, HR.out.row, ?_, ?_, HR.out.kx⟩
      · rw [rdCrt_1, ← hj]
        exact ⟨_, _, rfl, HR.out.endI, RepW.nil _ _ _⟩
      · rw [rdNs_1, ← hj]
        exact HR.out.rs
set_option maxHeartbeats 12000000 in
set_option maxRecDepth 100000 in
theorem rdParts_4 (cb rd rb : Nat) (l : List UInt8) (sv : Value) (s : Option (List UInt8)) (w : World) (hs : SF w cb rd rb sv) (hc : w.heap[cb]? = some (.cells #[.int .i64 4, .slice none 0 0, .int .i64 0, .int .i64 0, .slice none 0 0] 25 (0, 0))) (hr : RD rd rb l sv s false w) :
    Calls Tryz.prog 29 #[.pointer (some ⟨cb, 0, none⟩), .iface 80 (.pointer (some ⟨rd, 0, none⟩))] w (RdEnd cb rd rb l sv 4 s w) := by
  have hcl : cb < w.heap.size := hs.lcb
  have HS := Lib.hid hs
  have HW := Lib.hid hr
  have HC := Lib.hid hc
  have d4 : w.cell? ⟨cb, 4, none⟩ = some (.slice none 0 0) := by rw [cell_of_row w _ 4 _ _ _ hc]; rfl
  have d0 : w.cell? ⟨cb, 0, none⟩ = some (.int .i64 4) := by rw [cell_of_row w _ 0 _ _ _ hc]; rfl
  obtain ⟨i0, hi0, hz0, hz1, hz2⟩ := info_parts infoEd
  clear hr hc hs
  go_enter Tryz.func29, Tryz.ntmps29
  go_upto_region 12 with fail
  refine wp_region_tail (w0 := w) rfl [.eq (.iface 80 (.pointer (some ⟨rd, 0, none⟩))), .eq (.pointer (some ⟨cb, 0, none⟩)), .eq (.pointer (some ⟨cb, 0, none⟩)), .eq (.pointer (some ⟨cb, 4, none⟩)), .eq (.slice none 0 0), .eq (.int .i64 0), .eq (.func (.method "alibi/cert.many") #[.iface 80 (.pointer (some ⟨rd, 0, none⟩))] #[]), .eq (.func (.method "alibi/cert.many") #[.iface 80 (.pointer (some ⟨rd, 0, none⟩))] #[]), .eq (.iface 80 (.pointer (some ⟨rd, 0, none⟩))), .tail, .tail] 9 [10] [] (by kernel_rfl) ⟨?_, ?_, ?_, ?_, ?_, ?_, ?_, ?_, ?_, trivial⟩ trivial [fun vs w' => vs 9 = .int .i64 ((manyS s).1 : Nat) ∧ RD rd rb l sv (numS s).2 (manyS s).2 w' ∧ Kx (fun b => b = rd ∨ b = rb) w w', fun vs w' => vs 10 = .int .i64 ((manyS s).1 : Nat) ∧ RD rd rb l sv (numS s).2 (manyS s).2 w' ∧ Kx (fun b => b = rd ∨ b = rb) w w'] ⟨?_, ?_, trivial⟩ (fun vs => [(82, (.iface 80 (.pointer (some ⟨rd, 0, none⟩)))), (83, (.pointer (some ⟨cb, 0, none⟩))), (84, (.pointer (some ⟨cb, 0, none⟩))), (85, (.pointer (some ⟨cb, 4, none⟩))), (86, (.slice none 0 0)), (87, (.int .i64 0)), (88, (.func (.method "alibi/cert.many") #[.iface 80 (.pointer (some ⟨rd, 0, none⟩))] #[])), (89, (.func (.method "alibi/cert.many") #[.iface 80 (.pointer (some ⟨rd, 0, none⟩))] #[])), (90, (.iface 80 (.pointer (some ⟨rd, 0, none⟩)))), (91, vs 9), (6, vs 10)]) (fun _ => rfl) ?_
  · refine RStep.mk rfl rfl (fun S a wx K Q hR hK => ?_)
    have t1 : a.tmps[1]? = some (.iface 80 (.pointer (some ⟨rd, 0, none⟩))) := (hR.old 1 (by kernel_rfl)).trans (by kernel_rfl)
    go_simp
    exact hK _ _ (Below.refl _ _) rfl
  · refine RStep.mk rfl rfl (fun S a wx K Q hR hK => ?_)
    have t0 : a.tmps[0]? = some (.pointer (some ⟨cb, 0, none⟩)) := (hR.old 0 (by kernel_rfl)).trans (by kernel_rfl)
    go_simp
    exact hK _ _ (Below.refl _ _) rfl
  · refine RStep.mk rfl rfl (fun S a wx K Q hR hK => ?_)
    have t83 := hR.eq 1 (by kernel_rfl) rfl rfl
    go_simp
    exact hK _ _ (Below.refl _ _) rfl
  · refine RStep.mk rfl rfl (fun S a wx K Q hR hK => ?_)
    have t84 := hR.eq 2 (by kernel_rfl) rfl rfl
    go_simp
    exact hK _ _ (Below.refl _ _) rfl
  · refine RStep.mk rfl rfl (fun S a wx K Q hR hK => ?_)
    have t85 := hR.eq 3 (by kernel_rfl) rfl rfl
    have y0 := (hR.bel.cell (p := ⟨cb, 4, none⟩) hcl).trans d4
    go_simp
    exact hK _ _ (Below.refl _ _) rfl
  · refine RStep.mk rfl rfl (fun S a wx K Q hR hK => ?_)
    have t86 := hR.eq 4 (by kernel_rfl) rfl rfl
    go_simp
    exact hK _ _ (Below.refl _ _) rfl
  · refine RStep.mk rfl rfl (fun S a wx K Q hR hK => ?_)
    have t82 := hR.eq 0 (by kernel_rfl) rfl rfl
    go_simp
    exact hK _ _ (Below.refl _ _) rfl
  · refine RStep.mk rfl rfl (fun S a wx K Q hR hK => ?_)
    have t88 := hR.eq 6 (by kernel_rfl) rfl rfl
    refine wp_nilMeth (.tmp 88) rfl (eval_of t88) (nil_manyR rd _) ?_
    exact hK _ _ (Below.refl _ _) rfl
  · refine RStep.mk rfl rfl (fun S a wx K Q hR hK => ?_)
    have t82 := hR.eq 0 (by kernel_rfl) rfl rfl
    go_simp
    exact hK _ _ (Below.refl _ _) rfl
  · refine TStep.mk rfl (fun vs a wx K Q hR hZ hK => ?_)
    have t90 := hR.dep 8 90 (by kernel_rfl) rfl
    rw [hR.eqs 8 _ rfl] at t90
    have t87 := hR.dep 5 87 (by kernel_rfl) rfl
    rw [hR.eqs 5 _ rfl] at t87
    obtain ⟨hbel2, S2, hlow, hof⟩ := hZ
    have hwx := HW.out.below hbel2
    go_simp
    go_invoke
    go_simp
    go_at_call 174
    refine (rdMany_any _ hwx).mono ?_
    rintro e w2 ⟨rfl, hr2, hk2⟩
    exact hK _ _ ⟨upd_self _ _ _, hr2, (Kx.of_below hbel2).trans hk2⟩
  · refine TStep.mk rfl (fun vs a wx K Q hR hZ hK => ?_)
    have t91 := hR.dep 9 91 (by kernel_rfl) rfl
    obtain ⟨ev, hz⟩ := hZ
    rw [ev] at t91
    have HZ := Lib.hid hz
    clear hz ev
    go_simp
    exact hK _ _ ⟨upd_self _ _ _, HZ.out⟩
  intro vs wN hE hZ
  obtain ⟨ev, hZ⟩ := hZ
  have HZ := Lib.hid hZ
  simp only [ev, putsL, List.foldl_cons, List.foldl_nil]
  clear hE hZ ev
  generalize vs 9 = vt
  go_simp
  have hcN : wN.heap[cb]? = some (.cells #[.int .i64 4, .slice none 0 0, .int .i64 0, .int .i64 0, .slice none 0 0] 25 (0, 0)) := (HZ.out.2.keep cb hcl (fun h => h.elim HS.out.cbrd HS.out.cbrb)).trans HC.out
  have HCN := Lib.hid hcN
  have u4 : wN.cell? ⟨cb, 4, none⟩ = some (.slice none 0 0) := by rw [cell_of_row wN _ 4 _ _ _ hcN]; rfl
  have v4 : wN.frozen? ⟨cb, 4, none⟩ = false := by rw [frozen_of_row wN _ 4 _ _ hcN]
  have hcl1 : cb < wN.heap.size := (Array.getElem?_eq_some_iff.1 hcN).1
  have hn : (manyS s).1 ≤ 1000000 := manyS_le HZ.out.1.vr
  have H1 : Hid (RD rd rb l sv (numS s).2 (manyS s).2 wN ∧ Kx (X3 cb rd rb) w wN) := Lib.hid ⟨HZ.out.1, HZ.out.2.wider fun b _ h => .inr h⟩
  obtain ⟨n, hnn⟩ : ∃ n, n = (manyS s).1 := ⟨_, rfl⟩
  rw [← hnn] at hn ⊢
  have HNN := Lib.hid hnn
  clear hnn hcN HZ d0 d4 HW
  go_upto_region 13 with fail
  refine wp_region_tail (w0 := wN) rfl [.eq (.pointer (some ⟨cb, 0, none⟩)), .eq (.pointer (some ⟨cb, 0, none⟩)), .eq (.pointer (some ⟨cb, 0, none⟩)), .eq (.pointer (some ⟨cb, 4, none⟩)), .eq (.slice none 0 0), .eq (.int .i64 (n : Nat)), .eq (.pointer (some ⟨cb, 0, none⟩)), .eq (.pointer (some ⟨cb, 0, none⟩)), .eq (.pointer (some ⟨cb, 4, none⟩)), .eq (.slice none 0 0), .eq (.int .i64 0), .eq (.int .i64 (n : Nat)), .of (pRow 54 9 n (rowL (n * 9) (rowN FW zW []))), .eq (.pointer (some ⟨cb, 0, none⟩)), .eq (.pointer (some ⟨cb, 4, none⟩)), .tail] 15 [] [] (by kernel_rfl) ⟨?_, ?_, ?_, ?_, ?_, ?_, ?_, ?_, ?_, ?_, ?_, ?_, ?_, ?_, ?_, ?_, trivial⟩ trivial [fun vs w' => ∃ ad cap, n ≤ cap ∧ (0 < n → ∃ g, ad = some ⟨g, 0, none⟩) ∧ PO w cb rd rb l sv #[.int .i64 4, .slice none 0 0, .int .i64 0, .int .i64 0, .slice ad n cap] 54 9 FW zW badW (.slice ad n cap) n (numS s).2 (manyS s).2 (0) w'] ⟨?_, trivial⟩ (fun vs => [(92, (.pointer (some ⟨cb, 0, none⟩))), (93, (.pointer (some ⟨cb, 0, none⟩))), (94, (.pointer (some ⟨cb, 0, none⟩))), (95, (.pointer (some ⟨cb, 4, none⟩))), (96, (.slice none 0 0)), (97, (.int .i64 (n : Nat))), (98, (.pointer (some ⟨cb, 0, none⟩))), (99, (.pointer (some ⟨cb, 0, none⟩))), (100, (.pointer (some ⟨cb, 4, none⟩))), (101, (.slice none 0 0)), (102, (.int .i64 0)), (103, (.int .i64 (n : Nat))), (104, vs 12), (105, (.pointer (some ⟨cb, 0, none⟩))), (106, (.pointer (some ⟨cb, 4, none⟩)))]) (fun _ => rfl) ?_
  · refine RStep.mk rfl rfl (fun S a wx K Q hR hK => ?_)
    have t0 : a.tmps[0]? = some (.pointer (some ⟨cb, 0, none⟩)) := (hR.old 0 (by kernel_rfl)).trans (by kernel_rfl)
    go_simp
    exact hK _ _ (Below.refl _ _) rfl
  · refine RStep.mk rfl rfl (fun S a wx K Q hR hK => ?_)
    have t0 : a.tmps[0]? = some (.pointer (some ⟨cb, 0, none⟩)) := (hR.old 0 (by kernel_rfl)).trans (by kernel_rfl)
    go_simp
    exact hK _ _ (Below.refl _ _) rfl
  · refine RStep.mk rfl rfl (fun S a wx K Q hR hK => ?_)
    have t93 := hR.eq 1 (by kernel_rfl) rfl rfl
    go_simp
    exact hK _ _ (Below.refl _ _) rfl
  · refine RStep.mk rfl rfl (fun S a wx K Q hR hK => ?_)
    have t94 := hR.eq 2 (by kernel_rfl) rfl rfl
    go_simp
    exact hK _ _ (Below.refl _ _) rfl
  · refine RStep.mk rfl rfl (fun S a wx K Q hR hK => ?_)
    have t95 := hR.eq 3 (by kernel_rfl) rfl rfl
    have y0 := (hR.bel.cell (p := ⟨cb, 4, none⟩) hcl1).trans u4
    go_simp
    exact hK _ _ (Below.refl _ _) rfl
  · refine RStep.mk rfl rfl (fun S a wx K Q hR hK => ?_)
    have t6 : a.tmps[6]? = some (.int .i64 (n : Nat)) := (hR.old 6 (by kernel_rfl)).trans (by kernel_rfl)
    go_simp
    exact hK _ _ (Below.refl _ _) rfl
  · refine RStep.mk rfl rfl (fun S a wx K Q hR hK => ?_)
    have t0 : a.tmps[0]? = some (.pointer (some ⟨cb, 0, none⟩)) := (hR.old 0 (by kernel_rfl)).trans (by kernel_rfl)
    go_simp
    exact hK _ _ (Below.refl _ _) rfl
  · refine RStep.mk rfl rfl (fun S a wx K Q hR hK => ?_)
    have t98 := hR.eq 6 (by kernel_rfl) rfl rfl
    go_simp
    exact hK _ _ (Below.refl _ _) rfl
  · refine RStep.mk rfl rfl (fun S a wx K Q hR hK => ?_)
    have t99 := hR.eq 7 (by kernel_rfl) rfl rfl
    go_simp
    exact hK _ _ (Below.refl _ _) rfl
  · refine RStep.mk rfl rfl (fun S a wx K Q hR hK => ?_)
    have t100 := hR.eq 8 (by kernel_rfl) rfl rfl
    have y0 := (hR.bel.cell (p := ⟨cb, 4, none⟩) hcl1).trans u4
    go_simp
    exact hK _ _ (Below.refl _ _) rfl
  · refine RStep.mk rfl rfl (fun S a wx K Q hR hK => ?_)
    have t101 := hR.eq 9 (by kernel_rfl) rfl rfl
    go_simp
    exact hK _ _ (Below.refl _ _) rfl
  · refine RStep.mk rfl rfl (fun S a wx K Q hR hK => ?_)
    have t97 := hR.eq 5 (by kernel_rfl) rfl rfl
    have t102 := hR.eq 10 (by kernel_rfl) rfl rfl
    have y1 : IntKind.i64.wrap (n : Int) = (n : Int) := by rw [IntKind.wrap_i64]; omega
    go_simp
    (try go_ints)
    exact hK _ _ (Below.refl _ _) rfl
  · exact steadyRow _ _ _ _
  · refine RStep.mk rfl rfl (fun S a wx K Q hR hK => ?_)
    have t96 := hR.eq 4 (by kernel_rfl) rfl rfl
    have t103 := hR.eq 11 (by kernel_rfl) rfl rfl
    rcases Nat.eq_zero_or_pos n with hn0 | hn0
    · subst hn0
      refine wp_append_zero (.tmp 96) (.tmp 103) 23 3 rfl Tryz.underlying23 (by kernel_rfl) (by kernel_rfl) (by kernel_rfl) (eval_of t96) (eval_of t103) (Nat.le_refl _) ?_
      exact hK _ _ (Below.refl _ _) (.inl ⟨rfl, rfl, by simp [rowL]⟩)
    · refine wp_append_make wx (.tmp 96) (.tmp 103) 23 3 rfl 54 i0 _ 9 72 .i64 Tryz.underlying23 (by kernel_rfl) hi0 hz0 hz1 hz2 rfl (by omega) n (by unfold maxLen; omega) (by omega) hn0 (eval_of t96) (eval_of t103) ?_
      intro cap cur h1 h2 h3 h4
      exact hK _ _ ((Below.refl _ _).drew.alloc (Nat.le_refl _) _) (.inr ⟨_, cap, cur, rfl, hR.new _ (Nat.le_refl _), heap_alloc_new wx.drew _, h1, h2, h3, h4.trans (zeroEds n), rowL_len _ _⟩)
  · refine RStep.mk rfl rfl (fun S a wx K Q hR hK => ?_)
    have t92 := hR.eq 0 (by kernel_rfl) rfl rfl
    go_simp
    exact hK _ _ (Below.refl _ _) rfl
  · refine RStep.mk rfl rfl (fun S a wx K Q hR hK => ?_)
    have t105 := hR.eq 13 (by kernel_rfl) rfl rfl
    go_simp
    exact hK _ _ (Below.refl _ _) rfl
  · refine TStep.mk rfl (fun vs a wx K Q hR hZ hK => ?_)
    have t106 := hR.dep 14 106 (by kernel_rfl) rfl
    rw [hR.eqs 14 _ rfl] at t106
    have t104 := hR.dep 12 104 (by kernel_rfl) rfl
    obtain ⟨hbel2, S2, hlow, hof⟩ := hZ
    obtain ⟨ad, cap, ev, hcap, hob, hown, hpos⟩ := pRow.owns (base := w.heap.size) (show pRow 54 9 n (rowL (n * 9) (rowN FW zW [])) S2 (vs 12) wx from hof 12 _ rfl) (fun b hb => by have h5 := hlow b hb; have h6 := H1.out.2.size; omega)
    rw [ev] at t104 hown
    have c5 := (hbel2.cell (p := ⟨cb, 4, none⟩) hcl1).trans u4
    have f5 := (hbel2.frozen (p := ⟨cb, 4, none⟩) hcl1).trans v4
    have HQ := Lib.hid (PO.start (B := badW) HS.out (H1.out.1.below hbel2) (H1.out.2.trans (Kx.of_below hbel2)) ((hbel2.block cb hcl1).trans HCN.out) 4 _ n hown)
    clear hob hown hof ev
    go_simp
    exact hK undef _ ⟨ad, cap, hcap, hpos, HQ.out⟩
  intro vs wM hE hZ
  have HZ := Lib.hid hZ
  simp only [putsL, List.foldl_cons, List.foldl_nil]
  clear hE hZ
  go_simp
  obtain ⟨ad, cap, hcap, hpos, hpo⟩ := HZ.out
  have p4 : wM.cell? ⟨cb, 4, none⟩ = some (.slice ad n cap) := by rw [cell_of_row wM _ 4 _ _ _ hpo.row]; rfl
  have HPO := Lib.hid hpo
  have HPS := Lib.hid hpos
  clear HZ hpo hpos u4 v4 hcl1 H1 HCN
  go_wp2_with fail
  go_loopw [112] (fun i wr => ∃ j : Nat, j ≤ n ∧ i = .int .i64 j ∧ Hid (PO w cb rd rb l sv #[.int .i64 4, .slice none 0 0, .int .i64 0, .int .i64 0, .slice ad n cap] 54 9 FW zW badW (.slice ad n cap) n (numS s).2 (manyS s).2 (j * 9) wr)) (fun i _ => n - (intOf i).toNat)
  case atStart => exact ⟨0, by omega, rfl, Lib.hid (by rw [Nat.zero_mul]; exact HPO.out)⟩
  case round =>
    clear HPO p4
    obtain ⟨j, hj, rfl, HR⟩ := hrel
    obtain ⟨wA, rfl⟩ : ∃ x : World, x = wr := ⟨_, rfl⟩
    by_cases hlt : j < n
    · obtain ⟨g, rfl⟩ := HPS.out (by omega)
      have p4 : wA.cell? ⟨cb, 4, none⟩ = some (.slice (some ⟨g, 0, none⟩) n cap) := by rw [cell_of_row wA _ 4 _ _ _ HR.out.row]; rfl
      have hclr : cb < wA.heap.size := (Array.getElem?_eq_some_iff.1 HR.out.row).1
      have hlts : rd < wA.heap.size ∧ rb < wA.heap.size ∧ g < wA.heap.size := by
        have h1 := HR.out.rs.lt
        obtain ⟨_, _, _, _, _, h2, _⟩ := HR.out.at HS.out rfl (by omega)
        exact ⟨h1.1, h1.2, h2⟩
      have HLT := Lib.hid hlts
      have x1 : (0 : Int) ≤ (j : Int) := by omega
      have x2 : (j : Int) < (n : Int) := by omega
      clear hlts
      go_wp2_with fail
      clear p4
      refine wp_region_prs (w0 := wA) rfl [.eq (.pointer (some ⟨g, j * 9, none⟩)), .eq (.pointer (some ⟨g, j * 9, none⟩)), .eq (.pointer (some ⟨g, j * 9, none⟩)), .eq (.pointer (some ⟨g, j * 9, none⟩)), .eq (.pointer (some ⟨g, j * 9, none⟩)), .eq (.pointer (some ⟨g, j * 9 + 1, none⟩)), .eq (.pointer (some ⟨g, j * 9, none⟩)), .eq (.pointer (some ⟨g, j * 9, none⟩)), .eq (.pointer (some ⟨g, j * 9 + 2, none⟩)), .of (pBlock 3 3 #[.pointer (some ⟨g, j * 9, none⟩), .pointer (some ⟨g, j * 9 + 1, none⟩), .pointer (some ⟨g, j * 9 + 2, none⟩)]), .eq (.int .i64 3), .eq (.int .i64 0)] (by kernel_rfl) ⟨?_, ?_, ?_, ?_, ?_, ?_, ?_, ?_, ?_, ?_, ?_, ?_, ?_, trivial⟩ (fun vs => [(121, (.pointer (some ⟨g, j * 9, none⟩))), (122, (.pointer (some ⟨g, j * 9, none⟩))), (123, (.pointer (some ⟨g, j * 9, none⟩))), (124, (.pointer (some ⟨g, j * 9, none⟩))), (125, (.pointer (some ⟨g, j * 9, none⟩))), (126, (.pointer (some ⟨g, j * 9 + 1, none⟩))), (127, (.pointer (some ⟨g, j * 9, none⟩))), (128, (.pointer (some ⟨g, j * 9, none⟩))), (129, (.pointer (some ⟨g, j * 9 + 2, none⟩))), (130, vs 9), (131, (.int .i64 3)), (132, (.int .i64 0))]) (fun _ => rfl) ?_
      · refine RStep.mk rfl rfl (fun S a wx K Q hR hK => ?_)
        have t8 : a.tmps[8]? = some (.pointer (some ⟨g, j * 9, none⟩)) := (hR.old 8 (by kernel_rfl)).trans (by kernel_rfl)
        go_simp
        exact hK _ _ (Below.refl _ _) rfl
      · refine RStep.mk rfl rfl (fun S a wx K Q hR hK => ?_)
        have t121 := hR.eq 0 (by kernel_rfl) rfl rfl
        go_simp
        exact hK _ _ (Below.refl _ _) rfl
      · refine RStep.mk rfl rfl (fun S a wx K Q hR hK => ?_)
        have t122 := hR.eq 1 (by kernel_rfl) rfl rfl
        go_simp
        exact hK _ _ (Below.refl _ _) rfl
      · refine RStep.mk rfl rfl (fun S a wx K Q hR hK => ?_)
        have t8 : a.tmps[8]? = some (.pointer (some ⟨g, j * 9, none⟩)) := (hR.old 8 (by kernel_rfl)).trans (by kernel_rfl)
        go_simp
        exact hK _ _ (Below.refl _ _) rfl
      · refine RStep.mk rfl rfl (fun S a wx K Q hR hK => ?_)
        have t124 := hR.eq 3 (by kernel_rfl) rfl rfl
        go_simp
        exact hK _ _ (Below.refl _ _) rfl
      · refine RStep.mk rfl rfl (fun S a wx K Q hR hK => ?_)
        have t125 := hR.eq 4 (by kernel_rfl) rfl rfl
        go_simp
        exact hK _ _ (Below.refl _ _) rfl
      · refine RStep.mk rfl rfl (fun S a wx K Q hR hK => ?_)
        have t8 : a.tmps[8]? = some (.pointer (some ⟨g, j * 9, none⟩)) := (hR.old 8 (by kernel_rfl)).trans (by kernel_rfl)
        go_simp
        exact hK _ _ (Below.refl _ _) rfl
      · refine RStep.mk rfl rfl (fun S a wx K Q hR hK => ?_)
        have t127 := hR.eq 6 (by kernel_rfl) rfl rfl
        go_simp
        exact hK _ _ (Below.refl _ _) rfl
      · refine RStep.mk rfl rfl (fun S a wx K Q hR hK => ?_)
        have t128 := hR.eq 7 (by kernel_rfl) rfl rfl
        go_simp
        exact hK _ _ (Below.refl _ _) rfl
      · exact steadyBlock _ _ _
      · refine RStep.mk rfl rfl (fun S a wx K Q hR hK => ?_)
        have t123 := hR.eq 2 (by kernel_rfl) rfl rfl
        have t126 := hR.eq 5 (by kernel_rfl) rfl rfl
        have t129 := hR.eq 8 (by kernel_rfl) rfl rfl
        go_simp
        exact hK _ _ ((Below.refl _ _).alloc (Nat.le_refl _) _) ⟨_, _, rfl, hR.new _ (Nat.le_refl _), heap_alloc_new _ _⟩
      · refine RStep.mk rfl rfl (fun S a wx K Q hR hK => ?_)
        obtain ⟨u130, t130, f130⟩ := hR.of 9 (by kernel_rfl) rfl rfl
        obtain ⟨g0, T0, rfl, hgS, hgh⟩ := f130
        go_simp
        exact hK _ _ (Below.refl _ _) rfl
      · refine RStep.mk rfl rfl (fun S a wx K Q hR hK => ?_)
        go_simp
        exact hK _ _ (Below.refl _ _) rfl
      intro S13 vs wd hD
      obtain ⟨gp, T0, ev, hgS, hgh⟩ : pBlock 3 3 #[.pointer (some ⟨g, j * 9, none⟩), .pointer (some ⟨g, j * 9 + 1, none⟩), .pointer (some ⟨g, j * 9 + 2, none⟩)] S13 (vs 9) wd := hD.ofs 9 _ rfl
      have HD := Lib.hid (And.intro hgh (And.intro (hD.low gp hgS) hD.bel))
      simp only [ev, putsL, List.foldl_cons, List.foldl_nil]
      clear hD ev hgS hgh
      go_simp
      have HNE : Hid (gp ≠ rd ∧ gp ≠ rb ∧ gp ≠ g) := Lib.hid (by have h1 := HLT.out; have h2 := HD.out.2.1; omega)
      go_wp2_with fail
      go_loopw [132] (fun i wr => ∃ i2 : Nat, i2 ≤ 3 ∧ i = .int .i64 i2 ∧ Hid (PO w cb rd rb l sv #[.int .i64 4, .slice none 0 0, .int .i64 0, .int .i64 0, .slice (some ⟨g, 0, none⟩) n cap] 54 9 FW zW badW (.slice (some ⟨g, 0, none⟩) n cap) n (numS s).2 (manyS s).2 (j * 9 + i2) wr ∧ wr.heap[gp]? = some (.cells #[.pointer (some ⟨g, j * 9, none⟩), .pointer (some ⟨g, j * 9 + 1, none⟩), .pointer (some ⟨g, j * 9 + 2, none⟩)] T0 (0, 0)))) (fun i _ => 3 - (intOf i).toNat)
      case atStart => exact ⟨0, by omega, rfl, Lib.hid ⟨HR.out.below HD.out.2.2, HD.out.1⟩⟩
      case round =>
        obtain ⟨i2, hi2, rfl, HQ⟩ := hrel
        obtain ⟨wB, rfl⟩ : ∃ x : World, x = wr := ⟨_, rfl⟩
        by_cases hlt2 : i2 < 3
        · have h3 : i2 = 0 ∨ i2 = 1 ∨ i2 = 2 := by omega
          have hpt : wB.cell? ⟨gp, i2, none⟩ = some (.pointer (some ⟨g, j * 9 + i2, none⟩)) := by
            rw [cell_of_row wB _ i2 _ _ _ HQ.out.2]
            rcases h3 with rfl | rfl | rfl <;> rfl
          have hfi : fInt (i2) = true ∧ fMore (i2) = 0 := by rcases h3 with rfl | rfl | rfl <;> exact ⟨rfl, rfl⟩
          have hF : ∀ x : Nat, FW (j * 9 + i2) x = .int .i64 (numI 0 x) := fun x => by rw [FW_int j _ hfi.1 (by omega)]; rw [hfi.2]
          have hB : ∀ x : Nat, badW (j * 9 + i2) x = decide (9223372036854775807 + 0 < x) := fun x => by rw [badW_int j _ hfi.1 (by omega)]; rw [hfi.2]
          have hgl : gp < wB.heap.size := (Array.getElem?_eq_some_iff.1 HQ.out.2).1
          have hne : gp ≠ rd ∧ gp ≠ rb ∧ gp ≠ g := HNE.out
          have HF := Lib.hid (And.intro hF hB)
          have HNE2 := Lib.hid hne
          clear hfi hF hB hne
          go_wp2_with fail
          have hF := HF.out.1
          have hB := HF.out.2
          refine (poWhole_any HS.out HQ.out.1 rfl (by omega) 0 (by omega) (zW_one _) (fun x => hF x) (fun x => hB x)).mono ?_
          rintro e w2 ⟨rfl, hp2, hk2⟩
          have HZ : Hid (PO w cb rd rb l sv #[.int .i64 4, .slice none 0 0, .int .i64 0, .int .i64 0, .slice (some ⟨g, 0, none⟩) n cap] 54 9 FW zW badW (.slice (some ⟨g, 0, none⟩) n cap) n (numS s).2 (manyS s).2 (j * 9 + (i2 + 1)) w2 ∧ w2.heap[gp]? = some (.cells #[.pointer (some ⟨g, j * 9, none⟩), .pointer (some ⟨g, j * 9 + 1, none⟩), .pointer (some ⟨g, j * 9 + 2, none⟩)] T0 (0, 0))) := Lib.hid ⟨hp2, (hk2.keep gp hgl (fun h => by rcases h with h | h | h; exact HNE2.out.1 h; exact HNE2.out.2.1 h; exact HNE2.out.2.2 h)).trans HQ.out.2⟩
          clear hp2 hk2 hpt hF hB
          go_wp2_with fail
          go_roundw
          case rel => exact ⟨i2 + 1, by omega, by go_num, HZ⟩
          case measure => simp [intOf]; omega
        · have hi3 : i2 = 3 := by omega
          subst hi3
          have HR5 : Hid (PO w cb rd rb l sv #[.int .i64 4, .slice none 0 0, .int .i64 0, .int .i64 0, .slice (some ⟨g, 0, none⟩) n cap] 54 9 FW zW badW (.slice (some ⟨g, 0, none⟩) n cap) n (numS s).2 (manyS s).2 (j * 9 + 3) wB) := Lib.hid HQ.out.1
          have HLT5 : Hid (rd < wB.heap.size ∧ rb < wB.heap.size ∧ g < wB.heap.size) := Lib.hid (by
            have h1 := HQ.out.1.rs.lt
            obtain ⟨_, _, _, _, _, h2, _⟩ := HQ.out.1.at HS.out rfl (by omega)
            exact ⟨h1.1, h1.2, h2⟩)
          clear HR HD HQ hi2 hlt2 HNE HLT
          have HR := HR5
          have HLT := HLT5
          clear HR5 HLT5
          go_wp2_with fail
          refine wp_region_prs (w0 := wB) rfl [.eq (.pointer (some ⟨g, j * 9, none⟩)), .eq (.pointer (some ⟨g, j * 9, none⟩)), .eq (.pointer (some ⟨g, j * 9 + 3, none⟩)), .eq (.pointer (some ⟨g, j * 9, none⟩)), .eq (.pointer (some ⟨g, j * 9, none⟩)), .eq (.pointer (some ⟨g, j * 9 + 4, none⟩)), .eq (.pointer (some ⟨g, j * 9 + 4, none⟩)), .eq (.pointer (some ⟨g, j * 9, none⟩)), .eq (.pointer (some ⟨g, j * 9, none⟩)), .eq (.pointer (some ⟨g, j * 9 + 4, none⟩)), .eq (.pointer (some ⟨g, j * 9 + 5, none⟩)), .eq (.pointer (some ⟨g, j * 9, none⟩)), .eq (.pointer (some ⟨g, j * 9, none⟩)), .eq (.pointer (some ⟨g, j * 9 + 6, none⟩)), .eq (.pointer (some ⟨g, j * 9 + 6, none⟩)), .eq (.pointer (some ⟨g, j * 9, none⟩)), .eq (.pointer (some ⟨g, j * 9, none⟩)), .eq (.pointer (some ⟨g, j * 9 + 6, none⟩)), .eq (.pointer (some ⟨g, j * 9 + 7, none⟩)), .of (pBlock 5 5 #[.pointer (some ⟨g, j * 9 + 3, none⟩), .pointer (some ⟨g, j * 9 + 4, none⟩), .pointer (some ⟨g, j * 9 + 5, none⟩), .pointer (some ⟨g, j * 9 + 6, none⟩), .pointer (some ⟨g, j * 9 + 7, none⟩)]), .eq (.int .i64 5), .eq (.int .i64 0)] (by kernel_rfl) ⟨?_, ?_, ?_, ?_, ?_, ?_, ?_, ?_, ?_, ?_, ?_, ?_, ?_, ?_, ?_, ?_, ?_, ?_, ?_, ?_, ?_, ?_, ?_, trivial⟩ (fun vs => [(140, (.pointer (some ⟨g, j * 9, none⟩))), (141, (.pointer (some ⟨g, j * 9, none⟩))), (142, (.pointer (some ⟨g, j * 9 + 3, none⟩))), (143, (.pointer (some ⟨g, j * 9, none⟩))), (144, (.pointer (some ⟨g, j * 9, none⟩))), (145, (.pointer (some ⟨g, j * 9 + 4, none⟩))), (146, (.pointer (some ⟨g, j * 9 + 4, none⟩))), (147, (.pointer (some ⟨g, j * 9, none⟩))), (148, (.pointer (some ⟨g, j * 9, none⟩))), (149, (.pointer (some ⟨g, j * 9 + 4, none⟩))), (150, (.pointer (some ⟨g, j * 9 + 5, none⟩))), (151, (.pointer (some ⟨g, j * 9, none⟩))), (152, (.pointer (some ⟨g, j * 9, none⟩))), (153, (.pointer (some ⟨g, j * 9 + 6, none⟩))), (154, (.pointer (some ⟨g, j * 9 + 6, none⟩))), (155, (.pointer (some ⟨g, j * 9, none⟩))), (156, (.pointer (some ⟨g, j * 9, none⟩))), (157, (.pointer (some ⟨g, j * 9 + 6, none⟩))), (158, (.pointer (some ⟨g, j * 9 + 7, none⟩))), (159, vs 19), (160, (.int .i64 5)), (161, (.int .i64 0))]) (fun _ => rfl) ?_
          · refine RStep.mk rfl rfl (fun S a wx K Q hR hK => ?_)
            have t8 : a.tmps[8]? = some (.pointer (some ⟨g, j * 9, none⟩)) := (hR.old 8 (by kernel_rfl)).trans (by kernel_rfl)
            go_simp
            exact hK _ _ (Below.refl _ _) rfl
          · refine RStep.mk rfl rfl (fun S a wx K Q hR hK => ?_)
            have t140 := hR.eq 0 (by kernel_rfl) rfl rfl
            go_simp
            exact hK _ _ (Below.refl _ _) rfl
          · refine RStep.mk rfl rfl (fun S a wx K Q hR hK => ?_)
            have t141 := hR.eq 1 (by kernel_rfl) rfl rfl
            go_simp
            exact hK _ _ (Below.refl _ _) rfl
          · refine RStep.mk rfl rfl (fun S a wx K Q hR hK => ?_)
            have t8 : a.tmps[8]? = some (.pointer (some ⟨g, j * 9, none⟩)) := (hR.old 8 (by kernel_rfl)).trans (by kernel_rfl)
            go_simp
            exact hK _ _ (Below.refl _ _) rfl
          · refine RStep.mk rfl rfl (fun S a wx K Q hR hK => ?_)
            have t143 := hR.eq 3 (by kernel_rfl) rfl rfl
            go_simp
            exact hK _ _ (Below.refl _ _) rfl
          · refine RStep.mk rfl rfl (fun S a wx K Q hR hK => ?_)
            have t144 := hR.eq 4 (by kernel_rfl) rfl rfl
            go_simp
            exact hK _ _ (Below.refl _ _) rfl
          · refine RStep.mk rfl rfl (fun S a wx K Q hR hK => ?_)
            have t145 := hR.eq 5 (by kernel_rfl) rfl rfl
            go_simp
            exact hK _ _ (Below.refl _ _) rfl
          · refine RStep.mk rfl rfl (fun S a wx K Q hR hK => ?_)
            have t8 : a.tmps[8]? = some (.pointer (some ⟨g, j * 9, none⟩)) := (hR.old 8 (by kernel_rfl)).trans (by kernel_rfl)
            go_simp
            exact hK _ _ (Below.refl _ _) rfl
          · refine RStep.mk rfl rfl (fun S a wx K Q hR hK => ?_)
            have t147 := hR.eq 7 (by kernel_rfl) rfl rfl
            go_simp
            exact hK _ _ (Below.refl _ _) rfl
          · refine RStep.mk rfl rfl (fun S a wx K Q hR hK => ?_)
            have t148 := hR.eq 8 (by kernel_rfl) rfl rfl
            go_simp
            exact hK _ _ (Below.refl _ _) rfl
          · refine RStep.mk rfl rfl (fun S a wx K Q hR hK => ?_)
            have t149 := hR.eq 9 (by kernel_rfl) rfl rfl
            go_simp
            exact hK _ _ (Below.refl _ _) rfl
          · refine RStep.mk rfl rfl (fun S a wx K Q hR hK => ?_)
            have t8 : a.tmps[8]? = some (.pointer (some ⟨g, j * 9, none⟩)) := (hR.old 8 (by kernel_rfl)).trans (by kernel_rfl)
            go_simp
            exact hK _ _ (Below.refl _ _) rfl
          · refine RStep.mk rfl rfl (fun S a wx K Q hR hK => ?_)
            have t151 := hR.eq 11 (by kernel_rfl) rfl rfl
            go_simp
            exact hK _ _ (Below.refl _ _) rfl
          · refine RStep.mk rfl rfl (fun S a wx K Q hR hK => ?_)
            have t152 := hR.eq 12 (by kernel_rfl) rfl rfl
            go_simp
            exact hK _ _ (Below.refl _ _) rfl
          · refine RStep.mk rfl rfl (fun S a wx K Q hR hK => ?_)
            have t153 := hR.eq 13 (by kernel_rfl) rfl rfl
            go_simp
            exact hK _ _ (Below.refl _ _) rfl
          · refine RStep.mk rfl rfl (fun S a wx K Q hR hK => ?_)
            have t8 : a.tmps[8]? = some (.pointer (some ⟨g, j * 9, none⟩)) := (hR.old 8 (by kernel_rfl)).trans (by kernel_rfl)
            go_simp
            exact hK _ _ (Below.refl _ _) rfl
          · refine RStep.mk rfl rfl (fun S a wx K Q hR hK => ?_)
            have t155 := hR.eq 15 (by kernel_rfl) rfl rfl
            go_simp
            exact hK _ _ (Below.refl _ _) rfl
          · refine RStep.mk rfl rfl (fun S a wx K Q hR hK => ?_)
            have t156 := hR.eq 16 (by kernel_rfl) rfl rfl
            go_simp
            exact hK _ _ (Below.refl _ _) rfl
          · refine RStep.mk rfl rfl (fun S a wx K Q hR hK => ?_)
            have t157 := hR.eq 17 (by kernel_rfl) rfl rfl
            go_simp
            exact hK _ _ (Below.refl _ _) rfl
          · exact steadyBlock _ _ _
          · refine RStep.mk rfl rfl (fun S a wx K Q hR hK => ?_)
            have t142 := hR.eq 2 (by kernel_rfl) rfl rfl
            have t146 := hR.eq 6 (by kernel_rfl) rfl rfl
            have t150 := hR.eq 10 (by kernel_rfl) rfl rfl
            have t154 := hR.eq 14 (by kernel_rfl) rfl rfl
            have t158 := hR.eq 18 (by kernel_rfl) rfl rfl
            go_simp
            exact hK _ _ ((Below.refl _ _).alloc (Nat.le_refl _) _) ⟨_, _, rfl, hR.new _ (Nat.le_refl _), heap_alloc_new _ _⟩
          · refine RStep.mk rfl rfl (fun S a wx K Q hR hK => ?_)
            obtain ⟨u159, t159, f159⟩ := hR.of 19 (by kernel_rfl) rfl rfl
            obtain ⟨g0, T0, rfl, hgS, hgh⟩ := f159
            go_simp
            exact hK _ _ (Below.refl _ _) rfl
          · refine RStep.mk rfl rfl (fun S a wx K Q hR hK => ?_)
            go_simp
            exact hK _ _ (Below.refl _ _) rfl
          intro S13 vs we hD
          obtain ⟨gp, T0, ev, hgS, hgh⟩ : pBlock 5 5 #[.pointer (some ⟨g, j * 9 + 3, none⟩), .pointer (some ⟨g, j * 9 + 4, none⟩), .pointer (some ⟨g, j * 9 + 5, none⟩), .pointer (some ⟨g, j * 9 + 6, none⟩), .pointer (some ⟨g, j * 9 + 7, none⟩)] S13 (vs 19) we := hD.ofs 19 _ rfl
          have HD := Lib.hid (And.intro hgh (And.intro (hD.low gp hgS) hD.bel))
          simp only [ev, putsL, List.foldl_cons, List.foldl_nil]
          clear hD ev hgS hgh
          go_simp
          have HNE : Hid (gp ≠ rd ∧ gp ≠ rb ∧ gp ≠ g) := Lib.hid (by have h1 := HLT.out; have h2 := HD.out.2.1; omega)
          go_wp2_with fail
          go_loopw [161] (fun i wr => ∃ i2 : Nat, i2 ≤ 5 ∧ i = .int .i64 i2 ∧ Hid (PO w cb rd rb l sv #[.int .i64 4, .slice none 0 0, .int .i64 0, .int .i64 0, .slice (some ⟨g, 0, none⟩) n cap] 54 9 FW zW badW (.slice (some ⟨g, 0, none⟩) n cap) n (numS s).2 (manyS s).2 (j * 9 + (3 + i2)) wr ∧ wr.heap[gp]? = some (.cells #[.pointer (some ⟨g, j * 9 + 3, none⟩), .pointer (some ⟨g, j * 9 + 4, none⟩), .pointer (some ⟨g, j * 9 + 5, none⟩), .pointer (some ⟨g, j * 9 + 6, none⟩), .pointer (some ⟨g, j * 9 + 7, none⟩)] T0 (0, 0)))) (fun i _ => 5 - (intOf i).toNat)
          case atStart => exact ⟨0, by omega, rfl, Lib.hid ⟨HR.out.below HD.out.2.2, HD.out.1⟩⟩
          case round =>
            obtain ⟨i2, hi2, rfl, HQ⟩ := hrel
            obtain ⟨wC, rfl⟩ : ∃ x : World, x = wr := ⟨_, rfl⟩
            by_cases hlt2 : i2 < 5
            · have h3 : i2 = 0 ∨ i2 = 1 ∨ i2 = 2 ∨ i2 = 3 ∨ i2 = 4 := by omega
              have hpt : wC.cell? ⟨gp, i2, none⟩ = some (.pointer (some ⟨g, j * 9 + (3 + i2), none⟩)) := by
                rw [cell_of_row wC _ i2 _ _ _ HQ.out.2]
                rcases h3 with rfl | rfl | rfl | rfl | rfl <;> rfl
              have hfi : fInt (3 + i2) = false ∧ fMore (3 + i2) = 0 := by rcases h3 with rfl | rfl | rfl | rfl | rfl <;> exact ⟨rfl, rfl⟩
              have hF : ∀ x : Nat, FW (j * 9 + (3 + i2)) x = .int .u64 (x : Nat) := fun x => by rw [FW_long j _ hfi.1 (by omega)]
              have hB : ∀ x : Nat, badW (j * 9 + (3 + i2)) x = false := fun x => by rw [badW_long j _ hfi.1 (by omega)]
              have hgl : gp < wC.heap.size := (Array.getElem?_eq_some_iff.1 HQ.out.2).1
              have hne : gp ≠ rd ∧ gp ≠ rb ∧ gp ≠ g := HNE.out
              have HF := Lib.hid (And.intro hF hB)
              have HNE2 := Lib.hid hne
              clear hfi hF hB hne
              go_wp2_with fail
              have hF := HF.out.1
              have hB := HF.out.2
              refine (poLong_any HS.out HQ.out.1 rfl (by omega) (zW_one _) (fun x => hF x) (fun x => hB x)).mono ?_
              rintro e w2 ⟨rfl, hp2, hk2⟩
              have HZ : Hid (PO w cb rd rb l sv #[.int .i64 4, .slice none 0 0, .int .i64 0, .int .i64 0, .slice (some ⟨g, 0, none⟩) n cap] 54 9 FW zW badW (.slice (some ⟨g, 0, none⟩) n cap) n (numS s).2 (manyS s).2 (j * 9 + (3 + (i2 + 1))) w2 ∧ w2.heap[gp]? = some (.cells #[.pointer (some ⟨g, j * 9 + 3, none⟩), .pointer (some ⟨g, j * 9 + 4, none⟩), .pointer (some ⟨g, j * 9 + 5, none⟩), .pointer (some ⟨g, j * 9 + 6, none⟩), .pointer (some ⟨g, j * 9 + 7, none⟩)] T0 (0, 0))) := Lib.hid ⟨hp2, (hk2.keep gp hgl (fun h => by rcases h with h | h | h; exact HNE2.out.1 h; exact HNE2.out.2.1 h; exact HNE2.out.2.2 h)).trans HQ.out.2⟩
              clear hp2 hk2 hpt hF hB
              go_wp2_with fail
              go_roundw
              case rel => exact ⟨i2 + 1, by omega, by go_num, HZ⟩
              case measure => simp [intOf]; omega
            · have hi3 : i2 = 5 := by omega
              subst hi3
              have HR6 : Hid (PO w cb rd rb l sv #[.int .i64 4, .slice none 0 0, .int .i64 0, .int .i64 0, .slice (some ⟨g, 0, none⟩) n cap] 54 9 FW zW badW (.slice (some ⟨g, 0, none⟩) n cap) n (numS s).2 (manyS s).2 (j * 9 + 8) wC) := Lib.hid HQ.out.1
              clear HR HD HQ hi2 hlt2 HNE HLT
              have HR := HR6
              clear HR6
              go_wp2_with fail
              refine wp_region_tail (w0 := wC) rfl [.eq (.iface 80 (.pointer (some ⟨rd, 0, none⟩))), .eq (.pointer (some ⟨g, j * 9, none⟩)), .eq (.pointer (some ⟨g, j * 9, none⟩)), .eq (.pointer (some ⟨g, j * 9 + 8, none⟩)), .eq (.func (.method "alibi/cert.whole") #[.iface 80 (.pointer (some ⟨rd, 0, none⟩))] #[]), .eq (.func (.method "alibi/cert.whole") #[.iface 80 (.pointer (some ⟨rd, 0, none⟩))] #[]), .eq (.iface 80 (.pointer (some ⟨rd, 0, none⟩))), .tail] 7 [] [] (by kernel_rfl) ⟨?_, ?_, ?_, ?_, ?_, ?_, ?_, trivial⟩ trivial [fun vs w' => PO w cb rd rb l sv #[.int .i64 4, .slice none 0 0, .int .i64 0, .int .i64 0, .slice (some ⟨g, 0, none⟩) n cap] 54 9 FW zW badW (.slice (some ⟨g, 0, none⟩) n cap) n (numS s).2 (manyS s).2 (j * 9 + 8 + 1) w'] ⟨?_, trivial⟩ (fun vs => [(169, (.iface 80 (.pointer (some ⟨rd, 0, none⟩)))), (170, (.pointer (some ⟨g, j * 9, none⟩))), (171, (.pointer (some ⟨g, j * 9, none⟩))), (172, (.pointer (some ⟨g, j * 9 + 8, none⟩))), (173, (.func (.method "alibi/cert.whole") #[.iface 80 (.pointer (some ⟨rd, 0, none⟩))] #[])), (174, (.func (.method "alibi/cert.whole") #[.iface 80 (.pointer (some ⟨rd, 0, none⟩))] #[])), (175, (.iface 80 (.pointer (some ⟨rd, 0, none⟩)))), (176, vs 7)]) (fun _ => rfl) ?_
              · refine RStep.mk rfl rfl (fun S a wx K Q hR hK => ?_)
                have t1 : a.tmps[1]? = some (.iface 80 (.pointer (some ⟨rd, 0, none⟩))) := (hR.old 1 (by kernel_rfl)).trans (by kernel_rfl)
                go_simp
                exact hK _ _ (Below.refl _ _) rfl
              · refine RStep.mk rfl rfl (fun S a wx K Q hR hK => ?_)
                have t8 : a.tmps[8]? = some (.pointer (some ⟨g, j * 9, none⟩)) := (hR.old 8 (by kernel_rfl)).trans (by kernel_rfl)
                go_simp
                exact hK _ _ (Below.refl _ _) rfl
              · refine RStep.mk rfl rfl (fun S a wx K Q hR hK => ?_)
                have t170 := hR.eq 1 (by kernel_rfl) rfl rfl
                go_simp
                exact hK _ _ (Below.refl _ _) rfl
              · refine RStep.mk rfl rfl (fun S a wx K Q hR hK => ?_)
                have t171 := hR.eq 2 (by kernel_rfl) rfl rfl
                go_simp
                exact hK _ _ (Below.refl _ _) rfl
              · refine RStep.mk rfl rfl (fun S a wx K Q hR hK => ?_)
                have t169 := hR.eq 0 (by kernel_rfl) rfl rfl
                go_simp
                exact hK _ _ (Below.refl _ _) rfl
              · refine RStep.mk rfl rfl (fun S a wx K Q hR hK => ?_)
                have t173 := hR.eq 4 (by kernel_rfl) rfl rfl
                refine wp_nilMeth (.tmp 173) rfl (eval_of t173) (nil_wholeR rd _) ?_
                exact hK _ _ (Below.refl _ _) rfl
              · refine RStep.mk rfl rfl (fun S a wx K Q hR hK => ?_)
                have t169 := hR.eq 0 (by kernel_rfl) rfl rfl
                go_simp
                exact hK _ _ (Below.refl _ _) rfl
              · refine TStep.mk rfl (fun vs a wx K Q hR hZ hK => ?_)
                have t175 := hR.dep 6 175 (by kernel_rfl) rfl
                rw [hR.eqs 6 _ rfl] at t175
                have t172 := hR.dep 3 172 (by kernel_rfl) rfl
                rw [hR.eqs 3 _ rfl] at t172
                obtain ⟨hbel2, S2, hlow, hof⟩ := hZ
                have hwx := HR.out.below hbel2
                go_simp
                go_invoke
                go_simp
                go_at_call 175
                refine (poWhole_any HS.out hwx rfl (by omega) 1 (by omega) (zW_one _) (fun x => FW_int j 8 rfl (by omega) x) (fun x => badW_int j 8 rfl (by omega) x)).mono ?_
                rintro e w2 ⟨rfl, h2, _⟩
                exact hK _ _ h2
              intro vs wE hE hZ
              have HZ := Lib.hid hZ
              simp only [putsL, List.foldl_cons, List.foldl_nil]
              clear hE hZ
              generalize vs 7 = vt
              go_simp
              go_wp2_with fail
              go_roundw
              case rel => exact ⟨j + 1, by omega, by go_num, Lib.hid (by rw [show (j + 1) * 9 = j * 9 + 8 + 1 from by omega]; exact HZ.out)⟩
              case measure => simp [intOf]; omega
    · have hj2 : j = n := by omega
      subst hj2
      have p4 : wA.cell? ⟨cb, 4, none⟩ = some (.slice ad j cap) := by rw [cell_of_row wA _ 4 _ _ _ HR.out.row]; rfl
      go_wp2_with fail
      go_end0
      have hj := HNN.out
      refine ⟨rfl, _, HR.out.row, ?_, ?_, HR.out.kx⟩
      · rw [rdCrt_4, ← hj]
        exact ⟨_, _, rfl, RepI.nil _ _ _, HR.out.endW⟩
      · rw [rdNs_4, ← hj]
        exact HR.out.rs
theorem rdParts_any (cb rd rb : Nat) (l : List UInt8) (sv : Value) (k : Int) (s : Option (List UInt8)) (w : World) (hk : 1 ≤ k ∧ k < 5) (hs : SF w cb rd rb sv) (hc : w.heap[cb]? = some (.cells #[.int .i64 k, .slice none 0 0, .int .i64 0, .int .i64 0, .slice none 0 0] 25 (0, 0))) (hr : RD rd rb l sv s false w) :
    Calls Tryz.prog 29 #[.pointer (some ⟨cb, 0, none⟩), .iface 80 (.pointer (some ⟨rd, 0, none⟩))] w (RdEnd cb rd rb l sv k s w) := by
  obtain rfl | rfl | rfl | rfl : k = 1 ∨ k = 2 ∨ k = 3 ∨ k = 4 := by omega
  · exact rdParts_1 cb rd rb l sv s w hs hc hr
  · exact rdParts_2 cb rd rb l sv s w hs hc hr
  · exact rdParts_3 cb rd rb l sv s w hs hc hr
  · exact rdParts_4 cb rd rb l sv s w hs hc hr
end Go.Proofs.YtagnalfkmdjajaaGreatDoor
