/- Edges told, and copied, on both sides: direct walks. -/
import Derived.Test.YtagnalfkmdjajaaGreatDoorVP02
import Derived.Test.YtagnalfkmdjajaaGreatDoorV18
import Derived.Test.YtagnalfkmdjajaaGreatDoorV3
import Derived.Deep.RegionHeld3
import Derived.Deep.DeepFit
import Derived.BigQuiet
namespace Go.Proofs.YtagnalfkmdjajaaGreatDoor
open Go.RowKit Go
set_option linter.unusedVariables false
set_option linter.unusedSimpArgs false
def str (l : List UInt8) : Value := .string ⟨l.toArray⟩
theorem join_le (sep : List UInt8) : ∀ (l : List (List UInt8)) (N Z : Nat), (∀ x ∈ l, x.length ≤ N) → sep.length ≤ Z → (Lib.join l sep).length ≤ l.length * (N + Z)
  | [], N, Z, _, _ => by simp [Lib.join]
  | [x], N, Z, h, hz => by
    have := h x (by simp)
    rw [Lib.join_one]; simp; omega
  | x :: y :: l, N, Z, h, hz => by
    have ih := join_le sep (y :: l) N Z (fun q hq => h q (by simp [hq])) hz
    have hx := h x (by simp)
    have e : Lib.join (x :: y :: l) sep = x ++ (sep ++ Lib.join (y :: l) sep) := by
      rw [Lib.join_cons, Lib.join_cons]; simp [Lib.joinTail]
    rw [e]
    simp only [List.length_append, List.length_cons] at ih ⊢
    have h2 : (l.length + 1 + 1) * (N + Z) = (l.length + 1) * (N + Z) + (N + Z) := by rw [Nat.add_mul (l.length + 1) 1, Nat.one_mul]
    omega
theorem itoa_of {n : Int} (h : 0 ≤ n) : Lib.itoa n = Lib.decDigits n.toNat := by unfold Lib.itoa; rw [if_neg (by omega)]
theorem itoaG_any (n : Int) (h0 : -9223372036854775808 ≤ n) (h1 : n ≤ 9223372036854775807) (w : World) (hL : Lq w.heap.size w) : Calls Tryz.prog 33 #[.int .i64 n] w fun e w' => e = .returned (str (Lib.itoa n)) ∧ Below w.heap.size w w' := by
  refine (Tryz.strconv_Itoa n h0 h1 w hL.lv.tab).mono fun e w' => ?_
  rintro ⟨rfl, k, os, rfl⟩
  exact ⟨rfl, Lib.below_grow _ _ (Nat.le_refl _) _ _⟩
theorem RepS.of_row {w : World} {b : Nat} {l : List (List UInt8)} {T : TypeId} (h : w.heap[b]? = some (.cells (strs l).toArray T (0, 0))) (hl : l.length ≤ 1000000) : RepS w (fun k => k = b) l (.slice (some ⟨b, 0, none⟩) l.length l.length) := by
  refine ⟨by simp [strs], by omega, _, _, rfl, Nat.le_refl _, fun _ => ⟨_, _, rfl, rfl, fun j hj => ?_⟩⟩
  rw [cell_of_row w b (0 + j) _ T (0, 0) h, frozen_of_row w b (0 + j) _ T h]
  simp [hj]
theorem baLen (a b : ByteArray) : (a ++ b).size = a.size + b.size := by rw [← ba_size, ← ba_size, ← ba_size]; simp
theorem gDigits_any (u : Nat) (w : World) (h : u < 18446744073709551616) (hL : Lq w.heap.size w) : Calls Tryz.prog 93 #[.int .u64 u] w fun e w' => e = .returned (str (Lib.decDigits u)) ∧ Below w.heap.size w w' := by
  have HF := Lib.hid (formatUint_any u w h hL.lv.tab)
  go_enter Tryz.func93, Tryz.ntmps93
  go_wp2_with fail
  refine HF.out.mono ?_
  rintro e w1 ⟨rfl, hb⟩
  go_wp2_with fail
  go_ret
  exact ⟨rfl, hb⟩
set_option maxHeartbeats 1000000 in
theorem verText_any (m n : Nat) (w : World) (hm : m < 18446744073709551616) (hn : n < 18446744073709551616) (hL : Lq w.heap.size w) : Calls Tryz.prog 64 #[.agg #[.int .u64 m, .int .u64 n]] w fun e w' => e = .returned (str (verT m n)) ∧ Below w.heap.size w w' := by
  have hb0 : Below w.heap.size w (w.alloc (.cells #[.int .u64 m, .int .u64 n] 52)) := (Below.refl _ _).alloc (Nat.le_refl _) _
  have hz0 : (w.alloc (.cells #[.int .u64 m, .int .u64 n] 52)).heap.size = w.heap.size + 1 := World.size_alloc _ _
  have h0 := heap_alloc_new w (.cells #[.int .u64 m, .int .u64 n] 52)
  have HB := Lib.hid (And.intro hb0 (hL.below hb0))
  obtain ⟨W, hW⟩ : ∃ W, W = w.alloc (.cells #[.int .u64 m, .int .u64 n] 52) := ⟨_, rfl⟩
  rw [← hW] at h0 hz0 HB
  have c0 : W.cell? ⟨w.heap.size, 0, none⟩ = some (.int .u64 m) := by rw [cell_of_row W _ 0 _ _ _ h0]; rfl
  have c1 : W.cell? ⟨w.heap.size, 1, none⟩ = some (.int .u64 n) := by rw [cell_of_row W _ 1 _ _ _ h0]; rfl
  have lx : w.heap.size < W.heap.size := by omega
  have HL : Hid (∀ w', Below W.heap.size W w' → Lq w'.heap.size w') := Lib.hid (fun w' hb' => (HB.out.2.below (hb'.mono (by omega))).mono (by have := hb'.size; omega))
  obtain ⟨M, hM⟩ : ∃ M : ByteArray, M = ⟨(Lib.decDigits m).toArray⟩ := ⟨_, rfl⟩
  obtain ⟨N, hN⟩ : ∃ N : ByteArray, N = ⟨(Lib.decDigits n).toArray⟩ := ⟨_, rfl⟩
  have zm := dd20 m hm
  have zn := dd20 n hn
  rw [← hM] at zm
  rw [← hN] at zn
  have HM : Hid (∀ w', Lq w'.heap.size w' → Calls Tryz.prog 93 #[.int .u64 m] w' fun e w'' => e = .returned (.string M) ∧ Below w'.heap.size w' w'') := Lib.hid (fun w' h => by rw [hM]; exact gDigits_any m w' hm h)
  have HN : Hid (∀ w', Lq w'.heap.size w' → Calls Tryz.prog 93 #[.int .u64 n] w' fun e w'' => e = .returned (.string N) ∧ Below w'.heap.size w' w'') := Lib.hid (fun w' h => by rw [hN]; exact gDigits_any n w' hn h)
  have HT : Hid (.string (M ++ ⟨#[46]⟩ ++ N) = str (verT m n)) := Lib.hid (by unfold str; congr 1; apply ba_ext; rw [hM, hN]; simp [verT])
  clear h0 hz0 hM hN hL hb0
  go_enter Tryz.func64, Tryz.ntmps64
  go_upto_region 1 with fail
  rw [← hW]
  clear hW
  refine wp_region_prs (w0 := W) rfl [.eq (.pointer (some ⟨w.heap.size, 0, none⟩)), .eq (.int .u64 (m : Nat)), .eq (.string M), .eq (.string (M ++ ⟨#[46]⟩)), .eq (.pointer (some ⟨w.heap.size, 1, none⟩)), .eq (.int .u64 (n : Nat)), .eq (.string N), .eq (.string (M ++ ⟨#[46]⟩ ++ N)), .eq (.string (M ++ ⟨#[46]⟩ ++ N))] (by kernel_rfl) ⟨?_, ?_, ?_, ?_, ?_, ?_, ?_, ?_, ?_, trivial⟩ (fun vs => [(3, (.pointer (some ⟨w.heap.size, 0, none⟩))), (4, (.int .u64 (m : Nat))), (5, (.string M)), (6, (.string (M ++ ⟨#[46]⟩))), (7, (.pointer (some ⟨w.heap.size, 1, none⟩))), (8, (.int .u64 (n : Nat))), (9, (.string N)), (10, (.string (M ++ ⟨#[46]⟩ ++ N))), (2, (.string (M ++ ⟨#[46]⟩ ++ N)))]) (fun _ => rfl) ?_
  · refine RStep.mk rfl rfl (fun S a wx K Q hR hK => ?_)
    have t1 : a.tmps[1]? = some (.pointer (some ⟨w.heap.size, 0, none⟩)) := (hR.old 1 (by kernel_rfl)).trans (by kernel_rfl)
    go_simp
    exact hK _ _ (Below.refl _ _) rfl
  · refine RStep.mk rfl rfl (fun S a wx K Q hR hK => ?_)
    have t3 := hR.eq 0 (by kernel_rfl) rfl rfl
    have y0 := (hR.bel.cell lx).trans c0
    go_simp
    exact hK _ _ (Below.refl _ _) rfl
  · refine RStep.mk rfl rfl (fun S a wx K Q hR hK => ?_)
    have t4 := hR.eq 1 (by kernel_rfl) rfl rfl
    go_simp
    go_at_call 93
    refine (HM.out wx (HL.out wx hR.bel)).mono ?_
    rintro e w' ⟨rfl, hbx⟩
    exact hK _ _ hbx rfl
  · refine RStep.mk rfl rfl (fun S a wx K Q hR hK => ?_)
    have t5 := hR.eq 2 (by kernel_rfl) rfl rfl
    have zb := baLen M ⟨#[46]⟩
    have zc : (⟨#[46]⟩ : ByteArray).size = 1 := rfl
    have zq : ¬ 9223372036854775807 < M.size + 1 := by omega
    go_simp
    (try go_ints)
    exact hK _ _ (Below.refl _ _) rfl
  · refine RStep.mk rfl rfl (fun S a wx K Q hR hK => ?_)
    have t1 : a.tmps[1]? = some (.pointer (some ⟨w.heap.size, 0, none⟩)) := (hR.old 1 (by kernel_rfl)).trans (by kernel_rfl)
    go_simp
    exact hK _ _ (Below.refl _ _) rfl
  · refine RStep.mk rfl rfl (fun S a wx K Q hR hK => ?_)
    have t7 := hR.eq 4 (by kernel_rfl) rfl rfl
    have y0 := (hR.bel.cell lx).trans c1
    go_simp
    exact hK _ _ (Below.refl _ _) rfl
  · refine RStep.mk rfl rfl (fun S a wx K Q hR hK => ?_)
    have t8 := hR.eq 5 (by kernel_rfl) rfl rfl
    go_simp
    go_at_call 93
    refine (HN.out wx (HL.out wx hR.bel)).mono ?_
    rintro e w' ⟨rfl, hbx⟩
    exact hK _ _ hbx rfl
  · refine RStep.mk rfl rfl (fun S a wx K Q hR hK => ?_)
    have t6 := hR.eq 3 (by kernel_rfl) rfl rfl
    have t9 := hR.eq 6 (by kernel_rfl) rfl rfl
    have zb := baLen M ⟨#[46]⟩
    have zc : (⟨#[46]⟩ : ByteArray).size = 1 := rfl
    have zq : ¬ 9223372036854775807 < M.size + 1 := by omega
    have zd := baLen (M ++ ⟨#[46]⟩) N
    have zq2 : ¬ 9223372036854775807 < M.size + 1 + N.size := by omega
    go_simp
    (try go_ints)
    exact hK _ _ (Below.refl _ _) rfl
  · refine RStep.mk rfl rfl (fun S a wx K Q hR hK => ?_)
    have t10 := hR.eq 7 (by kernel_rfl) rfl rfl
    go_simp
    exact hK _ _ (Below.refl _ _) rfl
  intro S1 w1v w1 hD
  have hb1 := hD.bel
  simp only [putsL, List.foldl_cons, List.foldl_nil]
  clear hD
  go_simp
  (try (go_wp2_with fail))
  go_ret
  rw [HT.out]
  exact ⟨rfl, HB.out.1.trans (hb1.mono (by omega))⟩
theorem inames_any (w : World) : Calls Tryz.prog 62 #[] w fun e w' => e = .returned (.agg #[.string ⟨#[]⟩, .string ⟨#[119, 119]⟩, .string ⟨#[119, 114]⟩, .string ⟨#[114, 119]⟩, .string ⟨#[112, 119, 114]⟩, .string ⟨#[112, 114, 119]⟩]) ∧ Below w.heap.size w w' := by
  go_enter Tryz.func62, Tryz.ntmps62
  go_wp2_with fail
  exact bodyPost_ret (v := .agg #[.string ⟨#[]⟩, .string ⟨#[119, 119]⟩, .string ⟨#[119, 114]⟩, .string ⟨#[114, 119]⟩, .string ⟨#[112, 119, 114]⟩, .string ⟨#[112, 114, 119]⟩]) (by simp [results, Tryz.results62, go_sem]; try exact ⟨rfl, rfl, rfl, rfl⟩) rfl ⟨rfl, (Below.refl _ _).alloc (Nat.le_refl _) _⟩
theorem idx20 (k : Nat) (hk : 1 ≤ k ∧ k ≤ 5) (W : World) : (Instr.index 119 (.agg #[.string ⟨#[]⟩, .string ⟨#[119, 119]⟩, .string ⟨#[119, 114]⟩, .string ⟨#[114, 119]⟩, .string ⟨#[112, 119, 114]⟩, .string ⟨#[112, 114, 119]⟩]) (.int .i64 (k : Nat))).run Tryz.prog W = .ok (str (edWord (k : Nat))) W := by
  obtain rfl | rfl | rfl | rfl | rfl : k = 1 ∨ k = 2 ∨ k = 3 ∨ k = 4 ∨ k = 5 := by omega
  all_goals kernel_rfl
theorem ed_parts (ea b : Int) (k x sw sn mw mn : Nat) (p : Int) : (Lib.join [Lib.decDigits ea.toNat, edWord (k : Nat), Lib.decDigits b.toNat, Lib.decDigits x, verT sw sn, verT mw mn, Lib.itoa p] [32]) = (⟨ea, b, (k : Nat), x, sw, sn, mw, mn, p⟩ : Ed).told := rfl
set_option maxHeartbeats 4000000 in
set_option maxRecDepth 100000 in
theorem edTextY_any (ea b : Int) (k x sw sn mw mn : Nat) (p : Int) (w : World) (ha : 0 ≤ ea ∧ ea ≤ 9223372036854775807) (hb : 0 ≤ b ∧ b ≤ 9223372036854775807) (hk : 1 ≤ k ∧ k ≤ 5) (hx : x < 18446744073709551616 ∧ sw < 18446744073709551616 ∧ sn < 18446744073709551616 ∧ mw < 18446744073709551616 ∧ mn < 18446744073709551616) (hp : -1 ≤ p ∧ p ≤ 9223372036854775807) (hL : Lq w.heap.size w) : Calls Tryz.prog 28 #[.agg #[.int .i64 ea, .int .i64 b, .int .i64 (k : Nat), .int .u64 (x : Nat), .int .u64 (sw : Nat), .int .u64 (sn : Nat), .int .u64 (mw : Nat), .int .u64 (mn : Nat), .int .i64 p]] w fun e w' => e = .returned (str (⟨ea, b, (k : Nat), x, sw, sn, mw, mn, p⟩ : Ed).told) ∧ Below w.heap.size w w' := by
  have hb0 : Below w.heap.size w (w.alloc (.cells #[.int .i64 ea, .int .i64 b, .int .i64 (k : Nat), .int .u64 (x : Nat), .int .u64 (sw : Nat), .int .u64 (sn : Nat), .int .u64 (mw : Nat), .int .u64 (mn : Nat), .int .i64 p] 54)) := (Below.refl _ _).alloc (Nat.le_refl _) _
  have hz0 : (w.alloc (.cells #[.int .i64 ea, .int .i64 b, .int .i64 (k : Nat), .int .u64 (x : Nat), .int .u64 (sw : Nat), .int .u64 (sn : Nat), .int .u64 (mw : Nat), .int .u64 (mn : Nat), .int .i64 p] 54)).heap.size = w.heap.size + 1 := World.size_alloc _ _
  have h0 := heap_alloc_new w (.cells #[.int .i64 ea, .int .i64 b, .int .i64 (k : Nat), .int .u64 (x : Nat), .int .u64 (sw : Nat), .int .u64 (sn : Nat), .int .u64 (mw : Nat), .int .u64 (mn : Nat), .int .i64 p] 54)
  have HB := Lib.hid (And.intro hb0 (hL.below hb0))
  obtain ⟨W, hW⟩ : ∃ W, W = w.alloc (.cells #[.int .i64 ea, .int .i64 b, .int .i64 (k : Nat), .int .u64 (x : Nat), .int .u64 (sw : Nat), .int .u64 (sn : Nat), .int .u64 (mw : Nat), .int .u64 (mn : Nat), .int .i64 p] 54) := ⟨_, rfl⟩
  rw [← hW] at h0 hz0 HB
  have c0 : W.cell? ⟨w.heap.size, 0, none⟩ = some (.int .i64 ea) := by rw [cell_of_row W _ 0 _ _ _ h0]; rfl
  have c1 : W.cell? ⟨w.heap.size, 1, none⟩ = some (.int .i64 b) := by rw [cell_of_row W _ 1 _ _ _ h0]; rfl
  have c2 : W.cell? ⟨w.heap.size, 2, none⟩ = some (.int .i64 (k : Nat)) := by rw [cell_of_row W _ 2 _ _ _ h0]; rfl
  have c3 : W.cell? ⟨w.heap.size, 3, none⟩ = some (.int .u64 (x : Nat)) := by rw [cell_of_row W _ 3 _ _ _ h0]; rfl
  have c4 : W.cell? ⟨w.heap.size, 4, none⟩ = some (.int .u64 (sw : Nat)) := by rw [cell_of_row W _ 4 _ _ _ h0]; rfl
  have c5 : W.cell? ⟨w.heap.size, 5, none⟩ = some (.int .u64 (sn : Nat)) := by rw [cell_of_row W _ 5 _ _ _ h0]; rfl
  have c6 : W.cell? ⟨w.heap.size, 6, none⟩ = some (.int .u64 (mw : Nat)) := by rw [cell_of_row W _ 6 _ _ _ h0]; rfl
  have c7 : W.cell? ⟨w.heap.size, 7, none⟩ = some (.int .u64 (mn : Nat)) := by rw [cell_of_row W _ 7 _ _ _ h0]; rfl
  have c8 : W.cell? ⟨w.heap.size, 8, none⟩ = some (.int .i64 p) := by rw [cell_of_row W _ 8 _ _ _ h0]; rfl
  have lx : w.heap.size < W.heap.size := by omega
  have HL : Hid (∀ w', Below W.heap.size W w' → Lq w'.heap.size w') := Lib.hid (fun w' hb' => (HB.out.2.below (hb'.mono (by omega))).mono (by have := hb'.size; omega))
  have HI := Lib.hid (idx20 k hk)
  have HX := Lib.hid (And.intro ha (And.intro hb (And.intro hx hp)))
  have i1 : ¬ (k : Int) < 1 := by omega
  have i2 : ¬ (6 : Int) ≤ (k : Int) := by omega
  have i3 : ¬ ea < 0 := by omega
  have i4 : ¬ b < 0 := by omega
  have i5 : ¬ p < -1 := by omega
  clear h0 hz0 hL hb0 ha hb hx hp
  have HC : Hid (Calls Tryz.prog 28 #[.agg #[.int .i64 ea, .int .i64 b, .int .i64 (k : Nat), .int .u64 (x : Nat), .int .u64 (sw : Nat), .int .u64 (sn : Nat), .int .u64 (mw : Nat), .int .u64 (mn : Nat), .int .i64 p]] w fun e w' => e = .returned (str (⟨ea, b, (k : Nat), x, sw, sn, mw, mn, p⟩ : Ed).told) ∧ Below w.heap.size w w') := Lib.hid (by
    go_enter Tryz.func28, Tryz.ntmps28
    go_upto_region 1 with fail
    rw [← hW]
    clear hW
    go_upto_region 3 with fail
    have HJ : Hid ((Lib.join [Lib.itoa ea, edWord (k : Nat), Lib.itoa b, Lib.decDigits x, verT sw sn, verT mw mn, Lib.itoa p] [32]).length ≤ 140737488355328 ∧ Lib.join [Lib.itoa ea, edWord (k : Nat), Lib.itoa b, Lib.decDigits x, verT sw sn, verT mw mn, Lib.itoa p] [32] = (⟨ea, b, (k : Nat), x, sw, sn, mw, mn, p⟩ : Ed).told) := Lib.hid (by
      have h1 := HX.out
      rw [itoa_of (n := ea) (by omega), itoa_of (n := b) (by omega), ed_parts]
      refine ⟨?_, rfl⟩
      have := Ed.told_len (e := ⟨ea, b, (k : Nat), x, sw, sn, mw, mn, p⟩) ⟨⟨by show _ ≤ ea; omega, by show ea ≤ _; omega⟩, ⟨by show _ ≤ b; omega, by show b ≤ _; omega⟩, ⟨by show _ ≤ (k : Int); omega, by show (k : Int) ≤ _; omega⟩, h1.2.2.1.1, h1.2.2.1.2.1, h1.2.2.1.2.2.1, h1.2.2.1.2.2.2.1, h1.2.2.1.2.2.2.2, ⟨by show _ ≤ p; omega, by show p ≤ _; omega⟩⟩
      omega)
    refine wp_region_prs (w0 := W) rfl [.eq (.pointer (some ⟨w.heap.size, 0, none⟩)), .eq (.int .i64 ea), .eq (str (Lib.itoa ea)), .eq (.agg #[.string ⟨#[]⟩, .string ⟨#[119, 119]⟩, .string ⟨#[119, 114]⟩, .string ⟨#[114, 119]⟩, .string ⟨#[112, 119, 114]⟩, .string ⟨#[112, 114, 119]⟩]), .eq (.pointer (some ⟨w.heap.size, 2, none⟩)), .eq (.int .i64 (k : Nat)), .eq (str (edWord (k : Nat))), .eq (.pointer (some ⟨w.heap.size, 1, none⟩)), .eq (.int .i64 b), .eq (str (Lib.itoa b)), .eq (.pointer (some ⟨w.heap.size, 3, none⟩)), .eq (.int .u64 (x : Nat)), .eq (str (Lib.decDigits x)), .eq (.pointer (some ⟨w.heap.size, 4, none⟩)), .eq (.agg #[.int .u64 (sw : Nat), .int .u64 (sn : Nat)]), .eq (str (verT sw sn)), .eq (.pointer (some ⟨w.heap.size, 6, none⟩)), .eq (.agg #[.int .u64 (mw : Nat), .int .u64 (mn : Nat)]), .eq (str (verT mw mn)), .eq (.pointer (some ⟨w.heap.size, 8, none⟩)), .eq (.int .i64 p), .eq (str (Lib.itoa p)), .of (pBlock 7 7 #[str (Lib.itoa ea), str (edWord (k : Nat)), str (Lib.itoa b), str (Lib.decDigits x), str (verT sw sn), str (verT mw mn), str (Lib.itoa p)]), .eq (str (⟨ea, b, (k : Nat), x, sw, sn, mw, mn, p⟩ : Ed).told), .eq (str (⟨ea, b, (k : Nat), x, sw, sn, mw, mn, p⟩ : Ed).told)] (by kernel_rfl) ⟨?_, ?_, ?_, ?_, ?_, ?_, ?_, ?_, ?_, ?_, ?_, ?_, ?_, ?_, ?_, ?_, ?_, ?_, ?_, ?_, ?_, ?_, ?_, ?_, ?_, ?_, trivial⟩ (fun vs => [(26, (.pointer (some ⟨w.heap.size, 0, none⟩))), (27, (.int .i64 ea)), (28, (str (Lib.itoa ea))), (29, (.agg #[.string ⟨#[]⟩, .string ⟨#[119, 119]⟩, .string ⟨#[119, 114]⟩, .string ⟨#[114, 119]⟩, .string ⟨#[112, 119, 114]⟩, .string ⟨#[112, 114, 119]⟩])), (30, (.pointer (some ⟨w.heap.size, 2, none⟩))), (31, (.int .i64 (k : Nat))), (32, (str (edWord (k : Nat)))), (33, (.pointer (some ⟨w.heap.size, 1, none⟩))), (34, (.int .i64 b)), (35, (str (Lib.itoa b))), (36, (.pointer (some ⟨w.heap.size, 3, none⟩))), (37, (.int .u64 (x : Nat))), (38, (str (Lib.decDigits x))), (39, (.pointer (some ⟨w.heap.size, 4, none⟩))), (40, (.agg #[.int .u64 (sw : Nat), .int .u64 (sn : Nat)])), (41, (str (verT sw sn))), (42, (.pointer (some ⟨w.heap.size, 6, none⟩))), (43, (.agg #[.int .u64 (mw : Nat), .int .u64 (mn : Nat)])), (44, (str (verT mw mn))), (45, (.pointer (some ⟨w.heap.size, 8, none⟩))), (46, (.int .i64 p)), (47, (str (Lib.itoa p))), (48, vs 22), (49, (str (⟨ea, b, (k : Nat), x, sw, sn, mw, mn, p⟩ : Ed).told)), (2, (str (⟨ea, b, (k : Nat), x, sw, sn, mw, mn, p⟩ : Ed).told))]) (fun _ => rfl) ?_
    · refine RStep.mk rfl rfl (fun S a wx K Q hR hK => ?_)
      have t1 : a.tmps[1]? = some (.pointer (some ⟨w.heap.size, 0, none⟩)) := (hR.old 1 (by kernel_rfl)).trans (by kernel_rfl)
      go_simp
      exact hK _ _ (Below.refl _ _) rfl
    · refine RStep.mk rfl rfl (fun S a wx K Q hR hK => ?_)
      have t26 := hR.eq 0 (by kernel_rfl) rfl rfl
      have y0 := (hR.bel.cell lx).trans c0
      go_simp
      exact hK _ _ (Below.refl _ _) rfl
    · refine RStep.mk rfl rfl (fun S a wx K Q hR hK => ?_)
      have t27 := hR.eq 1 (by kernel_rfl) rfl rfl
      go_simp
      go_at_call 33
      refine (itoaG_any ea (by have := HX.out; omega) (by have := HX.out; omega) wx (HL.out wx hR.bel)).mono ?_
      rintro e w' ⟨rfl, hbx⟩
      exact hK _ _ hbx rfl
    · refine RStep.mk rfl rfl (fun S a wx K Q hR hK => ?_)
      go_simp
      go_at_call 62
      refine (inames_any wx).mono ?_
      rintro e w' ⟨rfl, hbx⟩
      exact hK _ _ hbx rfl
    · refine RStep.mk rfl rfl (fun S a wx K Q hR hK => ?_)
      have t1 : a.tmps[1]? = some (.pointer (some ⟨w.heap.size, 0, none⟩)) := (hR.old 1 (by kernel_rfl)).trans (by kernel_rfl)
      go_simp
      exact hK _ _ (Below.refl _ _) rfl
    · refine RStep.mk rfl rfl (fun S a wx K Q hR hK => ?_)
      have t30 := hR.eq 4 (by kernel_rfl) rfl rfl
      have y0 := (hR.bel.cell lx).trans c2
      go_simp
      exact hK _ _ (Below.refl _ _) rfl
    · refine RStep.mk rfl rfl (fun S a wx K Q hR hK => ?_)
      have t29 := hR.eq 3 (by kernel_rfl) rfl rfl
      have t31 := hR.eq 5 (by kernel_rfl) rfl rfl
      have hi := HI.out wx
      go_simp
      exact hK _ _ (Below.refl _ _) rfl
    · refine RStep.mk rfl rfl (fun S a wx K Q hR hK => ?_)
      have t1 : a.tmps[1]? = some (.pointer (some ⟨w.heap.size, 0, none⟩)) := (hR.old 1 (by kernel_rfl)).trans (by kernel_rfl)
      go_simp
      exact hK _ _ (Below.refl _ _) rfl
    · refine RStep.mk rfl rfl (fun S a wx K Q hR hK => ?_)
      have t33 := hR.eq 7 (by kernel_rfl) rfl rfl
      have y0 := (hR.bel.cell lx).trans c1
      go_simp
      exact hK _ _ (Below.refl _ _) rfl
    · refine RStep.mk rfl rfl (fun S a wx K Q hR hK => ?_)
      have t34 := hR.eq 8 (by kernel_rfl) rfl rfl
      go_simp
      go_at_call 33
      refine (itoaG_any b (by have := HX.out; omega) (by have := HX.out; omega) wx (HL.out wx hR.bel)).mono ?_
      rintro e w' ⟨rfl, hbx⟩
      exact hK _ _ hbx rfl
    · refine RStep.mk rfl rfl (fun S a wx K Q hR hK => ?_)
      have t1 : a.tmps[1]? = some (.pointer (some ⟨w.heap.size, 0, none⟩)) := (hR.old 1 (by kernel_rfl)).trans (by kernel_rfl)
      go_simp
      exact hK _ _ (Below.refl _ _) rfl
    · refine RStep.mk rfl rfl (fun S a wx K Q hR hK => ?_)
      have t36 := hR.eq 10 (by kernel_rfl) rfl rfl
      have y0 := (hR.bel.cell lx).trans c3
      go_simp
      exact hK _ _ (Below.refl _ _) rfl
    · refine RStep.mk rfl rfl (fun S a wx K Q hR hK => ?_)
      have t37 := hR.eq 11 (by kernel_rfl) rfl rfl
      go_simp
      go_at_call 63
      refine (formatUint_any x wx (by have := HX.out; omega) (HL.out wx hR.bel).lv.tab).mono ?_
      rintro e w' ⟨rfl, hbx⟩
      exact hK _ _ hbx rfl
    · refine RStep.mk rfl rfl (fun S a wx K Q hR hK => ?_)
      have t1 : a.tmps[1]? = some (.pointer (some ⟨w.heap.size, 0, none⟩)) := (hR.old 1 (by kernel_rfl)).trans (by kernel_rfl)
      go_simp
      exact hK _ _ (Below.refl _ _) rfl
    · refine RStep.mk rfl rfl (fun S a wx K Q hR hK => ?_)
      have t39 := hR.eq 13 (by kernel_rfl) rfl rfl
      have y0 := (hR.bel.cell lx).trans c4
      have y1 := (hR.bel.cell lx).trans c5
      go_simp
      exact hK _ _ (Below.refl _ _) rfl
    · refine RStep.mk rfl rfl (fun S a wx K Q hR hK => ?_)
      have t40 := hR.eq 14 (by kernel_rfl) rfl rfl
      go_simp
      go_at_call 64
      refine (verText_any sw sn wx (by have := HX.out; omega) (by have := HX.out; omega) (HL.out wx hR.bel)).mono ?_
      rintro e w' ⟨rfl, hbx⟩
      exact hK _ _ hbx rfl
    · refine RStep.mk rfl rfl (fun S a wx K Q hR hK => ?_)
      have t1 : a.tmps[1]? = some (.pointer (some ⟨w.heap.size, 0, none⟩)) := (hR.old 1 (by kernel_rfl)).trans (by kernel_rfl)
      go_simp
      exact hK _ _ (Below.refl _ _) rfl
    · refine RStep.mk rfl rfl (fun S a wx K Q hR hK => ?_)
      have t42 := hR.eq 16 (by kernel_rfl) rfl rfl
      have y0 := (hR.bel.cell lx).trans c6
      have y1 := (hR.bel.cell lx).trans c7
      go_simp
      exact hK _ _ (Below.refl _ _) rfl
    · refine RStep.mk rfl rfl (fun S a wx K Q hR hK => ?_)
      have t43 := hR.eq 17 (by kernel_rfl) rfl rfl
      go_simp
      go_at_call 64
      refine (verText_any mw mn wx (by have := HX.out; omega) (by have := HX.out; omega) (HL.out wx hR.bel)).mono ?_
      rintro e w' ⟨rfl, hbx⟩
      exact hK _ _ hbx rfl
    · refine RStep.mk rfl rfl (fun S a wx K Q hR hK => ?_)
      have t1 : a.tmps[1]? = some (.pointer (some ⟨w.heap.size, 0, none⟩)) := (hR.old 1 (by kernel_rfl)).trans (by kernel_rfl)
      go_simp
      exact hK _ _ (Below.refl _ _) rfl
    · refine RStep.mk rfl rfl (fun S a wx K Q hR hK => ?_)
      have t45 := hR.eq 19 (by kernel_rfl) rfl rfl
      have y0 := (hR.bel.cell lx).trans c8
      go_simp
      exact hK _ _ (Below.refl _ _) rfl
    · refine RStep.mk rfl rfl (fun S a wx K Q hR hK => ?_)
      have t46 := hR.eq 20 (by kernel_rfl) rfl rfl
      go_simp
      go_at_call 33
      refine (itoaG_any p (by have := HX.out; omega) (by have := HX.out; omega) wx (HL.out wx hR.bel)).mono ?_
      rintro e w' ⟨rfl, hbx⟩
      exact hK _ _ hbx rfl
    · exact steadyBlock _ _ _
    · refine RStep.mk rfl rfl (fun S a wx K Q hR hK => ?_)
      have t28 := hR.eq 2 (by kernel_rfl) rfl rfl
      have t32 := hR.eq 6 (by kernel_rfl) rfl rfl
      have t35 := hR.eq 9 (by kernel_rfl) rfl rfl
      have t38 := hR.eq 12 (by kernel_rfl) rfl rfl
      have t41 := hR.eq 15 (by kernel_rfl) rfl rfl
      have t44 := hR.eq 18 (by kernel_rfl) rfl rfl
      have t47 := hR.eq 21 (by kernel_rfl) rfl rfl
      go_simp
      exact hK _ _ ((Below.refl _ _).alloc (Nat.le_refl _) _) ⟨_, _, rfl, hR.new _ (Nat.le_refl _), heap_alloc_new _ _⟩
    · refine RStep.mk rfl rfl (fun S a wx K Q hR hK => ?_)
      obtain ⟨u48, t48, f48⟩ := hR.of 22 (by kernel_rfl) rfl rfl
      obtain ⟨g0, T0, rfl, hgS, hgh⟩ := f48
      have hrs := RepS.of_row (l := [Lib.itoa ea, edWord (k : Nat), Lib.itoa b, Lib.decDigits x, verT sw sn, verT mw mn, Lib.itoa p]) hgh (by simp)
      go_simp
      go_at_call 34
      refine (joinS_any _ _ _ [32] wx hrs (by simp) HJ.out.1).mono ?_
      rintro e w' ⟨rfl, hbx⟩
      exact hK _ _ hbx (by rw [HJ.out.2]; rfl)
    · refine RStep.mk rfl rfl (fun S a wx K Q hR hK => ?_)
      have t49 := hR.eq 23 (by kernel_rfl) rfl rfl
      go_simp
      exact hK _ _ (Below.refl _ _) rfl
    intro S1 vs w1 hD
    have hb1 := hD.bel
    simp only [putsL, List.foldl_cons, List.foldl_nil]
    clear hD
    go_simp
    (try (go_wp2_with fail))
    go_ret
    exact ⟨rfl, HB.out.1.trans (hb1.mono (by omega))⟩)
  exact HC.out
theorem ed_open {e : Ed} (hn : e.nums) (ho : e.ok) : ∃ k : Nat, e.k = (k : Nat) ∧ (1 ≤ k ∧ k ≤ 5) ∧ (0 ≤ e.a ∧ e.a ≤ 9223372036854775807) ∧ (0 ≤ e.b ∧ e.b ≤ 9223372036854775807) ∧ (e.x < 18446744073709551616 ∧ e.sw < 18446744073709551616 ∧ e.sn < 18446744073709551616 ∧ e.mw < 18446744073709551616 ∧ e.mn < 18446744073709551616) ∧ (-1 ≤ e.p ∧ e.p ≤ 9223372036854775807) := by
  obtain ⟨n1, n2, n3, n4, n5, n6, n7, n8, n9⟩ := hn
  obtain ⟨o1, o2, o3, o4, o5⟩ := ho
  unfold i64 at n1 n2 n9
  exact ⟨e.k.toNat, by omega, by omega, by omega, by omega, ⟨n4, n5, n6, n7, n8⟩, by omega⟩
set_option maxHeartbeats 4000000 in
theorem edTextN_any (e : Ed) (w : World) (ho : ¬ e.ok) : Calls Tryz.prog 28 #[.agg e.vals.toArray] w fun r w' => r = .returned (str []) ∧ Below w.heap.size w w' := by
  obtain ⟨ea, b, k, x, sw, sn, mw, mn, p⟩ := e
  have hb0 : Below w.heap.size w (w.alloc (.cells #[.int .i64 ea, .int .i64 b, .int .i64 k, .int .u64 (x : Nat), .int .u64 (sw : Nat), .int .u64 (sn : Nat), .int .u64 (mw : Nat), .int .u64 (mn : Nat), .int .i64 p] 54)) := (Below.refl _ _).alloc (Nat.le_refl _) _
  have h0 := heap_alloc_new w (.cells #[.int .i64 ea, .int .i64 b, .int .i64 k, .int .u64 (x : Nat), .int .u64 (sw : Nat), .int .u64 (sn : Nat), .int .u64 (mw : Nat), .int .u64 (mn : Nat), .int .i64 p] 54)
  obtain ⟨W, hW⟩ : ∃ W, W = w.alloc (.cells #[.int .i64 ea, .int .i64 b, .int .i64 k, .int .u64 (x : Nat), .int .u64 (sw : Nat), .int .u64 (sn : Nat), .int .u64 (mw : Nat), .int .u64 (mn : Nat), .int .i64 p] 54) := ⟨_, rfl⟩
  rw [← hW] at h0 hb0
  have c0 : W.cell? ⟨w.heap.size, 0, none⟩ = some (.int .i64 ea) := by rw [cell_of_row W _ 0 _ _ _ h0]; rfl
  have c1 : W.cell? ⟨w.heap.size, 1, none⟩ = some (.int .i64 b) := by rw [cell_of_row W _ 1 _ _ _ h0]; rfl
  have c2 : W.cell? ⟨w.heap.size, 2, none⟩ = some (.int .i64 k) := by rw [cell_of_row W _ 2 _ _ _ h0]; rfl
  have c8 : W.cell? ⟨w.heap.size, 8, none⟩ = some (.int .i64 p) := by rw [cell_of_row W _ 8 _ _ _ h0]; rfl
  have HO : Hid (¬ (1 ≤ k ∧ k ≤ 5 ∧ 0 ≤ ea ∧ 0 ≤ b ∧ -1 ≤ p)) := Lib.hid ho
  show Calls Tryz.prog 28 #[.agg #[.int .i64 ea, .int .i64 b, .int .i64 k, .int .u64 (x : Nat), .int .u64 (sw : Nat), .int .u64 (sn : Nat), .int .u64 (mw : Nat), .int .u64 (mn : Nat), .int .i64 p]] w _
  clear h0 ho
  go_enter Tryz.func28, Tryz.ntmps28
  go_upto_region 1 with fail
  rw [← hW]
  clear hW
  by_cases q0 : k < 1
  · clear HO
    go_wp2_with fail
    go_ret
    exact ⟨rfl, hb0⟩
  by_cases q1 : (6 : Int) ≤ k
  · clear HO
    go_wp2_with fail
    go_ret
    exact ⟨rfl, hb0⟩
  by_cases q2 : ea < 0
  · clear HO
    go_wp2_with fail
    go_ret
    exact ⟨rfl, hb0⟩
  by_cases q3 : b < 0
  · clear HO
    go_wp2_with fail
    go_ret
    exact ⟨rfl, hb0⟩
  have q4 : p < -1 := by have := HO.out; omega
  go_wp2_with fail
  go_ret
  exact ⟨rfl, hb0⟩
theorem edText_any {e : Ed} (hn : e.nums) (w : World) (hL : Lq w.heap.size w) : Calls Tryz.prog 28 #[.agg e.vals.toArray] w fun r w' => r = .returned (str e.text) ∧ Below w.heap.size w w' := by
  by_cases ho : e.ok
  · obtain ⟨k, hk, h1, h2, h3, h4, h5⟩ := ed_open hn ho
    obtain ⟨ea, b, k', x, sw, sn, mw, mn, p⟩ := e
    simp only at hk
    subst hk
    rw [Ed.text_ok ho]
    exact edTextY_any ea b k x sw sn mw mn p w h2 h3 h1 h4 h5 hL
  · have : e.text = [] := Ed.text_nil.2 ho
    rw [this]
    exact edTextN_any e w ho
/-! The reference's. -/
def nms20 : List (List UInt8) := [[], [119, 119], [119, 114], [114, 119], [112, 119, 114], [112, 114, 119]]
/-! Copies. -/
end Go.Proofs.YtagnalfkmdjajaaGreatDoor
