/- Walks: digits, cuts, values and versions as the references have them; a version's text. (Parts of S01, V20, V21, V24, W20, W50.) -/
import Derived.Test.YtmhiblmgadmgcaaDoorUP01
import Derived.Test.YtmhiblmgadmgcaaDoorU3
namespace Go.Proofs.YtmhiblmgadmgcaaDoor
open Go.RowKit Go
set_option linter.unusedVariables false
set_option linter.unusedSimpArgs false
theorem digit_at (n : Nat) : (ByteArray.mk #[48, 49, 50, 51, 52, 53, 54, 55, 56, 57]).extract (n % 10) (n % 10 + 1) = ⟨#[UInt8.ofNat (48 + n % 10)]⟩ := by
  have h : ∀ k : Fin 10, (ByteArray.mk #[48, 49, 50, 51, 52, 53, 54, 55, 56, 57]).extract k.val (k.val + 1) = ⟨#[UInt8.ofNat (48 + k.val)]⟩ := by decide +kernel
  exact h ⟨n % 10, Nat.mod_lt _ (by omega)⟩
set_option maxRecDepth 10000 in
theorem refDigits_any (d : Nat) : ∀ (n : Nat) (w : World), n < 10 ^ (d + 1) → n < 18446744073709551616 →
    Calls Tryd.prog 38 #[.int .u64 n] w fun e w' => e = .returned (.string ⟨(Lib.decDigits n).toArray⟩) ∧ w' = w := by
  induction d with
  | zero =>
    intro n w hn _
    have hn' : n < 10 := by simpa using hn
    clear hn
    go_enter Tryd.func38, Tryd.ntmps38
    go_wp2_with fail
    go_ret
    refine ⟨?_, rfl⟩
    rw [digit_at, Lib.decDigits, dif_pos hn', Nat.mod_eq_of_lt hn']; rfl
  | succ d ih =>
    intro n w hn h64
    have hdiv : n / 10 < 10 ^ (d + 1) := by rw [Nat.pow_succ] at hn; omega
    have h := ih (n / 10) w hdiv (by omega)
    rw [show ((n / 10 : Nat) : Int) = (n : Int) / 10 from by simp] at h
    have IH := Lib.hid h
    clear h ih hdiv hn
    by_cases hn' : n < 10
    · go_enter Tryd.func38, Tryd.ntmps38
      go_wp2_with fail
      go_ret
      refine ⟨?_, rfl⟩
      rw [digit_at, Lib.decDigits, dif_pos hn', Nat.mod_eq_of_lt hn']; rfl
    · go_enter Tryd.func38, Tryd.ntmps38
      go_wp2_with fail
      refine IH.out.mono ?_
      rintro e w1 ⟨rfl, rfl⟩
      have hdl := decDigits_len (n / 10) (by omega)
      go_wp2_with fail
      go_ret
      refine ⟨?_, rfl⟩
      rw [digit_at]
      conv => rhs; rw [Lib.decDigits, dif_neg hn']
      congr 2
theorem refDigits (n : Nat) (w : World) (h64 : n < 18446744073709551616) : Calls Tryd.prog 38 #[.int .u64 n] w fun e w' => e = .returned (.string ⟨(Lib.decDigits n).toArray⟩) ∧ w' = w :=
  refDigits_any 20 n w (Nat.lt_of_lt_of_le h64 (by decide)) h64
theorem ownsRow_lit (w : World) (base : Nat) (cs : Array Value) (T : TypeId) (hb : base ≤ w.heap.size) (hm : cs.size ≤ 1000) : (w.alloc (.cells cs T)).ownsRow base T 1 (.slice (some ⟨w.heap.size, 0, none⟩) cs.size cs.size) cs.size cs.toList :=
  ⟨by simp, Or.inr ⟨w.heap.size, cs.size, cs, rfl, hb, heap_alloc_new w _, Nat.le_refl _, by unfold maxLen; omega, by omega, by simp [List.take_of_length_le]⟩⟩
theorem refToldV_any (a b : Nat) (w : World) (ha : a < 18446744073709551616) (hb : b < 18446744073709551616) : Calls Tryd.prog 55 #[.agg #[.int .u64 a, .int .u64 b]] w fun e w' => e = .returned (.string ⟨(verT a b).toArray⟩) ∧ Below w.heap.size w w' := by
  have hl := decDigits_le20 a ha
  have hl2 := decDigits_le20 b hb
  go_enter Tryd.func55, Tryd.ntmps55
  go_wp2_with fail
  go_quiet ((go_at_call 38; exact Calls.quiet_of_same (refDigits _ _ (by assumption))))
  go_wp2_with fail
  go_ret
  exact ⟨str_ext (by simp [verT]), below_drewN ((Below.refl _ _).alloc (Nat.le_refl _) _) _⟩
theorem recDigits_any (u : Nat) (w : World) (hu64 : u < 18446744073709551616) (hL : Lv w.heap.size w) :
    Calls Tryd.prog 66 #[.int .u64 u] w fun e w' => e = .returned (.string ⟨(Lib.decDigits u).toArray⟩) ∧ Below w.heap.size w w' := by
  have HF := Lib.hid (formatUint_any u w hu64 hL.tab)
  clear hL
  go_enter Tryd.func66, Tryd.ntmps66
  go_wp2_with fail
  refine HF.out.mono ?_
  rintro e w' ⟨rfl, hb⟩
  go_wp2_with fail
  go_ret
  exact ⟨rfl, hb⟩
set_option maxHeartbeats 2000000 in
set_option maxRecDepth 100000 in
theorem recVText_any (a b : Nat) (w : World) (ha : a < 18446744073709551616) (hb : b < 18446744073709551616) (hL : Lv w.heap.size w) :
    Calls Tryd.prog 52 #[.agg #[.int .u64 a, .int .u64 b]] w fun e w' => e = .returned (.string ⟨(verT a b).toArray⟩) ∧ Below w.heap.size w w' := by
  have zA := dd20 a ha
  have zB := dd20 b hb
  have HD : Hid (∀ W : World, Lv W.heap.size W → Calls Tryd.prog 66 #[.int .u64 a] W fun e w' => e = .returned (.string ⟨(Lib.decDigits a).toArray⟩) ∧ Below W.heap.size W w') := Lib.hid (fun W h => recDigits_any a W ha h)
  have HE : Hid (∀ W : World, Lv W.heap.size W → Calls Tryd.prog 66 #[.int .u64 b] W fun e w' => e = .returned (.string ⟨(Lib.decDigits b).toArray⟩) ∧ Below W.heap.size W w') := Lib.hid (fun W h => recDigits_any b W hb h)
  have HT : Hid (∀ DA DB : ByteArray, DA = ⟨(Lib.decDigits a).toArray⟩ → DB = ⟨(Lib.decDigits b).toArray⟩ → DA ++ ⟨#[46]⟩ ++ DB = ⟨(verT a b).toArray⟩) := Lib.hid (by rintro _ _ rfl rfl; exact Value.string.inj (str_ext' (by simp [verT])))
  generalize hDA : (⟨(Lib.decDigits a).toArray⟩ : ByteArray) = DA at zA HD
  generalize hDB : (⟨(Lib.decDigits b).toArray⟩ : ByteArray) = DB at zB HE
  have HAB := Lib.hid (HT.out DA DB hDA.symm hDB.symm)
  rw [← HAB.out]
  have hb0 : Below w.heap.size w (w.alloc (.cells #[.int .u64 a, .int .u64 b] 50)) := (Below.refl _ _).alloc (Nat.le_refl _) _
  have hh0 : (w.alloc (.cells #[.int .u64 a, .int .u64 b] 50)).heap[w.heap.size]? = some (.cells #[.int .u64 a, .int .u64 b] 50 (0, 0)) := heap_alloc_at _ _ _ rfl
  have HL := Lib.hid ((hL.below hb0).mono hb0.size)
  have HB := Lib.hid (And.intro hb0 hh0)
  clear hL hDA hDB hb0 hh0 HT HAB
  go_enter Tryd.func52, Tryd.ntmps52
  go_wp2_with fail
  generalize hW : w.alloc (.cells #[.int .u64 a, .int .u64 b] 50) = W at HL HB ⊢
  have l0 : w.heap.size < W.heap.size := (Array.getElem?_eq_some_iff.1 HB.out.2).1
  have b0 : W.cell? ⟨w.heap.size, 0, none⟩ = some (.int .u64 a) := by rw [cell_of_row W _ 0 _ _ _ HB.out.2]; rfl
  have b1 : W.cell? ⟨w.heap.size, 1, none⟩ = some (.int .u64 b) := by rw [cell_of_row W _ 1 _ _ _ HB.out.2]; rfl
  clear hW
  refine wp_region_prs (w0 := W) rfl [.eq (.pointer (some ⟨w.heap.size, 0, none⟩)), .eq (.int .u64 a), .eq (.string DA), .eq (.string (DA ++ ⟨#[46]⟩)), .eq (.pointer (some ⟨w.heap.size, 1, none⟩)), .eq (.int .u64 b), .eq (.string DB), .eq (.string (DA ++ ⟨#[46]⟩ ++ DB)), .eq (.string (DA ++ ⟨#[46]⟩ ++ DB))] (by kernel_rfl) ⟨?_, ?_, ?_, ?_, ?_, ?_, ?_, ?_, ?_, trivial⟩ (fun vs => [(3, (.pointer (some ⟨w.heap.size, 0, none⟩))), (4, (.int .u64 a)), (5, (.string DA)), (6, (.string (DA ++ ⟨#[46]⟩))), (7, (.pointer (some ⟨w.heap.size, 1, none⟩))), (8, (.int .u64 b)), (9, (.string DB)), (10, (.string (DA ++ ⟨#[46]⟩ ++ DB))), (2, (.string (DA ++ ⟨#[46]⟩ ++ DB)))]) (fun _ => rfl) ?_
  · refine RStep.mk rfl rfl (fun S a wx K Q hR hK => ?_)
    have t1 : a.tmps[1]? = some (.pointer (some ⟨w.heap.size, 0, none⟩)) := (hR.old 1 (by kernel_rfl)).trans (by kernel_rfl)
    go_simp
    exact hK _ _ (Below.refl _ _) rfl
  · refine RStep.mk rfl rfl (fun S a wx K Q hR hK => ?_)
    have t3 := hR.eq 0 (by kernel_rfl) rfl rfl
    have y0 := (hR.bel.cell l0).trans b0
    go_simp
    exact hK _ _ (Below.refl _ _) rfl
  · refine RStep.mk rfl rfl (fun S a wx K Q hR hK => ?_)
    have t4 := hR.eq 1 (by kernel_rfl) rfl rfl
    go_simp
    go_at_call 66
    refine (HD.out _ ((HL.out.below hR.bel).mono hR.bel.size)).mono ?_
    rintro e w' ⟨rfl, hbx⟩
    exact hK _ _ hbx rfl
  · refine RStep.mk rfl rfl (fun S a wx K Q hR hK => ?_)
    have t5 := hR.eq 2 (by kernel_rfl) rfl rfl
    have q : ¬ 9223372036854775807 < DA.size + 1 := by omega
    go_simp
    (try go_ints)
    exact hK _ _ (Below.refl _ _) rfl
  · refine RStep.mk rfl rfl (fun S a wx K Q hR hK => ?_)
    have t1 : a.tmps[1]? = some (.pointer (some ⟨w.heap.size, 0, none⟩)) := (hR.old 1 (by kernel_rfl)).trans (by kernel_rfl)
    go_simp
    exact hK _ _ (Below.refl _ _) rfl
  · refine RStep.mk rfl rfl (fun S a wx K Q hR hK => ?_)
    have t7 := hR.eq 4 (by kernel_rfl) rfl rfl
    have y0 := (hR.bel.cell l0).trans b1
    go_simp
    exact hK _ _ (Below.refl _ _) rfl
  · refine RStep.mk rfl rfl (fun S a wx K Q hR hK => ?_)
    have t8 := hR.eq 5 (by kernel_rfl) rfl rfl
    go_simp
    go_at_call 66
    refine (HE.out _ ((HL.out.below hR.bel).mono hR.bel.size)).mono ?_
    rintro e w' ⟨rfl, hbx⟩
    exact hK _ _ hbx rfl
  · refine RStep.mk rfl rfl (fun S a wx K Q hR hK => ?_)
    have t6 := hR.eq 3 (by kernel_rfl) rfl rfl
    have t9 := hR.eq 6 (by kernel_rfl) rfl rfl
    have q : ¬ 9223372036854775807 < DA.size + 1 + DB.size := by omega
    go_simp
    (try go_ints)
    exact hK _ _ (Below.refl _ _) rfl
  · refine RStep.mk rfl rfl (fun S a wx K Q hR hK => ?_)
    have t10 := hR.eq 7 (by kernel_rfl) rfl rfl
    go_simp
    exact hK _ _ (Below.refl _ _) rfl
  intro S1 vs w1 hD
  have HN := Lib.hid (HB.out.1.trans (hD.bel.mono HB.out.1.size))
  simp only [putsL, List.foldl_cons, List.foldl_nil]
  clear hD b0 b1
  go_simp
  go_wp2_with fail
  go_ret
  exact ⟨rfl, HN.out⟩
end Go.Proofs.YtmhiblmgadmgcaaDoor
