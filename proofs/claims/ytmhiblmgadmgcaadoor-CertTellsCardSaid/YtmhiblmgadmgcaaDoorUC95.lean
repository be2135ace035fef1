/- The examples of chapter 28 hold, wherever the library's variables are as laid. -/
import Derived.Test.YtmhiblmgadmgcaaDoorUE28
import Derived.Test.YtmhiblmgadmgcaaDoorU15
namespace Go.Proofs.YtmhiblmgadmgcaaDoor
open Go.Ev Go.RowKit Go
set_option linter.unusedVariables false
set_option linter.unusedSectionVars false
set_option linter.unusedSimpArgs false
theorem itoa_pos {n : Int} (k : Nat) (h : n = (k : Int)) (l : List UInt8) (hl : Lib.decDigits k = l) : Lib.itoa n = l := by
  subst h
  rw [itoa_of (Int.natCast_nonneg _)]
  simpa using hl
theorem itoaM_ok {n : Int} {s : List UInt8} (h : itoaM n = some s) : -9223372036854775808 ≤ n ∧ n ≤ 9223372036854775807 ∧ Lib.itoa n = s := by
  unfold itoaM at h
  split at h
  · rename_i e; cases h; have e := int_t e; subst e; refine ⟨by omega, by omega, itoa_pos 300 rfl _ (by simp [Lib.decDigits])⟩
  · skip
    split at h
    · rename_i e; cases h; have e := int_t e; subst e; refine ⟨by omega, by omega, by unfold Lib.itoa; simp [Lib.decDigits]⟩
    · skip
      split at h
      · rename_i e; cases h; have e := int_t e; subst e; refine ⟨by omega, by omega, itoa_pos 0 rfl _ (by simp [Lib.decDigits])⟩
      · skip
        split at h
        · rename_i e; cases h; have e := int_t e; subst e; refine ⟨by omega, by omega, itoa_pos 1 rfl _ (by simp [Lib.decDigits])⟩
        · skip
          split at h
          · rename_i e; cases h; have e := int_t e; subst e; refine ⟨by omega, by omega, itoa_pos 2 rfl _ (by simp [Lib.decDigits])⟩
          · skip
            split at h
            · rename_i e; cases h; have e := int_t e; subst e; refine ⟨by omega, by omega, itoa_pos 5 rfl _ (by simp [Lib.decDigits])⟩
            · cases h
theorem itoaM_at [Env] (hI : LqI) : CallAt Tryd.prog (gPure gItoaM) 36 := by
  refine callAt_calls Tryd.func36 (by kernel_rfl) (by kernel_rfl) fun args v hv m A w hA hw => ?_
  unfold gItoaM at hv
  split at hv
  · rename_i n
    split at hv
    · rename_i s hs
      cases hv
      obtain ⟨h1, h2, h3⟩ := itoaM_ok hs
      obtain ⟨V, rfl, hV⟩ := arr1 hA
      cases hV
      refine (Tryd.strconv_Itoa n h1 h2 w (hI m w hw).lv.tab).mono fun e w' => ?_
      rintro ⟨rfl, k, os, rfl⟩
      exact ⟨_, rfl, .s _ _ (by rw [h3]), Lib.below_grow _ _ (Nat.le_refl _) _ _⟩
    · cases hv
  · cases hv
theorem orcT_at [Env] (hI : LqI) : ∀ f g, orcT f = some g → CallAt Tryd.prog g f := by
  intro f g h
  unfold orcT at h
  cases e1 : Nat.beq f 36 with
  | true => have := beq_t e1; subst this; rw [e1] at h; cases h; exact itoaM_at hI
  | false => rw [e1] at h; exact orc_at f g h
theorem works28_any (w : World) (hL : Lq w.heap.size w) : Calls Tryd.prog 5 #[] w fun e w' => e = .returned (.bool true) ∧ Below w.heap.size w w' := by
  letI : Env := envS w.heap.size w (fun _ => undef) phF
  exact calls_true (orcT_at (lqI_envS _ hL)) evWorks28 (.nil _) Tryd.func5 (by kernel_rfl) (by kernel_rfl) w (envS_start w _)
end Go.Proofs.YtmhiblmgadmgcaaDoor
