/- What is read is no longer than its text: plain Lean. -/
import Derived.Test.YtohjkejdkhdjbaaGreatDoorEx07
namespace Go.Proofs.YtohjkejdkhdjbaaGreatDoor
open Go.RowKit Go
set_option linter.unusedVariables false
set_option linter.unusedSimpArgs false
theorem rfLoop_size (rd : List UInt8 → Option (Ex × List UInt8)) (hrd : ∀ s e r, rd s = some (e, r) → e.size + r.length ≤ s.length) : ∀ f s es r, rfLoop rd f s = some (es, r) → Ex.sizes es + r.length + 1 ≤ s.length := by
  intro f
  induction f with
  | zero => intro s es r h; simp [rfLoop] at h
  | succ f ih =>
    intro s es r h
    rw [rfLoop] at h
    split at h
    · cases h
    · rename_i e q hq
      have h1 := hrd _ _ _ hq
      split at h
      · rename_i hp
        have := pre_length hp
        injection h with h; injection h with ha h; subst h; subst ha; simp [Ex.sizes] at this ⊢; omega
      · split at h
        · rename_i hp
          have := pre_length hp
          simp only [Option.map_eq_some_iff] at h
          obtain ⟨⟨a, b⟩, h3, h4⟩ := h
          injection h4 with ha h4; subst h4; subst ha
          have := ih _ _ _ h3
          simp [Ex.sizes] at this ⊢; omega
        · cases h
theorem rfParts_size (rd : List UInt8 → Option (Ex × List UInt8)) (hrd : ∀ s e r, rd s = some (e, r) → e.size + r.length ≤ s.length) (s : List UInt8) (es : List Ex) (r : List UInt8) (h : rfParts rd s = some (es, r)) : Ex.sizes es + r.length + 1 ≤ s.length := by
  unfold rfParts at h
  split at h
  · rename_i hp
    have := pre_length hp
    injection h with h; injection h with ha h; subst h; subst ha; simp [Ex.sizes] at this ⊢; omega
  · exact rfLoop_size rd hrd _ _ _ _ h
theorem rfE_size (d : Nat) : ∀ s e r, rfE d s = some (e, r) → e.size + r.length ≤ s.length := by
  induction d with
  | zero => intro s e r h; simp [rfE] at h
  | succ d ih =>
    intro s e r h
    rw [rfE] at h
    split at h
    · rename_i hp; have := pre_length hp; injection h with h; injection h with ha h; subst h; subst ha; simp [Ex.size, Ex.sizes] at this ⊢; omega
    split at h
    · rename_i hp; have := pre_length hp; simp only [Option.map_eq_some_iff] at h; obtain ⟨⟨a, b⟩, h3, h4⟩ := h; injection h4 with ha h4; subst h4; subst ha; have := rdNum_len h3; simp [Ex.size, Ex.sizes] at this ⊢; omega
    split at h
    · rename_i hp; have := pre_length hp; simp only [Option.map_eq_some_iff] at h; obtain ⟨⟨a, b⟩, h3, h4⟩ := h; injection h4 with ha h4; subst h4; subst ha; have := rdNum_len h3; simp [Ex.size, Ex.sizes] at this ⊢; omega
    split at h
    · split at h
      · cases h
      · rename_i hq
        have h1 := rdNum_len hq
        split at h
        · simp only [Option.map_eq_some_iff] at h; obtain ⟨⟨a, b⟩, h3, h4⟩ := h; injection h4 with ha h4; subst h4; subst ha; have := rdNum_len h3; simp [Ex.size, Ex.sizes] at this h1 ⊢; omega
        · cases h
    split at h
    · rename_i hp; have := pre_length hp; simp only [Option.map_eq_some_iff] at h; obtain ⟨⟨a, b⟩, h3, h4⟩ := h; injection h4 with ha h4; subst h4; subst ha; have := ih _ _ _ h3; simp [Ex.size, Ex.sizes] at this ⊢; simp at *; omega
    split at h
    · rename_i hp; have := pre_length hp; simp only [Option.map_eq_some_iff] at h; obtain ⟨⟨a, b⟩, h3, h4⟩ := h; injection h4 with ha h4; subst h4; subst ha; have := rfParts_size _ ih _ _ _ h3; simp [Ex.size, Ex.sizes] at this ⊢; simp at *; omega
    split at h
    · rename_i hp; have := pre_length hp; simp only [Option.map_eq_some_iff] at h; obtain ⟨⟨a, b⟩, h3, h4⟩ := h; injection h4 with ha h4; subst h4; subst ha; have := rfParts_size _ ih _ _ _ h3; simp [Ex.size, Ex.sizes] at this ⊢; simp at *; omega
    · cases h
/-- The answer's code. -/
def code (o : Option Ex) : Int := if o.isSome then 0 else 40
theorem rdText_some {s : List UInt8} {e : Ex} (h : rdText s = some e) : rfE 8 s = some (e, []) ∧ e.right = true := by
  unfold rdText at h
  split at h
  · rename_i e' he
    split at h
    · rename_i hr; injection h with h; subst h; exact ⟨he, hr⟩
    · cases h
  · cases h
theorem rdText_of {s r : List UInt8} {e : Ex} (h : rfE 8 s = some (e, r)) : rdText s = if r = [] ∧ e.right = true then some e else none := by
  unfold rdText
  rw [h]
  cases r with
  | nil => simp
  | cons a r => simp
theorem rdText_none {s : List UInt8} (h : rfE 8 s = none) : rdText s = none := by
  unfold rdText; rw [h]
end Go.Proofs.YtohjkejdkhdjbaaGreatDoor
