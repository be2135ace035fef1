/- What is read is no longer than its text. -/
import Derived.Test.YtlpgokcapdjgjaaGreatDoorY35
namespace Go.Proofs.YtlpgokcapdjgjaaGreatDoor
open Go.RowKit Go
set_option linter.unusedVariables false
set_option linter.unusedSimpArgs false
def pre (t l : List UInt8) : Bool := t.isPrefixOf l
def bT (rd : List UInt8 → Option (Ex × List UInt8)) : Nat → List UInt8 → Option (List Ex × List UInt8)
 | 0, _ => none
 | f + 1, s =>
  match rd s with
  | none => none
  | some (e, r) =>
   if pre [41] r then some ([e], r.drop 1)
   else if pre [44] r then (bT rd f (r.drop 1)).map fun x => (e :: x.1, x.2)
   else none
def bq (rd : List UInt8 → Option (Ex × List UInt8)) (s : List UInt8) : Option (List Ex × List UInt8) :=
 if pre [41] s then some ([], s.drop 1) else bT rd (s.length + 1) s
def rfE : Nat → List UInt8 → Option (Ex × List UInt8)
 | 0, _ => none
 | d + 1, s =>
  if pre [97, 108, 108] s then some (.mk 1 0 0 [], s.drop 3)
  else if pre [120, 60, 61] s then (rdNum (s.drop 3)).map fun x => (.mk 2 x.1 0 [], x.2)
  else if pre [118, 60, 61] s then (rdNum (s.drop 3)).map fun x => (.mk 3 x.1 0 [], x.2)
  else if pre [118, 37] s then
   match rdNum (s.drop 2) with
   | none => none
   | some (a, r) => if pre [61] r then (rdNum (r.drop 1)).map fun x => (.mk 4 a x.1 [], x.2) else none
  else if pre [33] s then (rfE d (s.drop 1)).map fun x => (.mk 5 0 0 [x.1], x.2)
  else if pre [38, 40] s then (bq (rfE d) (s.drop 2)).map fun x => (.mk 6 0 0 x.1, x.2)
  else if pre [124, 40] s then (bq (rfE d) (s.drop 2)).map fun x => (.mk 7 0 0 x.1, x.2)
  else none
theorem aL {t l : List UInt8} (h : pre t l = true) : t.length ≤ l.length := by
 unfold pre at h; rw [List.isPrefixOf_iff_prefix] at h; exact h.length_le
theorem fF {l r : List UInt8} {n : Nat} (h : rdNum l = some (n, r)) : r.length < l.length := by
 obtain ⟨h1, _, _⟩ := iA h
 have := gP n
 have h2 : 0 < (Lib.decDigits n).length := List.length_pos_iff.2 this
 rw [h1]; simp; omega
theorem xG (rd : List UInt8 → Option (Ex × List UInt8)) (hrd : ∀ s e r, rd s = some (e, r) → r.length < s.length) : ∀ f s es r, bT rd f s = some (es, r) → r.length < s.length := by
 intro f
 induction f with
 | zero => intro s es r h; simp [bT] at h
 | succ f ih =>
  intro s es r h
  rw [bT] at h
  split at h
  ·cases h
  ·rename_i e q hq
   have h1 := hrd _ _ _ hq
   split at h
   ·injection h with h; injection h with _ h; subst h; simp; omega
   ·split at h
    ·simp only [Option.map_eq_some_iff] at h
     obtain ⟨⟨a, b⟩, h3, h4⟩ := h
     injection h4 with _ h4; subst h4
     have := ih _ _ _ h3
     simp at this ⊢; omega
    ·cases h
theorem nN (rd : List UInt8 → Option (Ex × List UInt8)) (hrd : ∀ s e r, rd s = some (e, r) → r.length < s.length) (s : List UInt8) (es : List Ex) (r : List UInt8) (h : bq rd s = some (es, r)) : r.length < s.length := by
 unfold bq at h
 split at h
 ·rename_i hp
  have := aL hp
  injection h with h; injection h with _ h; subst h; simp at this ⊢; omega
 ·exact xG rd hrd _ _ _ _ h
theorem oH (d : Nat) : ∀ s e r, rfE d s = some (e, r) → r.length < s.length := by
 induction d with
 | zero => intro s e r h; simp [rfE] at h
 | succ d ih =>
  intro s e r h
  rw [rfE] at h
  split at h
  ·rename_i hp; have := aL hp; injection h with h; injection h with _ h; subst h; simp at this ⊢; omega
  split at h
  ·rename_i hp; have := aL hp; simp only [Option.map_eq_some_iff] at h; obtain ⟨⟨a, b⟩, h3, h4⟩ := h; injection h4 with _ h4; subst h4; have := fF h3; simp at this ⊢; omega
  split at h
  ·rename_i hp; have := aL hp; simp only [Option.map_eq_some_iff] at h; obtain ⟨⟨a, b⟩, h3, h4⟩ := h; injection h4 with _ h4; subst h4; have := fF h3; simp at this ⊢; omega
  split at h
  ·split at h
   ·cases h
   ·rename_i hq
    have h1 := fF hq
    split at h
    ·simp only [Option.map_eq_some_iff] at h; obtain ⟨⟨a, b⟩, h3, h4⟩ := h; injection h4 with _ h4; subst h4; have := fF h3; simp at this h1 ⊢; omega
    ·cases h
  split at h
  ·simp only [Option.map_eq_some_iff] at h; obtain ⟨⟨a, b⟩, h3, h4⟩ := h; injection h4 with _ h4; subst h4; have := ih _ _ _ h3; simp at this ⊢; omega
  split at h
  ·simp only [Option.map_eq_some_iff] at h; obtain ⟨⟨a, b⟩, h3, h4⟩ := h; injection h4 with _ h4; subst h4; have := nN _ ih _ _ _ h3; simp at this ⊢; omega
  split at h
  ·simp only [Option.map_eq_some_iff] at h; obtain ⟨⟨a, b⟩, h3, h4⟩ := h; injection h4 with _ h4; subst h4; have := nN _ ih _ _ _ h3; simp at this ⊢; omega
  ·cases h
theorem vK (rd : List UInt8 → Option (Ex × List UInt8)) (hrd : ∀ s e r, rd s = some (e, r) → r.length < s.length) : ∀ f g s, s.length < f → s.length < g → bT rd f s = bT rd g s := by
 intro f
 induction f with
 | zero => intro g s h; omega
 | succ f ih =>
  intro g s h1 h2
  cases g with
  | zero => omega
  | succ g =>
   rw [bT, bT]
   split
   ·rfl
   ·rename_i e r hr
    have := hrd _ _ _ hr
    split
    ·rfl
    ·split
     ·rw [ih g (r.drop 1) (by simp; omega) (by simp; omega)]
     ·rfl
theorem nO (rd : List UInt8 → Option (Ex × List UInt8)) (hrd : ∀ s e r, rd s = some (e, r) → r.length < s.length) (s : List UInt8) :
  bT rd (s.length + 1) s = match rd s with
   | none => none
   | some (e, r) => if pre [41] r then some ([e], r.drop 1) else if pre [44] r then (bT rd ((r.drop 1).length + 1) (r.drop 1)).map fun x => (e :: x.1, x.2) else none := by
 rw [bT]
 split
 ·rfl
 ·rename_i e r hr
  have := hrd _ _ _ hr
  split
  ·rfl
  ·split
   ·rw [vK rd hrd s.length ((r.drop 1).length + 1) (r.drop 1) (by simp; omega) (by simp)]
   ·rfl
def bU (s : List UInt8) : Option Ex := match rfE 8 s with
 | some (e, []) => if e.right then some e else none
 | _ => none
theorem vL (rd : List UInt8 → Option (Ex × List UInt8)) (hrd : ∀ s e r, rd s = some (e, r) → e.size + r.length ≤ s.length) : ∀ f s es r, bT rd f s = some (es, r) → Ex.sizes es + r.length + 1 ≤ s.length := by
 intro f
 induction f with
 | zero => intro s es r h; simp [bT] at h
 | succ f ih =>
  intro s es r h
  rw [bT] at h
  split at h
  ·cases h
  ·rename_i e q hq
   have h1 := hrd _ _ _ hq
   split at h
   ·rename_i hp
    have := aL hp
    injection h with h; injection h with ha h; subst h; subst ha; simp [Ex.sizes] at this ⊢; omega
   ·split at h
    ·rename_i hp
     have := aL hp
     simp only [Option.map_eq_some_iff] at h
     obtain ⟨⟨a, b⟩, h3, h4⟩ := h
     injection h4 with ha h4; subst h4; subst ha
     have := ih _ _ _ h3
     simp [Ex.sizes] at this ⊢; omega
    ·cases h
theorem lV (rd : List UInt8 → Option (Ex × List UInt8)) (hrd : ∀ s e r, rd s = some (e, r) → e.size + r.length ≤ s.length) (s : List UInt8) (es : List Ex) (r : List UInt8) (h : bq rd s = some (es, r)) : Ex.sizes es + r.length + 1 ≤ s.length := by
 unfold bq at h
 split at h
 ·rename_i hp
  have := aL hp
  injection h with h; injection h with ha h; subst h; subst ha; simp [Ex.sizes] at this ⊢; omega
 ·exact vL rd hrd _ _ _ _ h
theorem Br (d : Nat) : ∀ s e r, rfE d s = some (e, r) → e.size + r.length ≤ s.length := by
 induction d with
 | zero => intro s e r h; simp [rfE] at h
 | succ d ih =>
  intro s e r h
  rw [rfE] at h
  split at h
  ·rename_i hp; have := aL hp; injection h with h; injection h with ha h; subst h; subst ha; simp [Ex.size, Ex.sizes] at this ⊢; omega
  split at h
  ·rename_i hp; have := aL hp; simp only [Option.map_eq_some_iff] at h; obtain ⟨⟨a, b⟩, h3, h4⟩ := h; injection h4 with ha h4; subst h4; subst ha; have := fF h3; simp [Ex.size, Ex.sizes] at this ⊢; omega
  split at h
  ·rename_i hp; have := aL hp; simp only [Option.map_eq_some_iff] at h; obtain ⟨⟨a, b⟩, h3, h4⟩ := h; injection h4 with ha h4; subst h4; subst ha; have := fF h3; simp [Ex.size, Ex.sizes] at this ⊢; omega
  split at h
  ·split at h
   ·cases h
   ·rename_i hq
    have h1 := fF hq
    split at h
    ·simp only [Option.map_eq_some_iff] at h; obtain ⟨⟨a, b⟩, h3, h4⟩ := h; injection h4 with ha h4; subst h4; subst ha; have := fF h3; simp [Ex.size, Ex.sizes] at this h1 ⊢; omega
    ·cases h
  split at h
  ·rename_i hp; have := aL hp; simp only [Option.map_eq_some_iff] at h; obtain ⟨⟨a, b⟩, h3, h4⟩ := h; injection h4 with ha h4; subst h4; subst ha; have := ih _ _ _ h3; simp [Ex.size, Ex.sizes] at this ⊢; simp at *; omega
  split at h
  ·rename_i hp; have := aL hp; simp only [Option.map_eq_some_iff] at h; obtain ⟨⟨a, b⟩, h3, h4⟩ := h; injection h4 with ha h4; subst h4; subst ha; have := lV _ ih _ _ _ h3; simp [Ex.size, Ex.sizes] at this ⊢; simp at *; omega
  split at h
  ·rename_i hp; have := aL hp; simp only [Option.map_eq_some_iff] at h; obtain ⟨⟨a, b⟩, h3, h4⟩ := h; injection h4 with ha h4; subst h4; subst ha; have := lV _ ih _ _ _ h3; simp [Ex.size, Ex.sizes] at this ⊢; simp at *; omega
  ·cases h
def code (o : Option Ex) : Int := if o.isSome then 0 else 40
theorem kJ {s r : List UInt8} {e : Ex} (h : rfE 8 s = some (e, r)) : bU s = if r = [] ∧ e.right = true then some e else none := by
 unfold bU
 rw [h]
 cases r with
 | nil => simp
 | cons a r => simp
theorem nP {s : List UInt8} (h : rfE 8 s = none) : bU s = none := by
 unfold bU; rw [h]
end Go.Proofs.YtlpgokcapdjgjaaGreatDoor
