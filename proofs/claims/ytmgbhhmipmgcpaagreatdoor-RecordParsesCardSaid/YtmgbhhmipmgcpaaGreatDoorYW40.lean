/- Walks. -/
import Derived.Test.YtmgbhhmipmgcpaaGreatDoorY20
import Derived.Test.YtmgbhhmipmgcpaaGreatDoorY63
set_option maxHeartbeats 1000000
set_option maxRecDepth 100000
namespace Go.Proofs.YtmgbhhmipmgcpaaGreatDoor
open Go.RowKit Go
set_option linter.unusedVariables false
set_option linter.unusedSimpArgs false
def VrS (w : World) (rb : Nat) (l : List UInt8) (sv : Value) (s : Option (List UInt8)) : Prop := ∃ a e, Vr w rb a e l sv ∧ s = if e = 0 then some (l.drop a) else none
theorem VrS.lt {w : World} {rb : Nat} {l : List UInt8} {sv : Value} {s : Option (List UInt8)} (h : VrS w rb l sv s) : rb < w.heap.size := by
 obtain ⟨a, e, h, _⟩ := h
 exact h.lt
theorem VrS.left {w : World} {rb : Nat} {l r : List UInt8} {sv : Value} (h : VrS w rb l sv (some r)) : r.length ≤ l.length := by
 obtain ⟨a, e, h, h2⟩ := h
 by_cases he : e = 0
 ·rw [if_pos he] at h2; injection h2 with h2; rw [h2]; simp
 ·rw [if_neg he] at h2; cases h2
theorem VrS.below {w w' : World} {rb : Nat} {l : List UInt8} {sv : Value} {s : Option (List UInt8)} (h : VrS w rb l sv s) (hb : Below w.heap.size w w') : VrS w' rb l sv s := by
 obtain ⟨a, e, h, h2⟩ := h
 exact ⟨a, e, h.below hb, h2⟩
theorem VrS.keep {w w' : World} {rb : Nat} {l : List UInt8} {sv : Value} {s : Option (List UInt8)} (h : VrS w rb l sv s) (hk : ∀ b, b ≤ rb → w'.heap[b]? = w.heap[b]?) : VrS w' rb l sv s := by
 obtain ⟨a, e, h, h2⟩ := h
 exact ⟨a, e, h.keep hk, h2⟩
theorem iB (rb : Nat) (l : List UInt8) (sv : Value) (s : Option (List UInt8)) (w : World) (h : VrS w rb l sv s) :
  Calls Tryz.prog 39 #[.pointer (some ⟨rb, 0, none⟩)] w fun r w' => ∃ e : Int, r = .returned (.int .i64 e) ∧ (e = 0 ↔ s.isSome = true) ∧ w = w' := by
 obtain ⟨a, e, h, rfl⟩ := h
 refine (bN rb a e l sv w h).mono ?_
 rintro r w' ⟨rfl, rfl⟩
 refine ⟨e, rfl, ?_, rfl⟩
 by_cases he : e = 0 <;> simp [he]
theorem nu (rb : Nat) (l : List UInt8) (sv : Value) (s : Option (List UInt8)) (w : World) (h : VrS w rb l sv s) :
  Calls Tryz.prog 72 #[.pointer (some ⟨rb, 0, none⟩)] w fun r w' => r = .returned (.bool s.isSome) ∧ w = w' := by
 obtain ⟨a, e, h, rfl⟩ := h
 refine (dE rb a e l sv w h).mono ?_
 rintro r w' ⟨rfl, rfl⟩
 refine ⟨au ?_, rfl⟩
 by_cases he : e = 0 <;> simp [he]
theorem qo (rb : Nat) (l : List UInt8) (sv : Value) (s : Option (List UInt8)) (w : World) (h : VrS w rb l sv s) :
  Calls Tryz.prog 38 #[.pointer (some ⟨rb, 0, none⟩)] w fun r w' => r = .returned (.int .u64 ((aW s).1 : Nat)) ∧ VrS w' rb l sv (aW s).2 ∧ Rg rb w w' := by
 obtain ⟨a, e, h, rfl⟩ := h
 by_cases he : e = 0
 ·subst he
  refine (jh rb a l sv w h).mono ?_
  rintro r w' ⟨v, a', e', rfl, hv, hv', hg, _, h1, h2⟩
  by_cases he : e' = 0
  ·have := h1 he
   rw [if_pos rfl, aG this]
   exact ⟨rfl, ⟨a', e', hv', by rw [if_pos he]⟩, hg⟩
  ·obtain ⟨rfl, rfl, h3, _⟩ := h2 he
   rw [if_pos rfl, bM h3]
   exact ⟨rfl, ⟨a', e', hv', by rw [if_neg he]⟩, hg⟩
 ·refine (lJ rb a e l sv w h he).mono ?_
  rintro r w' ⟨rfl, rfl⟩
  rw [if_neg he]
  exact ⟨rfl, ⟨a, e, h, by rw [if_neg he]; rfl⟩, Rg.refl _ _⟩
theorem wG (rb a : Nat) (n : Int) (l : List UInt8) (sv : Value) (w : World) (h : Vr w rb a 0 l sv) (h1 : (l.length : Int) - (a : Int) < n) (h2 : n ≤ 9223372036854775807) :
  Calls Tryz.prog 165 #[.pointer (some ⟨rb, 0, none⟩), .int .i64 n] w fun r w' => r = .returned (.slice none 0 0) ∧ Vr w' rb a 4 l sv ∧ Rg rb w w' := by
 have ha := h.2.2
 have HWl := hid (dE rb a 0 l sv w h)
 have HLf := hid (kN rb a 0 l sv w h)
 have HV := hid h
 clear h
 have t0 : ¬ n < 0 := by omega
 go_enter Tryz.func165, Tryz.ntmps165
 go_wp2_with fail
 refine HWl.out.mono ?_
 rintro r w0 ⟨rfl, rfl⟩
 go_wp2_with fail
 refine HLf.out.mono ?_
 rintro r w0 ⟨rfl, nq, rfl⟩
 have hb0 : Below w.heap.size w (w.drewN nq) := below_drewN br _
 have HV0 := hid (HV.out.below hb0)
 have HB0 := hid hb0
 clear hb0
 go_wp2_with fail
 refine (iG rb a 4 l _ _ HV0.out).mono ?_
 rintro r w3 ⟨rfl, hv3, hg3, hz3⟩
 go_wp2_with fail
 go_ret
 exact ⟨rfl, hv3, (Rg.of_below HB0.out).trans hg3⟩
def AY (rb : Nat) (l : List UInt8) (sv : Value) (p : List UInt8) (s' : Option (List UInt8)) (w : World) (r : Ending) (w' : World) : Prop :=
 ∃ v, r = .returned v ∧ VrS w' rb l sv s' ∧ Rg rb w w' ∧ w'.ownsRow w.heap.size 5 1 v p.length (bytes p)
theorem pM (rb n : Nat) (l : List UInt8) (sv : Value) (s : Option (List UInt8)) (w : World) (h : VrS w rb l sv s) (hn : n ≤ 9223372036854775807) :
  Calls Tryz.prog 165 #[.pointer (some ⟨rb, 0, none⟩), .int .i64 n] w (AY rb l sv (bX n s).1 (bX n s).2 w) := by
 obtain ⟨a, e, h, rfl⟩ := h
 by_cases he : e = 0
 ·subst he
  have ha := h.2.2
  rw [if_pos rfl]
  by_cases hle : n ≤ l.length - a
  ·have e1 : bX n (some (l.drop a)) = ((l.drop a).take n, some ((l.drop a).drop n)) := by show (if n ≤ (l.drop a).length then _ else _) = _; rw [if_pos (by simp; omega)]
   rw [e1]
   refine (eG rb a n l sv w h (by omega)).mono ?_
   rintro r w' ⟨v, p, a', e', rfl, hv, hg, ho, h3, _⟩
   obtain ⟨rfl, rfl, rfl⟩ := h3 hle
   exact ⟨v, rfl, ⟨a + n, 0, hv, by simp⟩, hg, ho⟩
  ·have e1 : bX n (some (l.drop a)) = ([], none) := by show (if n ≤ (l.drop a).length then _ else _) = _; rw [if_neg (by simp; omega)]
   rw [e1]
   refine (wG rb a n l sv w h (by omega) (by omega)).mono ?_
   rintro r w' ⟨rfl, hv, hg⟩
   exact ⟨_, rfl, ⟨a, 4, hv, by simp⟩, hg, World.ownsRow_nil _ _ _ _⟩
 ·rw [if_neg he]
  refine (mh rb a e n l sv w h he).mono ?_
  rintro r w' ⟨rfl, rfl⟩
  exact ⟨_, rfl, ⟨a, e, h, by rw [if_neg he]; rfl⟩, Rg.refl _ _, World.ownsRow_nil _ _ _ _⟩
end Go.Proofs.YtmgbhhmipmgcpaaGreatDoor
