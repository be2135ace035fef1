/- Walks. -/
import Derived.Test.YtlpgokcapdjgjaaGreatDoorY30
import Derived.Test.YtlpgokcapdjgjaaGreatDoorY44
import Derived.Test.YtlpgokcapdjgjaaGreatDoorY12
set_option maxRecDepth 100000
namespace Go.Proofs.YtlpgokcapdjgjaaGreatDoor
open Go.RowKit Go
set_option linter.unusedVariables false
set_option linter.unusedSimpArgs false
def VrS (w : World) (rb : Nat) (l : List UInt8) (sv : Value) (s : Option (List UInt8)) : Prop := ∃ a e, Vr w rb a e l sv ∧ s = if e = 0 then some (l.drop a) else none
theorem VrS.below {w w' : World} {rb : Nat} {l : List UInt8} {sv : Value} {s : Option (List UInt8)} (h : VrS w rb l sv s) (hb : Below w.heap.size w w') : VrS w' rb l sv s := by
 obtain ⟨a, e, h, h2⟩ := h
 exact ⟨a, e, h.below hb, h2⟩
theorem VrS.keep {w w' : World} {rb : Nat} {l : List UInt8} {sv : Value} {s : Option (List UInt8)} (h : VrS w rb l sv s) (hk : ∀ b, b ≤ rb → w'.heap[b]? = w.heap[b]?) : VrS w' rb l sv s := by
 obtain ⟨a, e, h, h2⟩ := h
 exact ⟨a, e, h.keep hk, h2⟩
theorem lI (rb : Nat) (l : List UInt8) (sv : Value) (s : Option (List UInt8)) (w : World) (h : VrS w rb l sv s) :
  Calls Tryz.prog 71 #[.pointer (some ⟨rb, 0, none⟩)] w fun r w' => ∃ e : Int, r = .returned (.int .i64 e) ∧ (e = 0 ↔ s.isSome = true) ∧ w = w' := by
 obtain ⟨a, e, h, rfl⟩ := h
 refine (AJ rb a e l sv w h).mono ?_
 rintro r w' ⟨rfl, rfl⟩
 refine ⟨e, rfl, ?_, rfl⟩
 by_cases he : e = 0 <;> simp [he]
theorem rP (rb : Nat) (l : List UInt8) (sv : Value) (s : Option (List UInt8)) (w : World) (h : VrS w rb l sv s) :
  Calls Tryz.prog 70 #[.pointer (some ⟨rb, 0, none⟩)] w fun r w' => r = .returned (.int .u64 ((dW s).1 : Nat)) ∧ VrS w' rb l sv (dW s).2 ∧ Rg rb w w' := by
 obtain ⟨a, e, h, rfl⟩ := h
 by_cases he : e = 0
 ·subst he
  refine (uZ rb a l sv w h).mono ?_
  rintro r w' ⟨v, a', e', rfl, hv, hv', hg, _, h1, h2⟩
  by_cases he : e' = 0
  ·have := h1 he
   rw [if_pos rfl, aU this]
   exact ⟨rfl, ⟨a', e', hv', by rw [if_pos he]⟩, hg⟩
  ·obtain ⟨rfl, rfl, h3, _⟩ := h2 he
   rw [if_pos rfl, dV h3]
   exact ⟨rfl, ⟨a', e', hv', by rw [if_neg he]⟩, hg⟩
 ·refine (uY rb a e l sv w h he).mono ?_
  rintro r w' ⟨rfl, rfl⟩
  rw [if_neg he]
  exact ⟨rfl, ⟨a, e, h, by rw [if_neg he]; rfl⟩, Rg.refl _ _⟩
theorem Cs (rb : Nat) (l : List UInt8) (sv : Value) (s s1 : Option (List UInt8)) (n : Nat) (w : World) (h : VrS w rb l sv s) (hn : dW s = (n, s1)) :
  Calls Tryz.prog 70 #[.pointer (some ⟨rb, 0, none⟩)] w fun r w' => r = .returned (.int .u64 (n : Nat)) ∧ VrS w' rb l sv s1 ∧ Rg rb w w' := by
 have := rP rb l sv s w h
 rw [hn] at this
 exact this
structure RdS (w : World) (pb rb : Nat) (l : List UInt8) (sv : Value) (s : Option (List UInt8)) (f : Bool) : Prop where
 hd : w.heap[pb]? = some (.cells #[.pointer (some ⟨rb, 0, none⟩), .bool f] 175 (0, 0))
 vr : VrS w rb l sv s
 lt : rb < pb
theorem RdS.plt {w : World} {pb rb : Nat} {l : List UInt8} {sv : Value} {s : Option (List UInt8)} {f : Bool} (h : RdS w pb rb l sv s f) : pb < w.heap.size := (Array.getElem?_eq_some_iff.1 h.hd).1
theorem RdS.c0 {w : World} {pb rb : Nat} {l : List UInt8} {sv : Value} {s : Option (List UInt8)} {f : Bool} (h : RdS w pb rb l sv s f) : w.cell? ⟨pb, 0, none⟩ = some (.pointer (some ⟨rb, 0, none⟩)) := by rw [cell_of_row w _ 0 _ _ _ h.hd]; rfl
theorem RdS.c1 {w : World} {pb rb : Nat} {l : List UInt8} {sv : Value} {s : Option (List UInt8)} {f : Bool} (h : RdS w pb rb l sv s f) : w.cell? ⟨pb, 1, none⟩ = some (.bool f) ∧ w.frozen? ⟨pb, 1, none⟩ = false := ⟨by rw [cell_of_row w _ 1 _ _ _ h.hd]; rfl, by rw [frozen_of_row w _ 1 _ _ h.hd]⟩
theorem RdS.below {w w' : World} {pb rb : Nat} {l : List UInt8} {sv : Value} {s : Option (List UInt8)} {f : Bool} (h : RdS w pb rb l sv s f) (hb : Below w.heap.size w w') : RdS w' pb rb l sv s f := ⟨(hb.block _ h.plt).trans h.hd, h.vr.below hb, h.lt⟩
theorem RdS.step {w w' : World} {pb rb : Nat} {l : List UInt8} {sv : Value} {s s' : Option (List UInt8)} {f : Bool} (h : RdS w pb rb l sv s f) (hv : VrS w' rb l sv s') (hg : Rg rb w w') : RdS w' pb rb l sv s' f := ⟨(hg.keep _ h.plt (by have := h.lt; omega)).trans h.hd, hv, h.lt⟩
theorem RdS.keep {w w' : World} {pb rb : Nat} {l : List UInt8} {sv : Value} {s : Option (List UInt8)} {f : Bool} (h : RdS w pb rb l sv s f) (hk : ∀ b, b ≤ pb → w'.heap[b]? = w.heap[b]?) : RdS w' pb rb l sv s f := ⟨(hk pb nl).trans h.hd, h.vr.keep (fun b hb => hk b (by have := h.lt; omega)), h.lt⟩
section
variable {W w w' : World} {pb rb gg : Nat} {l : List UInt8} {sv : Value} {f : Bool} {T : TypeId} {sts : List (Option (List UInt8))} {rows : List (Array Value)} {t : Nat} {vs : Nat → Value}
end
def AL (k t pb rb g : Nat) (l : List UInt8) (sv : Value) (s : Option (List UInt8)) (f : Bool) (w : World) (e : Ending) (w' : World) : Prop :=
 e = .returned (.tuple #[]) ∧ ∃ cs', w'.heap[g]? = some (.cells cs' 73 (0, 0)) ∧ aI w' (fun b => w.heap.size ≤ b) true (jD k t s f).1 (.agg cs') ∧ RdS w' pb rb l sv (jD k t s f).2.1 (jD k t s f).2.2 ∧ Rk (fun b => b = rb ∨ b = pb ∨ b = g) w w'
def DW (k fid : Nat) : Prop := ∀ (t pb rb g : Nat) (l : List UInt8) (sv : Value) (s : Option (List UInt8)) (f : Bool) (w : World), t < 18446744073709551616 → l.length ≤ 100000 → RdS w pb rb l sv s f → pb < g → w.heap[g]? = some (.cells #[.int .i64 (k : Nat), .int .u64 (t : Nat), .int .u64 0, .int .u64 0, .int .u64 0, .int .u64 0, .int .i64 0, .int .u64 0, .int .u64 0, .slice none 0 0, .slice none 0 0] 73 (0, 0)) →
 Calls Tryz.prog fid #[.pointer (some ⟨pb, 0, none⟩), .pointer (some ⟨g, 0, none⟩)] w (AL k t pb rb g l sv s f w)
theorem qJ (k : Nat) (hk : k = 1 ∨ k = 6 ∨ k = 7) : DW k 100 := by
 intro t pb rb g l sv s f w ht hl h hg hh
 have h1 : jD k t s f = (⟨k, t, 0, 0, 0, 0, .zero, []⟩, s, f) := by unfold jD; rw [if_neg (by omega), if_neg (by omega), if_neg (by omega), if_neg (by omega)]
 have H := hid (And.intro h1 (And.intro h hh))
 clear h1 h hh
 go_enter Tryz.func100, Tryz.ntmps100
 go_wp2_with fail
 go_end0
 refine ⟨rfl, _, H.out.2.2, ?_, ?_, Rk.refl _ _⟩
 ·rw [H.out.1]; exact dw w _ k t 0 0 0 0 (by omega) ht (by omega) (by omega) (by omega) (by omega)
 ·rw [H.out.1]; exact H.out.2.1
end Go.Proofs.YtlpgokcapdjgjaaGreatDoor
