/- Walks. -/
import Derived.Test.YtlpgokcapdjgjaaGreatDoorY43
import Derived.Test.YtlpgokcapdjgjaaGreatDoorY11
set_option maxHeartbeats 1000000
set_option maxRecDepth 100000
namespace Go.Proofs.YtlpgokcapdjgjaaGreatDoor
open Go.RowKit Go
set_option linter.unusedVariables false
set_option linter.unusedSimpArgs false
def Vr (w : World) (rb : Nat) (a : Nat) (e : Int) (l : List UInt8) (sv : Value) : Prop :=
 w.heap[rb]? = some (.cells #[.int .i64 a, .int .i64 e, sv] 227 (0, 0)) ∧ aF w (fun b => b < rb) false l sv ∧ a ≤ l.length ∧ l.length ≤ 1000000
theorem Vr.lt {w : World} {rb a : Nat} {e : Int} {l : List UInt8} {sv : Value} (h : Vr w rb a e l sv) : rb < w.heap.size := (Array.getElem?_eq_some_iff.1 h.1).1
theorem Vr.cells {w : World} {rb a : Nat} {e : Int} {l : List UInt8} {sv : Value} (h : Vr w rb a e l sv) : w.cell? ⟨rb, 0, none⟩ = some (.int .i64 a) ∧ w.cell? ⟨rb, 1, none⟩ = some (.int .i64 e) ∧ w.cell? ⟨rb, 2, none⟩ = some sv ∧ (∀ o, w.frozen? ⟨rb, o, none⟩ = false) :=
 ⟨by rw [cell_of_row w _ 0 _ _ _ h.1]; rfl, by rw [cell_of_row w _ 1 _ _ _ h.1]; rfl, by rw [cell_of_row w _ 2 _ _ _ h.1]; rfl, fun o => by rw [frozen_of_row w _ o _ _ h.1]⟩
theorem Vr.keep {w w' : World} {rb a : Nat} {e : Int} {l : List UInt8} {sv : Value} (h : Vr w rb a e l sv) (hk : ∀ b, b ≤ rb → w'.heap[b]? = w.heap[b]?) : Vr w' rb a e l sv :=
 ⟨(hk rb nl).trans h.1, Sl.keep h.2.1 (by omega) (fun b hb _ => hk b (by omega)) (fun _ _ h => h), h.2.2⟩
theorem Vr.below {w w' : World} {rb a : Nat} {e : Int} {l : List UInt8} {sv : Value} (h : Vr w rb a e l sv) (hb : Below w.heap.size w w') : Vr w' rb a e l sv :=
 h.keep fun b hb' => hb.block b (by have := h.lt; omega)
theorem Vr.set {w : World} {rb a a' : Nat} {e e' : Int} {l : List UInt8} {sv : Value} {w' : World} (h : Vr w rb a e l sv) (ha : a' ≤ l.length) (h1 : w'.heap[rb]? = some (.cells #[.int .i64 a', .int .i64 e', sv] 227 (0, 0))) (hk : ∀ b, b < rb → w'.heap[b]? = w.heap[b]?) : Vr w' rb a' e' l sv :=
 ⟨h1, Sl.keep h.2.1 (by omega) (fun b hb _ => hk b hb) (fun _ _ h => h), ha, h.2.2.2⟩
theorem Vr.fail {w : World} {rb a : Nat} {e : Int} {l : List UInt8} {sv : Value} (h : Vr w rb a e l sv) (e' : Int) : Vr (w.setCell ⟨rb, 1, none⟩ (.int .i64 e')) rb a e' l sv :=
 h.set h.2.2.1 (ae h.1 rfl) (fun b hb => Below.heap_setCell _ _ _ _ (by simp; omega))
theorem Vr.move {w : World} {rb a : Nat} {e : Int} {l : List UInt8} {sv : Value} (h : Vr w rb a e l sv) (a' : Nat) (ha : a' ≤ l.length) : Vr (w.setCell ⟨rb, 0, none⟩ (.int .i64 a')) rb a' e l sv :=
 h.set ha (ae h.1 rfl) (fun b hb => Below.heap_setCell _ _ _ _ (by simp; omega))
theorem qI (rb a : Nat) (e : Int) (l : List UInt8) (sv : Value) (w : World) (h : Vr w rb a e l sv) :
  Calls Tryz.prog 116 #[.pointer (some ⟨rb, 0, none⟩)] w fun r w' => r = .returned (.bool (e == 0)) ∧ w = w' := by
 obtain ⟨c0, c1, c2, f⟩ := h.cells
 clear h f
 go_enter Tryz.func116, Tryz.ntmps116
 go_wp2_with fail
 go_ret
 exact ⟨rfl, rfl⟩
theorem AJ (rb a : Nat) (e : Int) (l : List UInt8) (sv : Value) (w : World) (h : Vr w rb a e l sv) :
  Calls Tryz.prog 71 #[.pointer (some ⟨rb, 0, none⟩)] w fun r w' => r = .returned (.int .i64 e) ∧ w = w' := by
 obtain ⟨c0, c1, c2, f⟩ := h.cells
 clear h f
 go_enter Tryz.func71, Tryz.ntmps71
 go_wp2_with fail
 go_ret
 exact ⟨rfl, rfl⟩
theorem yB (rb a : Nat) (e : Int) (l : List UInt8) (sv : Value) (w : World) (h : Vr w rb a e l sv) :
  Calls Tryz.prog 72 #[.pointer (some ⟨rb, 0, none⟩)] w fun r w' => r = .returned (.int .i64 ((l.length : Int) - (a : Int))) ∧ ∃ n, w' = w.drewN n := by
 obtain ⟨c0, c1, c2, f⟩ := h.cells
 have ha := h.2.2
 obtain ⟨_, ad, cap, rfl, hc⟩ := h.2.1.shape
 clear h f
 go_enter Tryz.func72, Tryz.ntmps72
 go_wp2_with fail
 go_quiet (fail)
 go_wp2_with fail
 go_ret
 exact ⟨rfl, nq, rfl⟩
theorem wP (rb a : Nat) (e : Int) (l : List UInt8) (sv : Value) (w : World) (h : Vr w rb a 0 l sv) :
  Calls Tryz.prog 118 #[.pointer (some ⟨rb, 0, none⟩), .int .i64 e] w fun r w' => r = .returned (.tuple #[]) ∧ Vr w' rb a e l sv ∧ Rg rb w w' ∧ w'.heap.size = w.heap.size := by
 obtain ⟨c0, c1, c2, f⟩ := h.cells
 have f1 := f 1
 have H := hid h
 clear h f
 go_enter Tryz.func118, Tryz.ntmps118
 go_wp2_with fail
 go_end0
 exact ⟨rfl, H.out.fail e, (Rg.refl _ _).setCell _ _, by simp⟩
def Fv (rb a : Nat) (l : List UInt8) (sv : Value) (w : World) (r : Ending) (w' : World) : Prop :=
 ∃ (v a' : Nat) (e' : Int), r = .returned (.int .u64 v) ∧ v < 18446744073709551616 ∧ Vr w' rb a' e' l sv ∧ Rg rb w w' ∧ a ≤ a' ∧
  (e' = 0 → bB (l.drop a) = some (v, l.drop a')) ∧ (e' ≠ 0 → v = 0 ∧ a' = a ∧ bB (l.drop a) = none ∧ e' = fO (l.drop a))
theorem uY (rb a : Nat) (e : Int) (l : List UInt8) (sv : Value) (w : World) (h : Vr w rb a e l sv) (he : e ≠ 0) :
  Calls Tryz.prog 70 #[.pointer (some ⟨rb, 0, none⟩)] w fun r w' => r = .returned (.int .u64 0) ∧ w = w' := by
 have t : (e == 0) = false := by simpa using he
 have H := hid (qI rb a e l sv w h)
 clear h he
 go_enter Tryz.func70, Tryz.ntmps70
 go_wp2_with fail
 refine H.out.mono ?_
 rintro r w' ⟨rfl, rfl⟩
 go_wp2_with fail
 go_ret
 exact ⟨rfl, rfl⟩
theorem nC {l r : List UInt8} {n : Nat} (h : bB l = some (n, r)) : r = l.drop (l.length - r.length) := by
 obtain ⟨p, hp⟩ := nQ h
 rw [← hp]; simp
theorem uZ (rb a : Nat) (l : List UInt8) (sv : Value) (w : World) (h : Vr w rb a 0 l sv) :
  Calls Tryz.prog 70 #[.pointer (some ⟨rb, 0, none⟩)] w (Fv rb a l sv w) := by
 have hlt := h.lt
 obtain ⟨c0, c1, c2, f⟩ := h.cells
 have ha := h.2.2
 have HWl := hid (qI rb a 0 l sv w h)
 have HV := hid h
 obtain ⟨_, ad, cap, rfl, hc⟩ := h.2.1.shape
 clear h f
 go_enter Tryz.func70, Tryz.ntmps70
 go_wp2_with fail
 refine HWl.out.mono ?_
 rintro r w0 ⟨rfl, rfl⟩
 go_wp2_with fail
 have hbW : Below w.heap.size w w := br
 go_region_held3 (fun w' => w'.cell? ⟨rb, 0, none⟩ = some (.int .i64 a) ∧ w'.cell? ⟨rb, 2, none⟩ = some (.slice ad l.length cap))
  (first
   | exact ⟨(hbW.cell hlt).trans c0, (hbW.cell hlt).trans c2⟩
   | go_keep)
  (first
   | (go_at_call 117; go_fit (qH _ _ l _ a _ (HV.out.below (by first | exact hbW | exact hbW.drew)).2.1 ha.1 ha.2); rintro e w2 ⟨rfl, hb2⟩; unfold yA; replace hbW := (by first | exact hbW.trans (hb2.mono hbW.size) | exact hbW.drew.trans (hb2.mono hbW.size)); clear hb2))
 have hv2 := HV.out.below hbW
 have hlt2 := hv2.lt
 obtain ⟨k0, k1, k2, f⟩ := hv2.cells
 have f0 := f 0
 have HV2 := hid hv2
 have HB2 := hid hbW
 clear hv2 f hbW c0 c1 c2
 by_cases h0 : fO (l.drop a) = 0
 ·have t1 : (fO (l.drop a) != 0) = false := by simp [h0]
  obtain ⟨x, hx⟩ := Option.isSome_iff_exists.1 ((ib _).1 h0)
  obtain ⟨v, r⟩ := x
  have hr : r = l.drop (iQ a (l.drop a)) ∧ a ≤ iQ a (l.drop a) ∧ iQ a (l.drop a) ≤ l.length := by
   have h1 := nC hx
   have h2 := pF hx
   have h3 : iQ a (l.drop a) = a + ((l.drop a).length - r.length) := by unfold iQ; rw [hx]
   refine ⟨?_, by omega, ?_⟩
   ·rw [h3, ← List.drop_drop]; exact h1
   ·rw [h3]; simp; omega
  have hn : uj (l.drop a) = v := by unfold uj; rw [hx]
  have hv := ui hx
  have HR := hid (And.intro hx hr)
  rw [hn]
  have hr2 := hr.2.2
  generalize iQ a (l.drop a) = a' at HR hr2 ⊢
  clear h0 hx hr hn
  go_wp2_with fail
  go_ret
  exact ⟨v, a', 0, rfl, hv, HV2.out.move a' hr2, (Rg.of_below HB2.out).setCell _ _, HR.out.2.2.1, fun _ => by rw [HR.out.1, ← HR.out.2.1], fun h => absurd rfl h⟩
 ·have t1 : (fO (l.drop a) != 0) = true := by simp [h0]
  have hn : bB (l.drop a) = none := by
   cases hv : bB (l.drop a) with
   | none => rfl
   | some x => exact absurd ((ib _).2 (by rw [hv]; rfl)) h0
  have H0 := hid (And.intro h0 hn)
  obtain ⟨c, hc⟩ : ∃ c, c = fO (l.drop a) := ⟨_, rfl⟩
  rw [← hc] at t1 ⊢
  have HC := hid hc
  clear h0 hn hc
  go_wp2_with fail
  refine (wP rb a c l _ _ HV2.out).mono ?_
  rintro r w3 ⟨rfl, hv3, hg3, hz3⟩
  go_wp2_with fail
  go_ret
  exact ⟨0, a, c, rfl, by omega, hv3, (Rg.of_below HB2.out).trans hg3, Nat.le_refl _, fun h => absurd (HC.out.symm.trans h) H0.out.1, fun _ => ⟨rfl, rfl, H0.out.2, HC.out⟩⟩
theorem yC (S : Nat → Prop) (own : Bool) (l : List UInt8) (v : Value) (w : World) (hr : aF w S own l v) (hl : l.length ≤ 1000000) :
  Calls Tryz.prog 69 #[v] w fun e w' => ∃ rb sv, e = .returned (.pointer (some ⟨rb, 0, none⟩)) ∧ Vr w' rb 0 0 l sv ∧ w.heap.size ≤ rb ∧ Below w.heap.size w w' := by
 have HC := hid (fI S own l v w hr (by omega))
 clear hr
 go_enter Tryz.func69, Tryz.ntmps69
 go_wp2_with fail
 refine HC.out.mono ?_
 rintro e w1 ⟨v1, rfl, hown1, hb1⟩
 have HO := hid (And.intro hown1 hb1)
 obtain ⟨sa, sc, rfl⟩ := au hown1
 clear hown1 hb1
 go_wp2_with fail
 go_ret
 have hs := HO.out.2.size
 refine ⟨w1.heap.size, _, rfl, ⟨aa _ _ _ rfl, ?_, by omega, hl⟩, hs, HO.out.2.alloc hs _⟩
 have hlt := HO.out.1.lt
 exact Sl.keep ((Sl.of_owns HO.out.1 (by omega)).unown) (by omega) (fun b hb hbl => ai _ _ _ hbl) (fun b hb h => hb)
end Go.Proofs.YtlpgokcapdjgjaaGreatDoor
