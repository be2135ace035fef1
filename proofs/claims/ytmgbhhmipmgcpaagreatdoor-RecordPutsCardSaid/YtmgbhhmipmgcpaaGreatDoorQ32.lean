/- Walks. -/
import Derived.Test.YtmgbhhmipmgcpaaGreatDoorQ35
import Derived.Laws.EntriesVeiled
import Derived.WalkLawsBesides
set_option maxHeartbeats 1000000
set_option maxRecDepth 20000
namespace Go.Proofs.YtmgbhhmipmgcpaaGreatDoor
open Go.RowKit Go
set_option linter.unusedVariables false
set_option linter.unusedSimpArgs false
theorem nO (d : Nat) : ∀ (S : Nat → Prop) (own : Bool) (e : Ex) (v : Value) (w : World), e.depth ≤ d → d ≤ 1000 → av w S own e v →
  Calls Tryz.prog 96 #[v] w fun r w' => r = .returned (.int .i64 e.depth) ∧ Below w.heap.size w w' := by
 induction d with
 | zero => intro S own e v w hd; cases e; simp [Ex.depth] at hd
 | succ d ih =>
  intro S own e v w hd hd2 hrep
  obtain ⟨k, a, b, ps⟩ := e
  simp only [av] at hrep
  obtain ⟨s, xs, rfl, hk1, hk2, ha, hb, hs, hes⟩ := hrep
  obtain ⟨hxl, hlen, ad, cap, rfl, hcap⟩ := hs.shape
  have IH := hid ih
  clear ih
  have HXL := hid hxl
  clear hxl
  simp only [Ex.depth] at hd ⊢
  go_enter Tryz.func96, Tryz.ntmps96
  go_wp2_with fail
  go_loopw [3, 4] (fun n i wr => ∃ j : Nat, j ≤ ps.length ∧ i = .int .i64 j ∧ n = .int .i64 (Ex.depths (ps.take j)) ∧ Below (w.heap.size + 1) (w.alloc (.cells #[.int .i64 k, .int .u64 a, .int .u64 b, .slice ad ps.length cap] 34)) wr) (fun _ i _ => ps.length - (intOf i).toNat)
  case atStart => exact ⟨0, by omega, rfl, by simp [Ex.depths], br⟩
  case round =>
   obtain ⟨j, hj, rfl, rfl, hbel⟩ := hrel
   have hbox : ∀ o, wr.cell? ⟨w.heap.size, o, none⟩ = (w.alloc (.cells #[.int .i64 k, .int .u64 a, .int .u64 b, .slice ad ps.length cap] _)).cell? ⟨w.heap.size, o, none⟩ := fun o => hbel.cell (by simp)
   have hsz : w.heap.size + 1 ≤ wr.heap.size := by have := hbel.size; simpa using this
   have hb0 : Below w.heap.size w wr := (br.alloc nl _).trans (hbel.mono (by simp))
   by_cases hlt : j < ps.length
   ·obtain ⟨bl, off, k', a', b', ad', n', cap', rfl, _, g0, g1, g2, g3, _, ge⟩ := (hes.below hb0 nl).part (hs.below (by omega) hb0 nl) j hlt
    have hdj := Ex.depths_ge ps j hlt
    have hdt := Ex.depths_take_le ps j
    have HT := hid (Ex.depths_take ps j hlt)
    go_wp2_with (go_at_call 96; refine (IH.out _ _ ps[j] _ _ (by omega) (by omega) ge).mono ?_; rintro e w' ⟨rfl, hb1⟩)
    go_roundw
    case rel => exact ⟨j + 1, by omega, by go_num, by rw [HT.out]; go_num, hbel.trans (hb1.mono (by omega))⟩
    case measure => simp [intOf]; omega
   ·have hj2 : j = ps.length := by omega
    subst hj2
    go_wp2_with fail
    go_ret
    exact ⟨by simp, hb0⟩
theorem nP (d : Nat) : ∀ (S : Nat → Prop) (own : Bool) (e : Ex) (v : Value) (w : World), e.size ≤ d → d ≤ 1000 → av w S own e v →
  Calls Tryz.prog 97 #[v] w fun r w' => r = .returned (.int .i64 e.size) ∧ Below w.heap.size w w' := by
 induction d with
 | zero => intro S own e v w hd; have := e.size_pos; omega
 | succ d ih =>
  intro S own e v w hd hd2 hrep
  obtain ⟨k, a, b, ps⟩ := e
  simp only [av] at hrep
  obtain ⟨s, xs, rfl, hk1, hk2, ha, hb, hs, hes⟩ := hrep
  obtain ⟨hxl, hlen, ad, cap, rfl, hcap⟩ := hs.shape
  have IH := hid ih
  clear ih
  have HXL := hid hxl
  clear hxl
  simp only [Ex.size] at hd ⊢
  go_enter Tryz.func97, Tryz.ntmps97
  go_wp2_with fail
  go_loopw [3, 4] (fun n i wr => ∃ j : Nat, j ≤ ps.length ∧ i = .int .i64 j ∧ n = .int .i64 (Ex.sizes (ps.take j) + 1) ∧ Below (w.heap.size + 1) (w.alloc (.cells #[.int .i64 k, .int .u64 a, .int .u64 b, .slice ad ps.length cap] 34)) wr) (fun _ i _ => ps.length - (intOf i).toNat)
  case atStart => exact ⟨0, by omega, rfl, by simp [Ex.sizes], br⟩
  case round =>
   obtain ⟨j, hj, rfl, rfl, hbel⟩ := hrel
   have hbox : ∀ o, wr.cell? ⟨w.heap.size, o, none⟩ = (w.alloc (.cells #[.int .i64 k, .int .u64 a, .int .u64 b, .slice ad ps.length cap] _)).cell? ⟨w.heap.size, o, none⟩ := fun o => hbel.cell (by simp)
   have hsz : w.heap.size + 1 ≤ wr.heap.size := by have := hbel.size; simpa using this
   have hb0 : Below w.heap.size w wr := (br.alloc nl _).trans (hbel.mono (by simp))
   by_cases hlt : j < ps.length
   ·obtain ⟨bl, off, k', a', b', ad', n', cap', rfl, _, g0, g1, g2, g3, _, ge⟩ := (hes.below hb0 nl).part (hs.below (by omega) hb0 nl) j hlt
    have hdj := Ex.sizes_ge ps j hlt
    have HT := hid (Ex.sizes_take ps j hlt)
    go_wp2_with (go_at_call 97; refine (IH.out _ _ ps[j] _ _ (by omega) (by omega) ge).mono ?_; rintro e w' ⟨rfl, hb1⟩)
    go_roundw
    case rel => exact ⟨j + 1, by omega, by go_num, by rw [HT.out]; exact congrArg _ (by omega), hbel.trans (hb1.mono (by omega))⟩
    case measure => simp [intOf]; omega
   ·have hj2 : j = ps.length := by omega
    subst hj2
    go_wp2_with fail
    go_ret
    exact ⟨by simp, hb0⟩
theorem mr (d : Nat) : ∀ (S : Nat → Prop) (own : Bool) (e : Ex) (v : Value) (w : World), e.depth ≤ d → d ≤ 1000 → av w S own e v →
  Calls Tryz.prog 93 #[v] w fun r w' => r = .returned (.int .i64 e.depth) ∧ Below w.heap.size w w' := by
 induction d with
 | zero => intro S own e v w hd; cases e; simp [Ex.depth] at hd
 | succ d ih =>
  intro S own e v w hd hd2 hrep
  obtain ⟨k, a, b, ps⟩ := e
  simp only [av] at hrep
  obtain ⟨s, xs, rfl, hk1, hk2, ha, hb, hs, hes⟩ := hrep
  obtain ⟨hxl, hlen, ad, cap, rfl, hcap⟩ := hs.shape
  have IH := hid ih
  clear ih
  have HXL := hid hxl
  clear hxl
  simp only [Ex.depth] at hd ⊢
  go_enter Tryz.func93, Tryz.ntmps93
  go_wp2_with fail
  go_loopw [3, 9] (fun n i wr => ∃ j : Nat, j ≤ ps.length ∧ i = .int .i64 j ∧ n = .int .i64 (Ex.depths (ps.take j)) ∧ Below (w.heap.size + 1) (w.alloc (.cells #[.int .i64 k, .int .u64 a, .int .u64 b, .slice ad ps.length cap] 44)) wr) (fun _ i _ => ps.length - (intOf i).toNat)
  case atStart => exact ⟨0, by omega, rfl, by simp [Ex.depths], br⟩
  case round =>
   obtain ⟨j, hj, rfl, rfl, hbel⟩ := hrel
   have hbox : ∀ o, wr.cell? ⟨w.heap.size, o, none⟩ = (w.alloc (.cells #[.int .i64 k, .int .u64 a, .int .u64 b, .slice ad ps.length cap] _)).cell? ⟨w.heap.size, o, none⟩ := fun o => hbel.cell (by simp)
   have hsz : w.heap.size + 1 ≤ wr.heap.size := by have := hbel.size; simpa using this
   have hb0 : Below w.heap.size w wr := (br.alloc nl _).trans (hbel.mono (by simp))
   by_cases hlt : j < ps.length
   ·obtain ⟨bl, off, k', a', b', ad', n', cap', rfl, _, g0, g1, g2, g3, _, ge⟩ := (hes.below hb0 nl).part (hs.below (by omega) hb0 nl) j hlt
    have hdj := Ex.depths_ge ps j hlt
    have hdt := Ex.depths_take_le ps j
    have HT := hid (Ex.depths_take ps j hlt)
    go_wp2_with (go_at_call 93; refine (IH.out _ _ ps[j] _ _ (by omega) (by omega) (ge.below (br.alloc nl _) nl)).mono ?_; rintro e w' ⟨rfl, hb1⟩)
    go_roundw
    case rel => exact ⟨j + 1, by omega, by go_num, by rw [HT.out]; go_num, (hbel.alloc (by omega) _).trans (hb1.mono (by simp; omega))⟩
    case measure => simp [intOf]; omega
   ·have hj2 : j = ps.length := by omega
    subst hj2
    go_wp2_with fail
    go_ret
    exact ⟨by simp, hb0⟩
theorem mD (d : Nat) : ∀ (S : Nat → Prop) (own : Bool) (e : Ex) (v : Value) (w : World), e.size ≤ d → d ≤ 1000 → av w S own e v →
  Calls Tryz.prog 94 #[v] w fun r w' => r = .returned (.int .i64 e.size) ∧ Below w.heap.size w w' := by
 induction d with
 | zero => intro S own e v w hd; have := e.size_pos; omega
 | succ d ih =>
  intro S own e v w hd hd2 hrep
  obtain ⟨k, a, b, ps⟩ := e
  simp only [av] at hrep
  obtain ⟨s, xs, rfl, hk1, hk2, ha, hb, hs, hes⟩ := hrep
  obtain ⟨hxl, hlen, ad, cap, rfl, hcap⟩ := hs.shape
  have IH := hid ih
  clear ih
  have HXL := hid hxl
  clear hxl
  simp only [Ex.size] at hd ⊢
  go_enter Tryz.func94, Tryz.ntmps94
  go_wp2_with fail
  go_loopw [3, 9] (fun n i wr => ∃ j : Nat, j ≤ ps.length ∧ i = .int .i64 j ∧ n = .int .i64 (Ex.sizes (ps.take j) + 1) ∧ Below (w.heap.size + 1) (w.alloc (.cells #[.int .i64 k, .int .u64 a, .int .u64 b, .slice ad ps.length cap] 44)) wr) (fun _ i _ => ps.length - (intOf i).toNat)
  case atStart => exact ⟨0, by omega, rfl, by simp [Ex.sizes], br⟩
  case round =>
   obtain ⟨j, hj, rfl, rfl, hbel⟩ := hrel
   have hbox : ∀ o, wr.cell? ⟨w.heap.size, o, none⟩ = (w.alloc (.cells #[.int .i64 k, .int .u64 a, .int .u64 b, .slice ad ps.length cap] _)).cell? ⟨w.heap.size, o, none⟩ := fun o => hbel.cell (by simp)
   have hsz : w.heap.size + 1 ≤ wr.heap.size := by have := hbel.size; simpa using this
   have hb0 : Below w.heap.size w wr := (br.alloc nl _).trans (hbel.mono (by simp))
   by_cases hlt : j < ps.length
   ·obtain ⟨bl, off, k', a', b', ad', n', cap', rfl, _, g0, g1, g2, g3, _, ge⟩ := (hes.below hb0 nl).part (hs.below (by omega) hb0 nl) j hlt
    have hdj := Ex.sizes_ge ps j hlt
    have HT := hid (Ex.sizes_take ps j hlt)
    go_wp2_with (go_at_call 94; refine (IH.out _ _ ps[j] _ _ (by omega) (by omega) (ge.below (br.alloc nl _) nl)).mono ?_; rintro e w' ⟨rfl, hb1⟩)
    go_roundw
    case rel => exact ⟨j + 1, by omega, by go_num, by rw [HT.out]; exact congrArg _ (by omega), (hbel.alloc (by omega) _).trans (hb1.mono (by simp; omega))⟩
    case measure => simp [intOf]; omega
   ·have hj2 : j = ps.length := by omega
    subst hj2
    go_wp2_with fail
    go_ret
    exact ⟨by simp, hb0⟩
def leftOf (left : Int) (n : Nat) : Int := if (n : Int) ≤ left then left - n else -1
theorem rq (left : Int) (n m : Nat) (h : 0 ≤ leftOf left n) : leftOf (leftOf left n) m = leftOf left (n + m) := by
 by_cases h1 : (n : Int) ≤ left
 ·have h2 : leftOf left n = left - n := if_pos h1
  rw [h2]; unfold leftOf; split <;> split <;> omega
 ·have h2 : leftOf left n = -1 := if_neg h1
  omega
theorem ru (left : Int) (n m : Nat) (h : ¬ 0 ≤ leftOf left n) (hm : n ≤ m) : leftOf left n = leftOf left m := by
 unfold leftOf at *
 split at h
 ·omega
 ·rw [if_neg (by assumption), if_neg (by omega)]
theorem nQ (left : Int) (n : Nat) (h : 0 ≤ left) : -1 ≤ leftOf left n ∧ leftOf left n ≤ left := by unfold leftOf; split <;> omega
theorem nR (d : Nat) : ∀ (S : Nat → Prop) (own : Bool) (e : Ex) (v : Value) (left : Int) (w : World), e.depth ≤ d → 0 ≤ left → left ≤ 60 → av w S own e v →
  Calls Tryz.prog 75 #[v, .int .i64 left] w fun r w' => r = .returned (.int .i64 (leftOf left e.size)) ∧ Below w.heap.size w w' := by
 induction d with
 | zero => intro S own e v left w hd; cases e; simp [Ex.depth] at hd
 | succ d ih =>
  intro S own e v left w hd hl0 hl1 hrep
  obtain ⟨k, a, b, ps⟩ := e
  simp only [av] at hrep
  obtain ⟨s, xs, rfl, hk1, hk2, ha, hb, hs, hes⟩ := hrep
  obtain ⟨hxl, hlen, ad, cap, rfl, hcap⟩ := hs.shape
  have IH := hid ih
  clear ih
  have HXL := hid hxl
  clear hxl
  simp only [Ex.depth, Ex.size] at hd ⊢
  go_enter Tryz.func75, Tryz.ntmps75
  go_wp2_with fail
  go_loopw [1, 5] (fun n i wr => ∃ j : Nat, j ≤ ps.length ∧ i = .int .i64 j ∧ (∃ m : Int, m = leftOf left (Ex.sizes (ps.take j) + 1) ∧ n = .int .i64 m) ∧ Below (w.heap.size + 1) (w.alloc (.cells #[.int .i64 k, .int .u64 a, .int .u64 b, .slice ad ps.length cap] 44)) wr) (fun _ i _ => ps.length - (intOf i).toNat)
  case atStart => exact ⟨0, by omega, rfl, ⟨_, by simp [Ex.sizes, leftOf]; omega, rfl⟩, br⟩
  case round =>
   obtain ⟨j, hj, rfl, ⟨m, hm, rfl⟩, hbel⟩ := hrel
   have hbox : ∀ o, wr.cell? ⟨w.heap.size, o, none⟩ = (w.alloc (.cells #[.int .i64 k, .int .u64 a, .int .u64 b, .slice ad ps.length cap] _)).cell? ⟨w.heap.size, o, none⟩ := fun o => hbel.cell (by simp)
   have hsz : w.heap.size + 1 ≤ wr.heap.size := by have := hbel.size; simpa using this
   have hb0 : Below w.heap.size w wr := (br.alloc nl _).trans (hbel.mono (by simp))
   have hr := nQ left (Ex.sizes (ps.take j) + 1) hl0
   rw [← hm] at hr
   by_cases hlt : j < ps.length
   ·have hsj := Ex.sizes_ge ps j hlt
    by_cases h0 : 0 ≤ m
    ·obtain ⟨bl, off, k', a', b', ad', n', cap', rfl, _, g0, g1, g2, g3, _, ge⟩ := (hes.below hb0 nl).part (hs.below (by omega) hb0 nl) j hlt
     have hdj := Ex.depths_ge ps j hlt
     have HT := hid (Ex.sizes_take ps j hlt)
     have HM := hid hm
     clear hm
     go_wp2_with (go_at_call 75; refine (IH.out _ _ ps[j] _ _ _ (by omega) h0 (by omega) ge).mono ?_; rintro e w' ⟨rfl, hb1⟩)
     go_roundw
     case rel => exact ⟨j + 1, by omega, by go_num, ⟨_, by rw [HT.out, HM.out, rq _ _ _ (by rw [← HM.out]; exact h0)]; congr 1; omega, rfl⟩, hbel.trans (hb1.mono (by omega))⟩
     case measure => simp [intOf]; omega
    ·have hfin : m = leftOf left (Ex.sizes ps + 1) := by rw [hm]; exact ru _ _ _ (by rw [← hm]; exact h0) (by omega)
     have HF := hid hfin
     clear hfin hm
     go_wp2_with fail
     go_ret
     exact ⟨sZ HF.out, hb0⟩
   ·have hj2 : j = ps.length := by omega
    subst hj2
    have HM := hid hm
    clear hm
    go_wp2_with fail
    go_ret
    exact ⟨sZ (by rw [HM.out]; simp), hb0⟩
theorem ry (S : Nat → Prop) (own : Bool) (e : Ex) (v : Value) (w : World) (hrep : av w S own e v) :
  Calls Tryz.prog 44 #[v] w fun r w' => r = .returned (.bool (decide (e.size ≤ 60))) ∧ Below w.heap.size w w' := by
 obtain ⟨c0, c1, c2, c3, rfl⟩ := hrep.four
 go_enter Tryz.func44, Tryz.ntmps44
 go_wp2_with fail
 refine (nR e.depth _ _ e _ 60 _ nl (by omega) (by omega) (hrep.below (br.alloc nl _) nl)).mono ?_
 rintro e' w' ⟨rfl, hb1⟩
 have hb0 : Below w.heap.size w w' := (br.alloc nl _).trans (hb1.mono (by simp))
 by_cases h : e.size ≤ 60
 ·have hl : leftOf 60 e.size = 60 - e.size := by unfold leftOf; rw [if_pos (by omega)]
  rw [hl]
  go_wp2_with fail
  go_ret
  exact ⟨aj (by simp [h]; omega), hb0⟩
 ·have hl : leftOf 60 e.size = -1 := by unfold leftOf; rw [if_neg (by omega)]
  rw [hl]
  go_wp2_with fail
  go_ret
  exact ⟨aj (by simp [h]), hb0⟩
theorem pV (k : Int) (a b n : Nat) (ad : Option Addr) (cap : Nat) (w : World) (hk1 : -9223372036854775808 ≤ k) (hk2 : k ≤ 9223372036854775807) (ha : a < 18446744073709551616) (hb : b < 18446744073709551616) (hn : n ≤ 9223372036854775807) :
  Calls Tryz.prog 152 #[.agg #[.int .i64 k, .int .u64 a, .int .u64 b, .slice ad n cap]] w fun e w' => e = .returned (.bool (dI k a b n)) ∧ Below w.heap.size w w' := by
 go_enter Tryz.func152, Tryz.ntmps152
 go_wp2
 all_goals (go_ret; exact ⟨aj (by first | (simp_all [dI, vk, vv]; done) | (simp_all [dI, vk, vv]; omega)), br.alloc nl _⟩)
theorem nS (d : Nat) : ∀ (S : Nat → Prop) (own : Bool) (e : Ex) (v : Value) (w : World), e.depth ≤ d → d ≤ 1000 → av w S own e v →
  Calls Tryz.prog 95 #[v] w fun r w' => r = .returned (.bool e.okR) ∧ Below w.heap.size w w' := by
 induction d with
 | zero => intro S own e v w hd; cases e; simp [Ex.depth] at hd
 | succ d ih =>
  intro S own e v w hd hd2 hrep
  obtain ⟨k, a, b, ps⟩ := e
  simp only [av] at hrep
  obtain ⟨s, xs, rfl, hk1, hk2, ha, hb, hs, hes⟩ := hrep
  obtain ⟨hxl, hlen, ad, cap, rfl, hcap⟩ := hs.shape
  have IH := hid ih
  clear ih
  have HXL := hid hxl
  clear hxl
  simp only [Ex.depth, Ex.okR] at hd ⊢
  go_enter Tryz.func95, Tryz.ntmps95
  go_wp2_with fail
  go_loopw [3] (fun i wr => ∃ j : Nat, j ≤ ps.length ∧ i = .int .i64 j ∧ Hid (Ex.okRs (ps.take j) = true) ∧ Below (w.heap.size + 1) (w.alloc (.cells #[.int .i64 k, .int .u64 a, .int .u64 b, .slice ad ps.length cap] 34)) wr) (fun i _ => ps.length - (intOf i).toNat)
  case atStart => exact ⟨0, by omega, rfl, hid (by simp [Ex.okRs]), br⟩
  case round =>
   obtain ⟨j, hj, rfl, hok, hbel⟩ := hrel
   have hbox : ∀ o, wr.cell? ⟨w.heap.size, o, none⟩ = (w.alloc (.cells #[.int .i64 k, .int .u64 a, .int .u64 b, .slice ad ps.length cap] _)).cell? ⟨w.heap.size, o, none⟩ := fun o => hbel.cell (by simp)
   have hsz : w.heap.size + 1 ≤ wr.heap.size := by have := hbel.size; simpa using this
   have hb0 : Below w.heap.size w wr := (br.alloc nl _).trans (hbel.mono (by simp))
   by_cases hlt : j < ps.length
   ·obtain ⟨bl, off, k', a', b', ad', n', cap', rfl, _, g0, g1, g2, g3, _, ge⟩ := (hes.below hb0 nl).part (hs.below (by omega) hb0 nl) j hlt
    have hdj := Ex.depths_ge ps j hlt
    go_wp2_with fail
    refine (IH.out _ _ ps[j] _ _ (by omega) (by omega) ge).mono ?_
    rintro e w' ⟨rfl, hb1⟩
    by_cases hc : ps[j].okR = true
    ·rw [hc]
     have HT : Hid (Ex.okRs (ps.take (j + 1)) = true) := hid (by rw [Ex.okRs_take ps j hlt, hok.out, hc]; rfl)
     clear hc
     go_wp2_with fail
     go_roundw
     case rel => exact ⟨j + 1, by omega, by go_num, HT, hbel.trans (hb1.mono (by omega))⟩
     case measure => simp [intOf]; omega
    ·have hc' : ps[j].okR = false := by simpa using hc
     rw [hc']
     have HF := hid (Ex.okRs_false ps j hlt hc')
     clear hc hc'
     go_wp2_with fail
     go_ret
     exact ⟨aj (by rw [HF.out]; simp), hb0.trans (hb1.mono (by omega))⟩
   ·have hj2 : j = ps.length := by omega
    subst hj2
    go_wp2_with fail
    refine (pV k a b ps.length ad cap _ hk1 hk2 ha hb hlen).mono ?_
    rintro e w' ⟨rfl, hb1⟩
    go_wp2_with fail
    go_ret
    exact ⟨aj (by have := hok.out; rw [List.take_length] at this; rw [this]; simp), hb0.trans (hb1.mono (by omega))⟩
theorem dV (S : Nat → Prop) (own : Bool) (e : Ex) (v : Value) (w : World) (hsz : e.size ≤ 900) (hrep : av w S own e v) :
  Calls Tryz.prog 56 #[v] w fun r w' => r = .returned (.bool e.right) ∧ Below w.heap.size w w' := by
 have hds := e.depth_le_size
 obtain ⟨c0, c1, c2, c3, rfl⟩ := hrep.four
 have hb0 : Below w.heap.size w (w.alloc (.cells #[c0, c1, c2, c3] 34)) := br.alloc nl _
 go_enter Tryz.func56, Tryz.ntmps56
 go_wp2_with fail
 refine (nS e.depth _ _ e _ _ nl (by omega) (hrep.below hb0 nl)).mono ?_
 rintro e1 w1 ⟨rfl, hb1⟩
 have hb2 : Below w.heap.size w w1 := hb0.trans (hb1.mono (by simp))
 have hbox : ∀ o, w1.cell? ⟨w.heap.size, o, none⟩ = (w.alloc (.cells #[c0, c1, c2, c3] 34)).cell? ⟨w.heap.size, o, none⟩ := fun o => hb1.cell (by simp)
 have hsz1 : w.heap.size + 1 ≤ w1.heap.size := by have := hb1.size; simpa using this
 by_cases h1 : e.okR = true
 ·rw [h1]
  go_wp2_with fail
  refine (nO e.depth _ _ e _ _ nl (by omega) (hrep.below hb2 nl)).mono ?_
  rintro e2 w2 ⟨rfl, hb3⟩
  have hb4 : Below w.heap.size w w2 := hb2.trans (hb3.mono (by omega))
  have hbox2 : ∀ o, w2.cell? ⟨w.heap.size, o, none⟩ = (w.alloc (.cells #[c0, c1, c2, c3] 34)).cell? ⟨w.heap.size, o, none⟩ := fun o => (hb3.cell (by show w.heap.size < _; omega)).trans (hbox o)
  clear hbox
  have hsz2 : w1.heap.size ≤ w2.heap.size := hb3.size
  by_cases h2 : e.depth ≤ 8
  ·have h2' : decide ((e.depth : Int) ≤ 8) = true := by simp; omega
   go_wp2_with fail
   refine (nP e.size _ _ e _ _ nl (by omega) (hrep.below hb4 nl)).mono ?_
   rintro e3 w3 ⟨rfl, hb5⟩
   clear h2'
   go_wp2_with fail
   go_ret
   exact ⟨aj (by simp [Ex.right, h1, h2]; omega), hb4.trans (hb5.mono (by omega))⟩
  ·have h2' : decide ((e.depth : Int) ≤ 8) = false := by simp; omega
   go_wp2_with fail
   go_ret
   exact ⟨aj (by simp [Ex.right, h1, h2]), hb4⟩
 ·have h1' : e.okR = false := by simpa using h1
  rw [h1']
  go_wp2_with fail
  go_ret
  exact ⟨aj (by simp [Ex.right, h1']), hb2⟩
def bC (n : Int) : Int := if n = 2 then 1 else if n = 3 then 1 else if n = 4 then 2 else 0
def bi (n : Int) : Int := if n = 5 then 1 else 0
def bK (n : Int) : Int := if n = 5 then 1 else if n = 6 then 32 else if n = 7 then 32 else 0
def fD (n : Int) (blk : Nat) : Value :=
 if n = 1 then .func (.func 206) #[] #[] else if n = 2 then .func (.func 207) #[] #[] else if n = 3 then .func (.func 208) #[] #[]
 else if n = 4 then .func (.func 209) #[] #[] else if n = 5 then .func (.func 210) #[] #[.pointer (some ⟨blk, 0, none⟩)]
 else if n = 6 then .func (.func 211) #[] #[.pointer (some ⟨blk, 0, none⟩)] else .func (.func 212) #[] #[.pointer (some ⟨blk, 0, none⟩)]
def nT (n : Int) (w : World) (e : Ending) (w' : World) : Prop :=
 (1 ≤ n ∧ n ≤ 7 → ∃ blk, w.heap.size ≤ blk ∧ w'.heap[blk]? = some (.cells #[.func (.func 203) #[] #[]] 261 (0, 0)) ∧
  e = .returned (.tuple #[.agg #[.int .i64 (bC n), .int .i64 (bi n), .int .i64 (bK n), fD n blk], .bool true])) ∧
 (¬ (1 ≤ n ∧ n ≤ 7) → e = .returned (.tuple #[.agg #[.int .i64 0, .int .i64 0, .int .i64 0, .nilFunc], .bool false])) ∧ Below w.heap.size w w'
def kT (blk : Nat) : Value := .agg #[.int .i64 0, .int .i64 0, .int .i64 0, .nilFunc,
 .int .i64 0, .int .i64 0, .int .i64 0, .func (.func 206) #[] #[],
 .int .i64 1, .int .i64 0, .int .i64 0, .func (.func 207) #[] #[],
 .int .i64 1, .int .i64 0, .int .i64 0, .func (.func 208) #[] #[],
 .int .i64 2, .int .i64 0, .int .i64 0, .func (.func 209) #[] #[],
 .int .i64 0, .int .i64 1, .int .i64 1, .func (.func 210) #[] #[.pointer (some ⟨blk, 0, none⟩)],
 .int .i64 0, .int .i64 0, .int .i64 32, .func (.func 211) #[] #[.pointer (some ⟨blk, 0, none⟩)],
 .int .i64 0, .int .i64 0, .int .i64 32, .func (.func 212) #[] #[.pointer (some ⟨blk, 0, none⟩)]]
theorem mE (w : World) : Calls Tryz.prog 174 #[] w fun e w' => e = .returned (kT (w.heap.size + 1)) ∧ Below w.heap.size w w' ∧
  w'.heap[w.heap.size + 1]? = some (.cells #[.func (.func 203) #[] #[]] 261 (0, 0)) ∧ w.heap.size + 1 < w'.heap.size := by
 go_enter Tryz.func174, Tryz.ntmps174
 go_wp2_with (refine wpList_store_row rfl 230 (.tmp 0) (.tmp 12) rfl rfl w.heap.size rfl _ rfl 230 #[.int .i64 0, .int .i64 0, .int .i64 0, .nilFunc, .int .i64 0, .int .i64 0, .int .i64 0, .nilFunc, .int .i64 0, .int .i64 0, .int .i64 0, .nilFunc, .int .i64 0, .int .i64 0, .int .i64 0, .nilFunc, .int .i64 0, .int .i64 0, .int .i64 0, .nilFunc, .int .i64 0, .int .i64 0, .int .i64 0, .nilFunc, .int .i64 0, .int .i64 0, .int .i64 0, .nilFunc, .int .i64 0, .int .i64 0, .int .i64 0, .nilFunc] (heap_alloc2_old _ _ _) (by kernel_rfl) rfl (by simp [Value.oneCell']) ?_)
 refine bodyPost_ret (v := kT (w.heap.size + 1)) (results_cell_row rfl _ _ w.heap.size 230 _ _ _ rfl (setRow_heap _ _ _ _ _ _ (heap_alloc2_old _ _ _)) Tryz.underlying230 rfl (by kernel_rfl)) rfl
  ⟨rfl, below_setRow ((br.alloc nl _).alloc (by simp) _) _ _ nl, ?_, ?_⟩
 ·rw [setRow_other _ _ _ _ (by omega)]; exact aa _ _ _ (by simp)
 ·simp
theorem vw (k : Nat) (h : 1 ≤ k ∧ k ≤ 7) (blk : Nat) (w : World) :
  (Instr.index 230 (kT blk) (.int .i64 k)).run Tryz.prog w = .ok (.agg #[.int .i64 (bC k), .int .i64 (bi k), .int .i64 (bK k), fD k blk]) w := by
 have hc : k = 1 ∨ k = 2 ∨ k = 3 ∨ k = 4 ∨ k = 5 ∨ k = 6 ∨ k = 7 := by omega
 rcases hc with rfl | rfl | rfl | rfl | rfl | rfl | rfl
 all_goals (show _ = _; kernel_rfl)
theorem kr (k : Int) (blk : Nat) : ∃ fn caps, fD k blk = .func fn #[] caps := by
 unfold fD
 repeat' split
 all_goals exact ⟨_, _, rfl⟩
theorem mF (w : World) : Calls Tryz.prog 174 #[] w fun e w' => ∃ T, e = .returned T ∧ (∀ (k : Nat), 1 ≤ k → k ≤ 7 → ∀ w'', ∃ fn caps, fD k (w.heap.size + 1) = .func fn #[] caps ∧
   (Instr.index 230 T (.int .i64 k)).run Tryz.prog w'' = .ok (.agg #[.int .i64 (bC k), .int .i64 (bi k), .int .i64 (bK k), .func fn #[] caps]) w'') ∧ Below w.heap.size w w' ∧
  w'.heap[w.heap.size + 1]? = some (.cells #[.func (.func 203) #[] #[]] 261 (0, 0)) ∧ w.heap.size + 1 < w'.heap.size :=
 (mE w).mono fun e w' ⟨he, h2, h3, h4⟩ => ⟨_, he, fun k h1 h7 w'' => by
  obtain ⟨fn, caps, hfn⟩ := kr k (w.heap.size + 1)
  exact ⟨fn, caps, hfn, by rw [← hfn]; exact vw k ⟨h1, h7⟩ _ w''⟩, h2, h3, h4⟩
theorem ui (k : Nat) (h1 : 1 ≤ k) (h7 : k ≤ 7) (w : World) : Calls Tryz.prog 149 #[.int .i64 k] w (nT k w) := by
 have hd1 : decide ((k : Int) < 1) = false := by simp; omega
 have hd2 : decide ((8 : Int) ≤ (k : Int)) = false := by simp; omega
 go_enter Tryz.func149, Tryz.ntmps149
 go_wp2_with fail
 refine (mF _).mono ?_
 rintro e w' ⟨T, rfl, hT, hb, hh, hz⟩
 have hi := hT k h1 h7
 clear hT
 simp only [World.size_alloc] at hi hh hz
 obtain ⟨hc, hf⟩ := jY hb
 have hz0 : w.heap.size < w'.heap.size := by omega
 have HH := hid hh
 clear hh
 obtain ⟨fn, caps, hfn, _⟩ := hi w
 have HF := hid hfn
 have hi2 : ∀ w'', (Instr.index 230 T (.int .i64 k)).run Tryz.prog w'' = .ok (.agg #[.int .i64 (bC k), .int .i64 (bi k), .int .i64 (bK k), .func fn #[] caps]) w'' := by
  intro w''
  obtain ⟨fn', caps', hfn', hr⟩ := hi w''
  rw [hfn] at hfn'
  simp only [Value.func.injEq, true_and] at hfn'
  obtain ⟨rfl, rfl⟩ := hfn'
  exact hr
 clear hfn hi
 go_wp2_with fail
 refine bodyPost_ret (v := .tuple #[.agg #[.int .i64 (bC k), .int .i64 (bi k), .int .i64 (bK k), .func fn #[] caps], .bool true]) (by simp [results, Tryz.results149, go_sem, hc, hz0]) rfl ⟨fun _ => ⟨w.heap.size + 1 + 1, by omega, ?_, by rw [HF.out]⟩, fun h => absurd (by omega) h, ?_⟩
 ·rw [Below.heap_setCell _ _ _ _ (by simp; omega), Below.heap_setCell _ _ _ _ (by simp; omega), Below.heap_setCell _ _ _ _ (by simp; omega), Below.heap_setCell _ _ _ _ (by simp; omega)]; exact HH.out
 ·exact ((((br.alloc nl _).trans (hb.mono (by simp))).setCell (by simp) _).setCell (by simp) _).setCell (by simp) _ |>.setCell (by simp) _
theorem rz (n : Int) (h : ¬ (1 ≤ n ∧ n ≤ 7)) (w : World) (h0 : -9223372036854775808 ≤ n) (h1 : n ≤ 9223372036854775807) : Calls Tryz.prog 149 #[.int .i64 n] w (nT n w) := by
 have hp : nT n w (.returned (.tuple #[.agg #[.int .i64 0, .int .i64 0, .int .i64 0, .nilFunc], .bool false])) (w.alloc (.cells #[.int .i64 0, .int .i64 0, .int .i64 0, .nilFunc] 203)) :=
  ⟨fun h' => absurd h' h, fun _ => rfl, br.alloc nl _⟩
 have HP := hid hp
 clear hp
 by_cases hn : n < 1
 ·clear h
  go_enter Tryz.func149, Tryz.ntmps149
  go_wp2_with fail
  exact bodyPost_ret (v := .tuple #[.agg #[.int .i64 0, .int .i64 0, .int .i64 0, .nilFunc], .bool false]) (by simp [results, Tryz.results149, go_sem]) rfl HP.out
 ·have h8 : 8 ≤ n := by omega
  clear h
  go_enter Tryz.func149, Tryz.ntmps149
  go_wp2_with fail
  exact bodyPost_ret (v := .tuple #[.agg #[.int .i64 0, .int .i64 0, .int .i64 0, .nilFunc], .bool false]) (by simp [results, Tryz.results149, go_sem]) rfl HP.out
theorem cz (n : Int) (w : World) (h0 : -9223372036854775808 ≤ n) (h1 : n ≤ 9223372036854775807) : Calls Tryz.prog 149 #[.int .i64 n] w (nT n w) := by
 by_cases h : 1 ≤ n ∧ n ≤ 7
 ·obtain ⟨k, rfl⟩ := Int.eq_ofNat_of_zero_le (show 0 ≤ n by omega)
  exact ui k (by omega) (by omega) w
 ·exact rz n h w h0 h1
def rA (w : World) (S : Nat → Prop) (own : Bool) (es : List Ex) (fid : Nat) (caps : Array Value) (p : Ex → Bool) : Prop :=
 ∀ i (h : i < es.length) (v : Value) (w' : World), Below w.heap.size w w' → av w' S own es[i] v → Calls Tryz.prog fid (#[v] ++ caps) w' fun e w'' => e = .returned (.bool (p es[i])) ∧ Below w'.heap.size w' w''
def Enters (fid : Nat) : Prop := ∀ (args : Array Value) (w : World), (callFunc fid args).run Tryz.prog w = .ok (.enter fid args) w
theorem kU {α : Type} (p : α → Bool) (l : List α) (k : Nat) (h : k < l.length) (h0 : (l.take k).any p = false) (h1 : p l[k] = false) : (l.take (k + 1)).any p = false := by
 rw [bI l k h, List.any_append, h0]; simp [h1]
theorem nU {α : Type} (p : α → Bool) (l : List α) (k : Nat) (h : k < l.length) (h1 : p l[k] = true) : l.any p = true :=
 List.any_eq_true.2 ⟨l[k], List.getElem_mem h, h1⟩
theorem pW (S : Nat → Prop) (own : Bool) (es : List Ex) (xs : List Value) (ad : Option Addr) (cap : Nat) (fid : Nat) (caps : Array Value) (p : Ex → Bool) (w : World)
  (hs : Sl w S own 4 es.length xs (.slice ad es.length cap)) (hes : au w S own es xs) (hcall : Enters fid) (hf : rA w S own es fid caps p) :
  Calls Tryz.prog 175 #[.slice ad es.length cap, .func (.func fid) #[] caps] w fun e w' => (∃ r : Int, e = .returned (.int .i64 r) ∧ -1 ≤ r ∧ r ≤ 9223372036854775807 ∧ decide (0 ≤ r) = es.any p) ∧ Below w.heap.size w w' := by
 have hlen := hs.2.1
 have HF := hid hf
 clear hf
 unfold Enters at hcall
 go_enter Tryz.func175, Tryz.ntmps175
 go_wp2_with fail
 go_loopw [5, 8] (fun _ i wr => ∃ j : Nat, j ≤ es.length ∧ i = .int .i64 j ∧ Hid ((es.take j).any p = false) ∧ Below w.heap.size w wr) (fun _ i _ => es.length - (intOf i).toNat)
 case atStart => exact ⟨0, by omega, rfl, hid (by simp), br⟩
 case round =>
  obtain ⟨j, hj, rfl, hno, hbel⟩ := hrel
  by_cases hlt : j < es.length
  ·obtain ⟨bl, off, k', a', b', ad', n', cap', rfl, _, g0, g1, g2, g3, _, ge⟩ := (hes.below hbel nl).part (hs.below (by omega) hbel nl) j hlt
   go_wp2_with fail
   refine (HF.out j hlt _ wr hbel ge).mono ?_
   rintro e w' ⟨rfl, hb1⟩
   have hsz := hbel.size
   by_cases hp : p es[j] = true
   ·rw [hp]
    have HP := hid (nU p es j hlt hp)
    clear hp
    go_wp2_with fail
    go_ret
    exact ⟨⟨j, rfl, by omega, by omega, by rw [HP.out]; simp⟩, hbel.trans (hb1.mono (by omega))⟩
   ·have hp' : p es[j] = false := by simpa using hp
    rw [hp']
    have HP := hid (kU p es j hlt hno.out hp')
    clear hp hp'
    go_wp2_with fail
    go_roundw
    case rel => exact ⟨j + 1, by omega, by go_num, HP, hbel.trans (hb1.mono (by omega))⟩
    case measure => simp [intOf]; omega
  ·have hj2 : j = es.length := by omega
   subst hj2
   go_wp2_with fail
   go_ret
   exact ⟨⟨-1, rfl, by omega, by omega, by have := hno.out; rw [List.take_length] at this; rw [this]; rfl⟩, hbel⟩
theorem pX (S : Nat → Prop) (own : Bool) (es : List Ex) (xs : List Value) (ad : Option Addr) (cap : Nat) (fid : Nat) (caps : Array Value) (p : Ex → Bool) (w : World)
  (hs : Sl w S own 4 es.length xs (.slice ad es.length cap)) (hes : au w S own es xs) (hcall : Enters fid) (hf : rA w S own es fid caps p) :
  Calls Tryz.prog 150 #[.slice ad es.length cap, .func (.func fid) #[] caps] w fun e w' => e = .returned (.bool (es.any p)) ∧ Below w.heap.size w w' := by
 have HI := hid (pW S own es xs ad cap fid caps p w hs hes hcall hf)
 clear hf hcall hs hes
 go_enter Tryz.func150, Tryz.ntmps150
 go_wp2_with fail
 refine HI.out.mono ?_
 rintro e w' ⟨⟨r, rfl, h0, h1, hr⟩, hb⟩
 have HR := hid hr
 clear hr
 go_wp2_with fail
 go_ret
 exact ⟨aj HR.out, hb⟩
theorem nV : Enters 151 := fun _ _ => by kernel_rfl
theorem rC (k : Nat) (a b n : Nat) (h : 1 ≤ k ∧ k ≤ 7) : gM k a b n =
  !(decide ((n : Int) < bi k) || decide (bK k < (n : Int)) || decide (bC k < 2) && decide (0 < b) || decide (bC k < 1) && decide (0 < a) || (bC k == 2) && decide (a ≤ b)) := by
 have hc : k = 1 ∨ k = 2 ∨ k = 3 ∨ k = 4 ∨ k = 5 ∨ k = 6 ∨ k = 7 := by omega
 rw [Bool.eq_iff_iff]
 rcases hc with rfl | rfl | rfl | rfl | rfl | rfl | rfl
 all_goals (simp [gM, dI, bi, bK, bC]; try omega)
theorem kV (k : Int) (a b n : Nat) (h : ¬ (1 ≤ k ∧ k ≤ 7)) : dI k a b n = false := by
 simp only [dI]
 rw [if_neg (by omega), if_neg (by omega), if_neg (by omega), if_neg (by omega), if_neg (by omega)]
theorem vz (ps : List Ex) : Ex.okPs ps = !(ps.any fun e => !e.okP) := by
 rw [Ex.okPs_iff, List.all_eq_not_any_not]
theorem kW (d : Nat) : ∀ (S : Nat → Prop) (own : Bool) (e : Ex) (v : Value) (w : World), e.depth ≤ d → d ≤ 1000 → av w S own e v →
  Calls Tryz.prog 92 #[v] w fun r w' => r = .returned (.bool e.okP) ∧ Below w.heap.size w w' := by
 induction d with
 | zero => intro S own e v w hd; cases e; simp [Ex.depth] at hd
 | succ d ih =>
  intro S own e v w hd hd2 hrep
  obtain ⟨k, a, b, ps⟩ := e
  simp only [av] at hrep
  obtain ⟨s, xs, rfl, hk1, hk2, ha, hb, hs, hes⟩ := hrep
  obtain ⟨hxl, hlen, ad, cap, rfl, hcap⟩ := hs.shape
  have IH := hid ih
  clear ih
  have HXL := hid hxl
  clear hxl
  simp only [Ex.depth, Ex.okP] at hd ⊢
  have hb0 : Below w.heap.size w (w.alloc (.cells #[.int .i64 k, .int .u64 a, .int .u64 b, .slice ad ps.length cap] 44)) := br.alloc nl _
  have hasks : ∀ w1, Below w.heap.size w w1 → rA w1 S own ps 151 #[] (fun e => !e.okP) := by
   intro w1 hb1 i hi v w' hb2 hrep
   have hdi := Ex.depths_ge ps i hi
   obtain ⟨c0, c1, c2, c3, rfl⟩ := hrep.four
   show Calls Tryz.prog 151 #[.agg #[c0, c1, c2, c3]] _ _
   go_enter Tryz.func151, Tryz.ntmps151
   go_wp2_with fail
   refine (IH.out S own ps[i] _ _ (by omega) (by omega) (hrep.below (br.alloc nl _) nl)).mono ?_
   rintro e w'' ⟨rfl, hb3⟩
   go_wp2_with fail
   go_ret
   exact ⟨rfl, (br.alloc nl _).trans (hb3.mono (by simp))⟩
  have HA := hid hasks
  clear hasks
  go_enter Tryz.func92, Tryz.ntmps92
  go_wp2_with fail
  refine (cz k _ hk1 hk2).mono ?_
  rintro e1 w1 ⟨hin, hout, hb1⟩
  have hb2 : Below w.heap.size w w1 := hb0.trans (hb1.mono (by simp))
  obtain ⟨hc, hf⟩ := jY hb1
  have hz1 : w.heap.size + 1 ≤ w1.heap.size := by have := hb1.size; simpa using this
  have hz0 : w.heap.size < w1.heap.size := by omega
  by_cases hk : 1 ≤ k ∧ k ≤ 7
  ·obtain ⟨blk, hblk, hheap, rfl⟩ := hin hk
   clear hin hout hheap hblk
   obtain ⟨kn, rfl⟩ := Int.eq_ofNat_of_zero_le (show 0 ≤ k by omega)
   have HN := hid (rC kn a b ps.length (by omega))
   obtain ⟨fn, caps, hfn⟩ := kr kn blk
   rw [hfn]
   clear hfn
   generalize bC kn = c1 at *
   generalize bi kn = c2 at *
   generalize bK kn = c3 at *
   have hhs := hs.below (by omega) hb2 nl
   have hhe := hes.below hb2 nl
   have hbx : ∀ o, Below w.heap.size w (w1.alloc o) := fun o => hb2.alloc (by omega) _
   have hbx1 : ∀ o, Below w1.heap.size w1 (w1.alloc o) := fun o => br.alloc nl _
   have HX := hid (And.intro hbx hbx1)
   clear hbx hbx1
   have HS := hid (And.intro hhs hhe)
   clear hhs hhe
   go_wp2_with fail
   all_goals first
    | (refine (pX S own ps xs ad cap _ #[] (fun e => !e.okP) _ (HS.out.1.below (by omega) (HX.out.2 _) nl) (HS.out.2.below (HX.out.2 _) nl) nV (HA.out _ (HX.out.1 _))).mono ?_
       rintro e w' ⟨rfl, hb3⟩
       have hT : gM (kn : Int) a b ps.length = true := by
        rw [HN.out]; simp only [Bool.not_eq_true', Bool.or_eq_false_iff, Bool.and_eq_false_iff, decide_eq_false_iff_not, beq_eq_false_iff_ne, Bool.not_eq_eq_eq_not, Bool.not_true]; omega
       have HT := hid hT
       clear hT
       go_wp2_with fail
       go_ret
       exact ⟨aj (by rw [HT.out, vz]; simp), (HX.out.1 _).trans (hb3.mono (by simp; omega))⟩)
    | (have hT : gM (kn : Int) a b ps.length = false := by
        rw [HN.out]; simp only [Bool.not_eq_false', Bool.or_eq_true, Bool.and_eq_true, decide_eq_true_eq, beq_iff_eq, Bool.not_eq_eq_eq_not, Bool.not_false]; omega
       go_ret
       exact ⟨aj (by rw [hT]; rfl), HX.out.1 _⟩)
  ·have he := hout hk
   subst he
   clear hin hout
   go_wp2_with fail
   go_ret
   exact ⟨aj (by rw [gM, kV _ _ _ _ hk]; rfl), hb2.alloc (by have := hb2.size; omega) _⟩
end Go.Proofs.YtmgbhhmipmgcpaaGreatDoor
