/- Walks: how many nodes of a tree are left (FewNodes). (Part of W04a, for seats without the reference of chapter 4.) -/
import Derived.Test.YtafgdakieipgiaaGreatDoorChecked
import Derived.Test.YtafgdakieipgiaaGreatDoorEx04
import Derived.WalkSpells
import Derived.BigQuiet
import Derived.Deep.QuietTactic
namespace Go.Proofs.YtafgdakieipgiaaGreatDoor
open Go.RowKit Go
set_option linter.unusedVariables false
set_option linter.unusedSimpArgs false


/-- how many nodes are left of some; -1: too many -/
def leftOf (left : Int) (n : Nat) : Int := if (n : Int) ≤ left then left - n else -1
theorem leftOf_add (left : Int) (n m : Nat) (h : 0 ≤ leftOf left n) : leftOf (leftOf left n) m = leftOf left (n + m) := by
  by_cases h1 : (n : Int) ≤ left
  · have h2 : leftOf left n = left - n := if_pos h1
    rw [h2]; unfold leftOf; split <;> split <;> omega
  · have h2 : leftOf left n = -1 := if_neg h1
    omega
theorem leftOf_neg (left : Int) (n m : Nat) (h : ¬ 0 ≤ leftOf left n) (hm : n ≤ m) : leftOf left n = leftOf left m := by
  unfold leftOf at *
  split at h
  · omega
  · rw [if_neg (by assumption), if_neg (by omega)]
theorem leftOf_range (left : Int) (n : Nat) (h : 0 ≤ left) : -1 ≤ leftOf left n ∧ leftOf left n ≤ left := by unfold leftOf; split <;> omega

set_option maxHeartbeats 400000 in
theorem docNodes_any (d : Nat) : ∀ (S : Nat → Prop) (own : Bool) (e : Ex) (v : Value) (left : Int) (w : World), e.depth ≤ d → 0 ≤ left → left ≤ 60 → RepE w S own e v →
    Calls Tryz.prog 16 #[v, .int .i64 left] w fun r w' => r = .returned (.int .i64 (leftOf left e.size)) ∧ Below w.heap.size w w' := by
  induction d with
  | zero => intro S own e v left w hd; cases e; simp [Ex.depth] at hd
  | succ d ih =>
    intro S own e v left w hd hl0 hl1 hrep
    obtain ⟨k, a, b, ps⟩ := e
    simp only [RepE] at hrep
    obtain ⟨s, xs, rfl, hk1, hk2, ha, hb, hs, hes⟩ := hrep
    obtain ⟨hxl, hlen, ad, cap, rfl, hcap⟩ := hs.shape
    have IH := Lib.hid ih
    clear ih
    have HXL := Lib.hid hxl
    clear hxl
    simp only [Ex.depth, Ex.size] at hd ⊢
    go_enter Tryz.func16, Tryz.ntmps16
    go_wp2_with fail
    go_loopw [1, 5] (fun n i wr => ∃ j : Nat, j ≤ ps.length ∧ i = .int .i64 j ∧ (∃ m : Int, m = leftOf left (Ex.sizes (ps.take j) + 1) ∧ n = .int .i64 m) ∧ Below (w.heap.size + 1) (w.alloc (.cells #[.int .i64 k, .int .u64 a, .int .u64 b, .slice ad ps.length cap] 27)) wr) (fun _ i _ => ps.length - (intOf i).toNat)
    case atStart => exact ⟨0, by omega, rfl, ⟨_, by simp [Ex.sizes, leftOf]; omega, rfl⟩, Below.refl _ _⟩
    case round =>
      obtain ⟨j, hj, rfl, ⟨m, hm, rfl⟩, hbel⟩ := hrel
      have hbox : ∀ o, wr.cell? ⟨w.heap.size, o, none⟩ = (w.alloc (.cells #[.int .i64 k, .int .u64 a, .int .u64 b, .slice ad ps.length cap] _)).cell? ⟨w.heap.size, o, none⟩ := fun o => hbel.cell (by simp)
      have hsz : w.heap.size + 1 ≤ wr.heap.size := by have := hbel.size; simpa using this
      have hb0 : Below w.heap.size w wr := ((Below.refl _ _).alloc (Nat.le_refl _) _).trans (hbel.mono (by simp))
      have hr := leftOf_range left (Ex.sizes (ps.take j) + 1) hl0
      rw [← hm] at hr
      by_cases hlt : j < ps.length
      · have hsj := Ex.sizes_ge ps j hlt
        by_cases h0 : 0 ≤ m
        · obtain ⟨bl, off, k', a', b', ad', n', cap', rfl, _, g0, g1, g2, g3, _, ge⟩ := (hes.below hb0 (Nat.le_refl _)).part (hs.below (by omega) hb0 (Nat.le_refl _)) j hlt
          have hdj := Ex.depths_ge ps j hlt
          have HT := Lib.hid (Ex.sizes_take ps j hlt)
          have HM := Lib.hid hm
          clear hm
          go_wp2_with (go_at_call 16; refine (IH.out _ _ ps[j] _ _ _ (by omega) h0 (by omega) ge).mono ?_; rintro e w' ⟨rfl, hb1⟩)
          go_roundw
          case rel => exact ⟨j + 1, by omega, by go_num, ⟨_, by rw [HT.out, HM.out, leftOf_add _ _ _ (by rw [← HM.out]; exact h0)]; congr 1; omega, rfl⟩, hbel.trans (hb1.mono (by omega))⟩
          case measure => simp [intOf]; omega
        · have hfin : m = leftOf left (Ex.sizes ps + 1) := by rw [hm]; exact leftOf_neg _ _ _ (by rw [← hm]; exact h0) (by omega)
          have HF := Lib.hid hfin
          clear hfin hm
          go_wp2_with fail
          go_ret
          exact ⟨ret_int HF.out, hb0⟩
      · have hj2 : j = ps.length := by omega
        subst hj2
        have HM := Lib.hid hm
        clear hm
        go_wp2_with fail
        go_ret
        exact ⟨ret_int (by rw [HM.out]; simp), hb0⟩

set_option maxHeartbeats 400000 in
theorem docFew_any (S : Nat → Prop) (own : Bool) (e : Ex) (v : Value) (w : World) (hrep : RepE w S own e v) :
    Calls Tryz.prog 5 #[v] w fun r w' => r = .returned (.bool (decide (e.size ≤ 60))) ∧ Below w.heap.size w w' := by
  obtain ⟨c0, c1, c2, c3, rfl⟩ := hrep.four
  go_enter Tryz.func5, Tryz.ntmps5
  go_wp2_with fail
  refine (docNodes_any e.depth _ _ e _ 60 _ (Nat.le_refl _) (by omega) (by omega) (hrep.below ((Below.refl _ _).alloc (Nat.le_refl _) _) (Nat.le_refl _))).mono ?_
  rintro e' w' ⟨rfl, hb1⟩
  have hb0 : Below w.heap.size w w' := ((Below.refl _ _).alloc (Nat.le_refl _) _).trans (hb1.mono (by simp))
  by_cases h : e.size ≤ 60
  · have hl : leftOf 60 e.size = 60 - e.size := by unfold leftOf; rw [if_pos (by omega)]
    rw [hl]
    go_wp2_with fail
    go_ret
    exact ⟨ret_bool (by simp [h]; omega), hb0⟩
  · have hl : leftOf 60 e.size = -1 := by unfold leftOf; rw [if_neg (by omega)]
    rw [hl]
    go_wp2_with fail
    go_ret
    exact ⟨ret_bool (by simp [h]), hb0⟩
end Go.Proofs.YtafgdakieipgiaaGreatDoor
