/- Walks: what a right tree asks (the program's). Ahead of it: Walks: right trees (the program's), and what a right tree asks (the reference's). -/
import Derived.Test.YtjedgiiplebofaaGreatDoorQ32
import Derived.Deep.RegionHeld3
namespace Go.Proofs.YtjedgiiplebofaaGreatDoor
open Go.RowKit Go
set_option linter.unusedVariables false
set_option linter.unusedSimpArgs false
set_option maxHeartbeats 400000 in
theorem predRight_any (S : Nat → Prop) (own : Bool) (e : Ex) (v : Value) (w : World) (hsz : e.size ≤ 900) (hrep : RepE w S own e v) :
    Calls Tryz.prog 106 #[v] w fun r w' => r = .returned (.bool e.right) ∧ Below w.heap.size w w' := by
  have hds := e.depth_le_size
  have HR := Lib.hid e.rightP_eq
  obtain ⟨c0, c1, c2, c3, rfl⟩ := hrep.four
  have hb0 : Below w.heap.size w (w.alloc (.cells #[c0, c1, c2, c3] 28)) := (Below.refl _ _).alloc (Nat.le_refl _) _
  go_enter Tryz.func106, Tryz.ntmps106
  go_wp2_with fail
  refine (predNodes2_any e.depth _ _ e _ _ (Nat.le_refl _) (by omega) (hrep.below hb0 (Nat.le_refl _))).mono ?_
  rintro e1 w1 ⟨rfl, hb1⟩
  have hb2 : Below w.heap.size w w1 := hb0.trans (hb1.mono (by simp))
  have hbox : ∀ o, w1.cell? ⟨w.heap.size, o, none⟩ = (w.alloc (.cells #[c0, c1, c2, c3] 28)).cell? ⟨w.heap.size, o, none⟩ := fun o => hb1.cell (by simp)
  have hsz1 : w.heap.size + 1 ≤ w1.heap.size := by have := hb1.size; simpa using this
  by_cases h1 : e.okP = true
  · rw [h1]
    go_wp2_with fail
    refine (predDepth_any e.depth _ _ e _ _ (Nat.le_refl _) (by omega) (hrep.below hb2 (Nat.le_refl _))).mono ?_
    rintro e2 w2 ⟨rfl, hb3⟩
    have hb4 : Below w.heap.size w w2 := hb2.trans (hb3.mono (by omega))
    have hbox2 : ∀ o, w2.cell? ⟨w.heap.size, o, none⟩ = (w.alloc (.cells #[c0, c1, c2, c3] 28)).cell? ⟨w.heap.size, o, none⟩ := fun o => (hb3.cell (by show w.heap.size < _; omega)).trans (hbox o)
    clear hbox
    have hsz2 : w1.heap.size ≤ w2.heap.size := hb3.size
    by_cases h2 : e.depth ≤ 8
    · have h2' : decide ((e.depth : Int) ≤ 8) = true := by simp; omega
      go_wp2_with fail
      refine (predNodes_any e.size _ _ e _ _ (Nat.le_refl _) (by omega) (hrep.below hb4 (Nat.le_refl _))).mono ?_
      rintro e3 w3 ⟨rfl, hb5⟩
      clear h2'
      go_wp2_with fail
      go_ret
      exact ⟨ret_bool (by rw [← HR.out]; simp [h1, h2]; omega), hb4.trans (hb5.mono (by omega))⟩
    · have h2' : decide ((e.depth : Int) ≤ 8) = false := by simp; omega
      go_wp2_with fail
      go_ret
      exact ⟨ret_bool (by rw [← HR.out]; simp [h1, h2]), hb4⟩
  · have h1' : e.okP = false := by simpa using h1
    rw [h1']
    go_wp2_with fail
    go_ret
    exact ⟨ret_bool (by rw [← HR.out]; simp [h1']), hb2⟩
theorem nodeOk_kinds {k : Int} {a b n : Nat} (h : nodeOk k a b n = true) : k = 1 ∨ k = 2 ∨ k = 3 ∨ (k = 4 ∧ b < a) ∨ k = 5 ∨ k = 6 ∨ k = 7 := by
  by_cases h7 : 1 ≤ k ∧ k ≤ 7
  · by_cases h4 : k = 4
    · subst h4; simp [nodeOk] at h; omega
    · omega
  · rw [nodeOk_out _ _ _ _ h7] at h; cases h
end Go.Proofs.YtjedgiiplebofaaGreatDoor
namespace Go.Proofs.YtjedgiiplebofaaGreatDoor
open Go.RowKit Go
set_option linter.unusedVariables false
set_option linter.unusedSimpArgs false
end Go.Proofs.YtjedgiiplebofaaGreatDoor
