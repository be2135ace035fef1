/- Walks: right trees (the program's), and what a right tree asks (the reference's). -/
import Derived.Test.YtohjkejdkhdjbaaGreatDoorQW04e
namespace Go.Proofs.YtohjkejdkhdjbaaGreatDoor
open Go.RowKit Go
set_option linter.unusedVariables false
set_option linter.unusedSimpArgs false
set_option maxHeartbeats 400000 in
theorem predRight_any (S : Nat → Prop) (own : Bool) (e : Ex) (v : Value) (w : World) (hsz : e.size ≤ 900) (hrep : RepE w S own e v) :
    Calls Tryz.prog 23 #[v] w fun r w' => r = .returned (.bool e.right) ∧ Below w.heap.size w w' := by
  have hds := e.depth_le_size
  have HR := Lib.hid e.rightP_eq
  obtain ⟨c0, c1, c2, c3, rfl⟩ := hrep.four
  have hb0 : Below w.heap.size w (w.alloc (.cells #[c0, c1, c2, c3] 26)) := (Below.refl _ _).alloc (Nat.le_refl _) _
  go_enter Tryz.func23, Tryz.ntmps23
  go_wp2_with fail
  refine (predNodes2_any e.depth _ _ e _ _ (Nat.le_refl _) (by omega) (hrep.below hb0 (Nat.le_refl _))).mono ?_
  rintro e1 w1 ⟨rfl, hb1⟩
  have hb2 : Below w.heap.size w w1 := hb0.trans (hb1.mono (by simp))
  have hbox : ∀ o, w1.cell? ⟨w.heap.size, o, none⟩ = (w.alloc (.cells #[c0, c1, c2, c3] 26)).cell? ⟨w.heap.size, o, none⟩ := fun o => hb1.cell (by simp)
  have hsz1 : w.heap.size + 1 ≤ w1.heap.size := by have := hb1.size; simpa using this
  by_cases h1 : e.okP = true
  · rw [h1]
    go_wp2_with fail
    refine (predDepth_any e.depth _ _ e _ _ (Nat.le_refl _) (by omega) (hrep.below hb2 (Nat.le_refl _))).mono ?_
    rintro e2 w2 ⟨rfl, hb3⟩
    have hb4 : Below w.heap.size w w2 := hb2.trans (hb3.mono (by omega))
    have hbox2 : ∀ o, w2.cell? ⟨w.heap.size, o, none⟩ = (w.alloc (.cells #[c0, c1, c2, c3] 26)).cell? ⟨w.heap.size, o, none⟩ := fun o => (hb3.cell (by show w.heap.size < _; omega)).trans (hbox o)
    clear hbox
    have hsz2 : w1.heap.size ≤ w2.heap.size := hb3.size
    by_cases h2 : e.depth ≤ 8
    · have h2' : decide ((e.depth : Int) ≤ 8) = true := by simp; omega
      go_wp2_with fail
      refine (predNodes_any e.size _ _ e _ _ (Nat.le_refl _) (by omega) (hrep.below hb4 (Nat.le_refl _))).mono ?_
      rintro e3 w3 ⟨rfl, hb5⟩
      clear h2'
      go_wp2_with fail
      go_ret
      exact ⟨ret_bool (by rw [← HR.out]; simp [h1, h2]; omega), hb4.trans (hb5.mono (by omega))⟩
    · have h2' : decide ((e.depth : Int) ≤ 8) = false := by simp; omega
      go_wp2_with fail
      go_ret
      exact ⟨ret_bool (by rw [← HR.out]; simp [h1, h2]), hb4⟩
  · have h1' : e.okP = false := by simpa using h1
    rw [h1']
    go_wp2_with fail
    go_ret
    exact ⟨ret_bool (by rw [← HR.out]; simp [h1']), hb2⟩
theorem nodeOk_kinds {k : Int} {a b n : Nat} (h : nodeOk k a b n = true) : k = 1 ∨ k = 2 ∨ k = 3 ∨ (k = 4 ∧ b < a) ∨ k = 5 ∨ k = 6 ∨ k = 7 := by
  by_cases h7 : 1 ≤ k ∧ k ≤ 7
  · by_cases h4 : k = 4
    · subst h4; simp [nodeOk] at h; omega
    · omega
  · rw [nodeOk_out _ _ _ _ h7] at h; cases h
set_option maxHeartbeats 1000000 in
theorem refasks_any (d : Nat) : ∀ (S : Nat → Prop) (own : Bool) (e : Ex) (v : Value) (x y : Nat) (w : World), e.depth ≤ d → d ≤ 1000 → x < 18446744073709551616 → y < 18446744073709551616 → e.okR = true → RepE w S own e v →
    Calls Tryz.prog 50 #[v, .int .u64 x, .int .u64 y] w fun r w' => r = .returned (.bool (e.asks x y)) ∧ Below w.heap.size w w' := by
  induction d with
  | zero => intro S own e v x y w hd; cases e; simp [Ex.depth] at hd
  | succ d ih =>
    intro S own e v x y w hd hd2 hx hy hok hrep
    obtain ⟨k, a, b, ps⟩ := e
    simp only [RepE] at hrep
    obtain ⟨s, xs, rfl, hk1, hk2, ha, hb, hs, hes⟩ := hrep
    obtain ⟨hxl, hlen, ad, cap, rfl, hcap⟩ := hs.shape
    have IH := Lib.hid ih
    clear ih
    have HXL := Lib.hid hxl
    clear hxl
    simp only [Ex.depth, Ex.okR, Bool.and_eq_true] at hd hok
    simp only [Ex.asks]
    obtain ⟨hok1, hok2⟩ := hok
    have HOK := Lib.hid hok1
    have HK := Lib.hid (nodeOk_kinds hok2)
    clear hok1 hok2
    go_enter Tryz.func50, Tryz.ntmps50
    go_wp2_with fail
    go_loopw [7, 8] (fun n i wr => ∃ j : Nat, j ≤ ps.length ∧ i = .int .i64 j ∧ n = .int .i64 (Ex.asked x y (ps.take j)) ∧ Below (w.heap.size + 1) (w.alloc (.cells #[.int .i64 k, .int .u64 a, .int .u64 b, .slice ad ps.length cap] 32)) wr) (fun _ i _ => ps.length - (intOf i).toNat)
    case atStart => exact ⟨0, by omega, rfl, by simp [Ex.asked], Below.refl _ _⟩
    case round =>
      obtain ⟨j, hj, rfl, rfl, hbel⟩ := hrel
      have hbox : ∀ o, wr.cell? ⟨w.heap.size, o, none⟩ = (w.alloc (.cells #[.int .i64 k, .int .u64 a, .int .u64 b, .slice ad ps.length cap] _)).cell? ⟨w.heap.size, o, none⟩ := fun o => hbel.cell (by simp)
      have hsz : w.heap.size + 1 ≤ wr.heap.size := by have := hbel.size; simpa using this
      have hb0 : Below w.heap.size w wr := ((Below.refl _ _).alloc (Nat.le_refl _) _).trans (hbel.mono (by simp))
      have hal := Ex.asked_le x y (ps.take j)
      rw [List.length_take] at hal
      by_cases hlt : j < ps.length
      · obtain ⟨bl, off, k', a', b', ad', n', cap', rfl, _, g0, g1, g2, g3, _, ge⟩ := (hes.below hb0 (Nat.le_refl _)).part (hs.below (by omega) hb0 (Nat.le_refl _)) j hlt
        have hdj := Ex.depths_ge ps j hlt
        have HT := Lib.hid (Ex.asked_take x y ps j hlt)
        go_wp2_with fail
        refine (IH.out _ _ ps[j] _ x y _ (by omega) (by omega) hx hy (Ex.okRs_get ps j hlt HOK.out) ge).mono ?_
        rintro e w' ⟨rfl, hb1⟩
        cases hc : ps[j].asks x y with
        | true =>
          have HC := Lib.hid hc
          clear hc
          go_wp2_with fail
          go_roundw
          case rel => exact ⟨j + 1, by omega, by go_num, by rw [HT.out, HC.out]; simp, hbel.trans (hb1.mono (by omega))⟩
          case measure => simp [intOf]; omega
        | false =>
          have HC := Lib.hid hc
          clear hc
          go_wp2_with fail
          go_roundw
          case rel => exact ⟨j + 1, by omega, by go_num, by rw [HT.out, HC.out]; simp, hbel.trans (hb1.mono (by omega))⟩
          case measure => simp [intOf]; omega
      · have hj2 : j = ps.length := by omega
        subst hj2
        rcases HK.out with rfl | rfl | rfl | ⟨rfl, hab⟩ | rfl | rfl | rfl
        · go_wp2_with fail
          go_ret
          exact ⟨ret_bool (by simp [askN]), hb0⟩
        · go_wp2_with fail
          go_ret
          exact ⟨ret_bool (by simp [askN]), hb0⟩
        · go_wp2_with fail
          go_ret
          exact ⟨ret_bool (by simp [askN]), hb0⟩
        · have ha0 : ((a : Int) == 0) = false := by simp; omega
          have ha1 : (0 : Int) < (a : Int) := by omega
          go_wp2_with fail
          go_quiet (fail)
          go_wp2_with fail
          go_ret
          exact ⟨ret_bool (by rw [show ((y : Int) % (a : Int)) = ((y % a : Nat) : Int) from by simp, castb]; simp [askN]), below_drewN hb0 _⟩
        · go_wp2_with fail
          go_ret
          exact ⟨ret_bool (by simp [askN, castb0]), hb0⟩
        · go_wp2_with fail
          go_ret
          exact ⟨ret_bool (by simp [askN, castb]), hb0⟩
        · go_wp2_with fail
          go_ret
          exact ⟨ret_bool (by simp [askN]), hb0⟩
set_option maxHeartbeats 400000 in
theorem refHolds_any (S : Nat → Prop) (own : Bool) (e : Ex) (v : Value) (x y : Nat) (w : World) (hsz : e.size ≤ 900) (hx : x < 18446744073709551616) (hy : y < 18446744073709551616) (hrep : RepE w S own e v) :
    Calls Tryz.prog 30 #[v, .int .u64 x, .int .u64 y] w fun r w' => r = .returned (.bool (e.holds x y)) ∧ Below w.heap.size w w' := by
  have hds := e.depth_le_size
  obtain ⟨c0, c1, c2, c3, rfl⟩ := hrep.four
  have hb0 : Below w.heap.size w (w.alloc (.cells #[c0, c1, c2, c3] 32)) := (Below.refl _ _).alloc (Nat.le_refl _) _
  go_enter Tryz.func30, Tryz.ntmps30
  go_wp2_with fail
  refine (refRight_any _ _ e _ _ hsz (hrep.below hb0 (Nat.le_refl _))).mono ?_
  rintro e1 w1 ⟨rfl, hb1⟩
  have hb2 : Below w.heap.size w w1 := hb0.trans (hb1.mono (by simp))
  have hbox : ∀ o, w1.cell? ⟨w.heap.size, o, none⟩ = (w.alloc (.cells #[c0, c1, c2, c3] 32)).cell? ⟨w.heap.size, o, none⟩ := fun o => hb1.cell (by simp)
  have hsz1 : w.heap.size + 1 ≤ w1.heap.size := by have := hb1.size; simpa using this
  cases h1 : e.right with
  | true =>
    have H1 := Lib.hid h1
    clear h1
    go_wp2_with fail
    refine (refasks_any e.depth _ _ e _ x y _ (Nat.le_refl _) (by omega) hx hy (by have := H1.out; simp [Ex.right] at this; exact this.1.1) (hrep.below hb2 (Nat.le_refl _))).mono ?_
    rintro e2 w2 ⟨rfl, hb3⟩
    go_wp2_with fail
    go_ret
    exact ⟨ret_bool (by simp [Ex.holds, H1.out]), hb2.trans (hb3.mono (by omega))⟩
  | false =>
    have H1 := Lib.hid h1
    clear h1
    go_wp2_with fail
    go_ret
    exact ⟨ret_bool (by simp [Ex.holds, H1.out]), hb2⟩
end Go.Proofs.YtohjkejdkhdjbaaGreatDoor
