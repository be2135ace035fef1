/- Walks: which trees are right, and what they ask (the reference's). -/
import Derived.Test.YtohjkejdkhdjbaaGreatDoorQW04a
namespace Go.Proofs.YtohjkejdkhdjbaaGreatDoor
open Go.RowKit Go
set_option linter.unusedVariables false
set_option linter.unusedSimpArgs false
set_option maxHeartbeats 400000 in
theorem refnode_any (k : Int) (a b n : Nat) (ad : Option Addr) (cap : Nat) (w : World) (hk1 : -9223372036854775808 ≤ k) (hk2 : k ≤ 9223372036854775807) (ha : a < 18446744073709551616) (hb : b < 18446744073709551616) (hn : n ≤ 9223372036854775807) :
    Calls Tryz.prog 71 #[.agg #[.int .i64 k, .int .u64 a, .int .u64 b, .slice ad n cap]] w fun e w' => e = .returned (.bool (nodeOk k a b n)) ∧ Below w.heap.size w w' := by
  go_enter Tryz.func71, Tryz.ntmps71
  go_wp2
  all_goals (go_ret; exact ⟨ret_bool (by first | (simp_all [nodeOk, castb0, castb1]; done) | (simp_all [nodeOk, castb0, castb1]; omega)), (Below.refl _ _).alloc (Nat.le_refl _) _⟩)
set_option maxHeartbeats 400000 in
theorem refnodes_any (d : Nat) : ∀ (S : Nat → Prop) (own : Bool) (e : Ex) (v : Value) (w : World), e.depth ≤ d → d ≤ 1000 → RepE w S own e v →
    Calls Tryz.prog 48 #[v] w fun r w' => r = .returned (.bool e.okR) ∧ Below w.heap.size w w' := by
  induction d with
  | zero => intro S own e v w hd; cases e; simp [Ex.depth] at hd
  | succ d ih =>
    intro S own e v w hd hd2 hrep
    obtain ⟨k, a, b, ps⟩ := e
    simp only [RepE] at hrep
    obtain ⟨s, xs, rfl, hk1, hk2, ha, hb, hs, hes⟩ := hrep
    obtain ⟨hxl, hlen, ad, cap, rfl, hcap⟩ := hs.shape
    have IH := Lib.hid ih
    clear ih
    have HXL := Lib.hid hxl
    clear hxl
    simp only [Ex.depth, Ex.okR] at hd ⊢
    go_enter Tryz.func48, Tryz.ntmps48
    go_wp2_with fail
    go_loopw [3] (fun i wr => ∃ j : Nat, j ≤ ps.length ∧ i = .int .i64 j ∧ Hid (Ex.okRs (ps.take j) = true) ∧ Below (w.heap.size + 1) (w.alloc (.cells #[.int .i64 k, .int .u64 a, .int .u64 b, .slice ad ps.length cap] 32)) wr) (fun i _ => ps.length - (intOf i).toNat)
    case atStart => exact ⟨0, by omega, rfl, Lib.hid (by simp [Ex.okRs]), Below.refl _ _⟩
    case round =>
      obtain ⟨j, hj, rfl, hok, hbel⟩ := hrel
      have hbox : ∀ o, wr.cell? ⟨w.heap.size, o, none⟩ = (w.alloc (.cells #[.int .i64 k, .int .u64 a, .int .u64 b, .slice ad ps.length cap] _)).cell? ⟨w.heap.size, o, none⟩ := fun o => hbel.cell (by simp)
      have hsz : w.heap.size + 1 ≤ wr.heap.size := by have := hbel.size; simpa using this
      have hb0 : Below w.heap.size w wr := ((Below.refl _ _).alloc (Nat.le_refl _) _).trans (hbel.mono (by simp))
      by_cases hlt : j < ps.length
      · obtain ⟨bl, off, k', a', b', ad', n', cap', rfl, _, g0, g1, g2, g3, _, ge⟩ := (hes.below hb0 (Nat.le_refl _)).part (hs.below (by omega) hb0 (Nat.le_refl _)) j hlt
        have hdj := Ex.depths_ge ps j hlt
        go_wp2_with fail
        refine (IH.out _ _ ps[j] _ _ (by omega) (by omega) ge).mono ?_
        rintro e w' ⟨rfl, hb1⟩
        by_cases hc : ps[j].okR = true
        · rw [hc]
          have HT : Hid (Ex.okRs (ps.take (j + 1)) = true) := Lib.hid (by rw [Ex.okRs_take ps j hlt, hok.out, hc]; rfl)
          clear hc
          go_wp2_with fail
          go_roundw
          case rel => exact ⟨j + 1, by omega, by go_num, HT, hbel.trans (hb1.mono (by omega))⟩
          case measure => simp [intOf]; omega
        · have hc' : ps[j].okR = false := by simpa using hc
          rw [hc']
          have HF := Lib.hid (Ex.okRs_false ps j hlt hc')
          clear hc hc'
          go_wp2_with fail
          go_ret
          exact ⟨ret_bool (by rw [HF.out]; simp), hb0.trans (hb1.mono (by omega))⟩
      · have hj2 : j = ps.length := by omega
        subst hj2
        go_wp2_with fail
        refine (refnode_any k a b ps.length ad cap _ hk1 hk2 ha hb hlen).mono ?_
        rintro e w' ⟨rfl, hb1⟩
        go_wp2_with fail
        go_ret
        exact ⟨ret_bool (by have := hok.out; rw [List.take_length] at this; rw [this]; simp), hb0.trans (hb1.mono (by omega))⟩
set_option maxHeartbeats 400000 in
theorem refRight_any (S : Nat → Prop) (own : Bool) (e : Ex) (v : Value) (w : World) (hsz : e.size ≤ 900) (hrep : RepE w S own e v) :
    Calls Tryz.prog 24 #[v] w fun r w' => r = .returned (.bool e.right) ∧ Below w.heap.size w w' := by
  have hds := e.depth_le_size
  obtain ⟨c0, c1, c2, c3, rfl⟩ := hrep.four
  have hb0 : Below w.heap.size w (w.alloc (.cells #[c0, c1, c2, c3] 32)) := (Below.refl _ _).alloc (Nat.le_refl _) _
  go_enter Tryz.func24, Tryz.ntmps24
  go_wp2_with fail
  refine (refnodes_any e.depth _ _ e _ _ (Nat.le_refl _) (by omega) (hrep.below hb0 (Nat.le_refl _))).mono ?_
  rintro e1 w1 ⟨rfl, hb1⟩
  have hb2 : Below w.heap.size w w1 := hb0.trans (hb1.mono (by simp))
  have hbox : ∀ o, w1.cell? ⟨w.heap.size, o, none⟩ = (w.alloc (.cells #[c0, c1, c2, c3] 32)).cell? ⟨w.heap.size, o, none⟩ := fun o => hb1.cell (by simp)
  have hsz1 : w.heap.size + 1 ≤ w1.heap.size := by have := hb1.size; simpa using this
  by_cases h1 : e.okR = true
  · rw [h1]
    go_wp2_with fail
    refine (refDepth_any e.depth _ _ e _ _ (Nat.le_refl _) (by omega) (hrep.below hb2 (Nat.le_refl _))).mono ?_
    rintro e2 w2 ⟨rfl, hb3⟩
    have hb4 : Below w.heap.size w w2 := hb2.trans (hb3.mono (by omega))
    have hbox2 : ∀ o, w2.cell? ⟨w.heap.size, o, none⟩ = (w.alloc (.cells #[c0, c1, c2, c3] 32)).cell? ⟨w.heap.size, o, none⟩ := fun o => (hb3.cell (by show w.heap.size < _; omega)).trans (hbox o)
    clear hbox
    have hsz2 : w1.heap.size ≤ w2.heap.size := hb3.size
    by_cases h2 : e.depth ≤ 8
    · have h2' : decide ((e.depth : Int) ≤ 8) = true := by simp; omega
      go_wp2_with fail
      refine (refNodes_any e.size _ _ e _ _ (Nat.le_refl _) (by omega) (hrep.below hb4 (Nat.le_refl _))).mono ?_
      rintro e3 w3 ⟨rfl, hb5⟩
      clear h2'
      go_wp2_with fail
      go_ret
      exact ⟨ret_bool (by simp [Ex.right, h1, h2]; omega), hb4.trans (hb5.mono (by omega))⟩
    · have h2' : decide ((e.depth : Int) ≤ 8) = false := by simp; omega
      go_wp2_with fail
      go_ret
      exact ⟨ret_bool (by simp [Ex.right, h1, h2]), hb4⟩
  · have h1' : e.okR = false := by simpa using h1
    rw [h1']
    go_wp2_with fail
    go_ret
    exact ⟨ret_bool (by simp [Ex.right, h1']), hb2⟩
end Go.Proofs.YtohjkejdkhdjbaaGreatDoor
