/- Walks: which trees are right (the program's). -/
import Derived.Test.YtohjkejdkhdjbaaGreatDoorQW04d
namespace Go.Proofs.YtohjkejdkhdjbaaGreatDoor
open Go.RowKit Go
set_option linter.unusedVariables false
set_option linter.unusedSimpArgs false
theorem nodeOk_out (k : Int) (a b n : Nat) (h : ¬ (1 ≤ k ∧ k ≤ 7)) : nodeOk k a b n = false := by
  simp only [nodeOk]
  rw [if_neg (by omega), if_neg (by omega), if_neg (by omega), if_neg (by omega), if_neg (by omega)]
theorem okPs_any (ps : List Ex) : Ex.okPs ps = !(ps.any fun e => !e.okP) := by
  rw [Ex.okPs_iff, List.all_eq_not_any_not]
set_option maxHeartbeats 1000000 in
set_option maxRecDepth 20000 in
theorem predNodes2_any (d : Nat) : ∀ (S : Nat → Prop) (own : Bool) (e : Ex) (v : Value) (w : World), e.depth ≤ d → d ≤ 1000 → RepE w S own e v →
    Calls Tryz.prog 47 #[v] w fun r w' => r = .returned (.bool e.okP) ∧ Below w.heap.size w w' := by
  induction d with
  | zero => intro S own e v w hd; cases e; simp [Ex.depth] at hd
  | succ d ih =>
    intro S own e v w hd hd2 hrep
    obtain ⟨k, a, b, ps⟩ := e
    simp only [RepE] at hrep
    obtain ⟨s, xs, rfl, hk1, hk2, ha, hb, hs, hes⟩ := hrep
    obtain ⟨hxl, hlen, ad, cap, rfl, hcap⟩ := hs.shape
    have IH := Lib.hid ih
    clear ih
    have HXL := Lib.hid hxl
    clear hxl
    simp only [Ex.depth, Ex.okP] at hd ⊢
    have hb0 : Below w.heap.size w (w.alloc (.cells #[.int .i64 k, .int .u64 a, .int .u64 b, .slice ad ps.length cap] 26)) := (Below.refl _ _).alloc (Nat.le_refl _) _
    have hasks : ∀ w1, Below w.heap.size w w1 → AsksAt w1 S own ps 70 #[] (fun e => !e.okP) := by
      intro w1 hb1 i hi v w' hb2 hrep
      have hdi := Ex.depths_ge ps i hi
      obtain ⟨c0, c1, c2, c3, rfl⟩ := hrep.four
      show Calls Tryz.prog 70 #[.agg #[c0, c1, c2, c3]] _ _
      go_enter Tryz.func70, Tryz.ntmps70
      go_wp2_with fail
      refine (IH.out S own ps[i] _ _ (by omega) (by omega) (hrep.below ((Below.refl _ _).alloc (Nat.le_refl _) _) (Nat.le_refl _))).mono ?_
      rintro e w'' ⟨rfl, hb3⟩
      go_wp2_with fail
      go_ret
      exact ⟨rfl, ((Below.refl _ _).alloc (Nat.le_refl _) _).trans (hb3.mono (by simp))⟩
    have HA := Lib.hid hasks
    clear hasks
    go_enter Tryz.func47, Tryz.ntmps47
    go_wp2_with fail
    refine (predOf_any k _ hk1 hk2).mono ?_
    rintro e1 w1 ⟨hin, hout, hb1⟩
    have hb2 : Below w.heap.size w w1 := hb0.trans (hb1.mono (by simp))
    obtain ⟨hc, hf⟩ := bcell hb1
    have hz1 : w.heap.size + 1 ≤ w1.heap.size := by have := hb1.size; simpa using this
    have hz0 : w.heap.size < w1.heap.size := by omega
    by_cases hk : 1 ≤ k ∧ k ≤ 7
    · obtain ⟨blk, hblk, hheap, rfl⟩ := hin hk
      clear hin hout hheap hblk
      obtain ⟨kn, rfl⟩ := Int.eq_ofNat_of_zero_le (show 0 ≤ k by omega)
      have HN := Lib.hid (nodeOkP_in kn a b ps.length (by omega))
      obtain ⟨fn, caps, hfn⟩ := kindFn_func kn blk
      rw [hfn]
      clear hfn
      generalize kindNums kn = c1 at *
      generalize kindLeast kn = c2 at *
      generalize kindMost kn = c3 at *
      have hhs := hs.below (by omega) hb2 (Nat.le_refl _)
      have hhe := hes.below hb2 (Nat.le_refl _)
      have hbx : ∀ o, Below w.heap.size w (w1.alloc o) := fun o => hb2.alloc (by omega) _
      have hbx1 : ∀ o, Below w1.heap.size w1 (w1.alloc o) := fun o => (Below.refl _ _).alloc (Nat.le_refl _) _
      have HX := Lib.hid (And.intro hbx hbx1)
      clear hbx hbx1
      have HS := Lib.hid (And.intro hhs hhe)
      clear hhs hhe
      go_wp2_with fail
      all_goals first
        | (refine (conFunc_any S own ps xs ad cap _ #[] (fun e => !e.okP) _ (HS.out.1.below (by omega) (HX.out.2 _) (Nat.le_refl _)) (HS.out.2.below (HX.out.2 _) (Nat.le_refl _)) enters_nodes (HA.out _ (HX.out.1 _))).mono ?_
           rintro e w' ⟨rfl, hb3⟩
           have hT : nodeOkP (kn : Int) a b ps.length = true := by
             rw [HN.out]; simp only [Bool.not_eq_true', Bool.or_eq_false_iff, Bool.and_eq_false_iff, decide_eq_false_iff_not, beq_eq_false_iff_ne, Bool.not_eq_eq_eq_not, Bool.not_true]; omega
           have HT := Lib.hid hT
           clear hT
           go_wp2_with fail
           go_ret
           exact ⟨ret_bool (by rw [HT.out, okPs_any]; simp), (HX.out.1 _).trans (hb3.mono (by simp; omega))⟩)
        | (have hT : nodeOkP (kn : Int) a b ps.length = false := by
             rw [HN.out]; simp only [Bool.not_eq_false', Bool.or_eq_true, Bool.and_eq_true, decide_eq_true_eq, beq_iff_eq, Bool.not_eq_eq_eq_not, Bool.not_false]; omega
           go_ret
           exact ⟨ret_bool (by rw [hT]; rfl), HX.out.1 _⟩)
    · have he := hout hk
      subst he
      clear hin hout
      go_wp2_with fail
      go_ret
      exact ⟨ret_bool (by rw [nodeOkP, nodeOk_out _ _ _ _ hk]; rfl), hb2.alloc (by have := hb2.size; omega) _⟩
end Go.Proofs.YtohjkejdkhdjbaaGreatDoor
