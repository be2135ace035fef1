/- Walks: the same tree; a tree as the reference has it. -/
import Derived.Test.YtjedgiiplebofaaGreatDoorQ36
namespace Go.Proofs.YtjedgiiplebofaaGreatDoor
open Go.RowKit Go
set_option linter.unusedVariables false
set_option linter.unusedSimpArgs false
theorem Ex.sames_take_false (l l' : List Ex) (k : Nat) (h : k < l.length) (h' : k < l'.length) (h0 : l[k].same l'[k] = false) : Ex.sames l l' = false := by
  rw [Ex.sames_eq]; simp; intro e; subst e; rw [Ex.same_refl] at h0; cases h0
theorem Ex.sames_of_take (l l' : List Ex) (h : l.length = l'.length) (h0 : l.take l.length = l'.take l.length) : Ex.sames l l' = true := by
  rw [Ex.sames_eq]; simp; rw [List.take_length, h, List.take_length] at h0; exact h0
theorem take_snoc_eq {α : Type} (l l' : List α) (k : Nat) (h : k < l.length) (h' : k < l'.length) (h0 : l.take k = l'.take k) (h1 : l[k] = l'[k]) : l.take (k + 1) = l'.take (k + 1) := by
  rw [take_snoc l k h, take_snoc l' k h', h0, h1]
set_option maxHeartbeats 2000000 in
theorem refSame_any (d : Nat) : ∀ (S S' : Nat → Prop) (own own' : Bool) (e e' : Ex) (v v' : Value) (w : World), e.depth ≤ d → d ≤ 1000 → RepE w S own e v → RepE w S' own' e' v' →
    Calls Tryz.prog 89 #[v, v'] w fun r w' => r = .returned (.bool (e.same e')) ∧ Below w.heap.size w w' := by
  induction d with
  | zero => intro S S' own own' e e' v v' w hd; cases e; simp [Ex.depth] at hd
  | succ d ih =>
    intro S S' own own' e e' v v' w hd hd2 hrep hrep'
    obtain ⟨k, a, b, ps⟩ := e
    obtain ⟨k', a', b', ps'⟩ := e'
    simp only [RepE] at hrep hrep'
    obtain ⟨s, xs, rfl, hk1, hk2, ha, hb, hs, hes⟩ := hrep
    obtain ⟨s', xs', rfl, hk1', hk2', ha', hb', hs', hes'⟩ := hrep'
    obtain ⟨hxl, hlen, ad, cap, rfl, hcap⟩ := hs.shape
    obtain ⟨hxl', hlen', ad', cap', rfl, hcap'⟩ := hs'.shape
    have IH := Lib.hid ih
    clear ih hxl hxl'
    simp only [Ex.depth] at hd
    simp only [Ex.same]
    have hb0 : Below w.heap.size w ((w.alloc (.cells #[.int .i64 k, .int .u64 a, .int .u64 b, .slice ad ps.length cap] 38)).alloc (.cells #[.int .i64 k', .int .u64 a', .int .u64 b', .slice ad' ps'.length cap'] 38)) := ((Below.refl _ _).alloc (Nat.le_refl _) _).alloc (by simp) _
    have HB : Hid (∀ o1 o2, Below w.heap.size w ((w.alloc o1).alloc o2)) := Lib.hid (fun o1 o2 => ((Below.refl _ _).alloc (Nat.le_refl _) _).alloc (by simp) _)
    clear hb0
    by_cases hhead : k = k' ∧ a = a' ∧ b = b' ∧ ps.length = ps'.length
    · obtain ⟨rfl, rfl, rfl, hl⟩ := hhead
      have t1 : ((ps.length : Int) != (ps'.length : Int)) = false := by simp; omega
      have hl1 : ps.length ≤ ps'.length := by omega
      have hl2 : ps'.length ≤ ps.length := by omega
      have HL := Lib.hid hl
      clear hl
      go_enter Tryz.func89, Tryz.ntmps89
      go_wp2_with fail
      go_loopw [5] (fun i wr => ∃ j : Nat, j ≤ ps.length ∧ i = .int .i64 j ∧ Hid (ps.take j = ps'.take j) ∧ Below (w.heap.size + 2) ((w.alloc (.cells #[.int .i64 k, .int .u64 a, .int .u64 b, .slice ad ps.length cap] 38)).alloc (.cells #[.int .i64 k, .int .u64 a, .int .u64 b, .slice ad' ps'.length cap'] 38)) wr) (fun i _ => ps.length - (intOf i).toNat)
      case atStart => exact ⟨0, by omega, rfl, Lib.hid (by simp), Below.refl _ _⟩
      case round =>
        obtain ⟨j, hj, rfl, heq, hbel⟩ := hrel
        have hbox : ∀ o, wr.cell? ⟨w.heap.size, o, none⟩ = ((w.alloc (.cells #[.int .i64 k, .int .u64 a, .int .u64 b, .slice ad ps.length cap] 38)).alloc (.cells #[.int .i64 k, .int .u64 a, .int .u64 b, .slice ad' ps'.length cap'] 38)).cell? ⟨w.heap.size, o, none⟩ := fun o => hbel.cell (by simp)
        have hbox' : ∀ o, wr.cell? ⟨w.heap.size + 1, o, none⟩ = ((w.alloc (.cells #[.int .i64 k, .int .u64 a, .int .u64 b, .slice ad ps.length cap] 38)).alloc (.cells #[.int .i64 k, .int .u64 a, .int .u64 b, .slice ad' ps'.length cap'] 38)).cell? ⟨w.heap.size + 1, o, none⟩ := fun o => hbel.cell (by simp)
        have hsz : w.heap.size + 2 ≤ wr.heap.size := by have := hbel.size; simpa using this
        have hb1 : Below w.heap.size w wr := (HB.out _ _).trans (hbel.mono (by omega))
        by_cases hlt : j < ps.length
        · obtain ⟨bl, off, k1, a1, b1, ad1, n1, cap1, rfl, _, g0, g1, g2, g3, _, ge⟩ := (hes.below hb1 (Nat.le_refl _)).part (hs.below (by omega) hb1 (Nat.le_refl _)) j hlt
          obtain ⟨bl', off', k2, a2, b2, ad2, n2, cap2, rfl, _, q0, q1, q2, q3, _, qe⟩ := (hes'.below hb1 (Nat.le_refl _)).part (hs'.below (by omega) hb1 (Nat.le_refl _)) j (by omega)
          have hdj := Ex.depths_ge ps j hlt
          have l1 : bl < wr.heap.size := World.block_lt_of_cell? wr _ g0
          have l2 : bl' < wr.heap.size := World.block_lt_of_cell? wr _ q0
          have l3 : w.heap.size < wr.heap.size := by omega
          have l4 : w.heap.size + 1 < wr.heap.size := by omega
          have fA : wr.cell? ⟨w.heap.size, 3, none⟩ = some (.slice (some ⟨bl, off, none⟩) ps.length cap) := by rw [hbox]; simp [World.cell?_alloc_past, World.cell?_alloc_at]
          have fB : wr.cell? ⟨w.heap.size + 1, 3, none⟩ = some (.slice (some ⟨bl', off', none⟩) ps'.length cap') := by rw [hbox']; simp [World.cell?_alloc_past, World.cell?_alloc_at]
          have x1 : (0 : Int) ≤ (j : Int) := by omega
          have x2 : (j : Int) < (ps.length : Int) := by omega
          have x3 : (j : Int) < (ps'.length : Int) := by omega
          go_wp2_with fail
          go_region_held3 (fun w' => w'.cell? ⟨w.heap.size, 3, none⟩ = some (.slice (some ⟨bl, off, none⟩) ps.length cap) ∧ w'.cell? ⟨w.heap.size + 1, 3, none⟩ = some (.slice (some ⟨bl', off', none⟩) ps'.length cap') ∧
              w'.cell? ⟨bl, off + j * 4, none⟩ = some (.int .i64 k1) ∧ w'.cell? ⟨bl, off + j * 4 + 1, none⟩ = some (.int .u64 a1) ∧ w'.cell? ⟨bl, off + j * 4 + 2, none⟩ = some (.int .u64 b1) ∧ w'.cell? ⟨bl, off + j * 4 + 3, none⟩ = some (.slice ad1 n1 cap1) ∧
              w'.cell? ⟨bl', off' + j * 4, none⟩ = some (.int .i64 k2) ∧ w'.cell? ⟨bl', off' + j * 4 + 1, none⟩ = some (.int .u64 a2) ∧ w'.cell? ⟨bl', off' + j * 4 + 2, none⟩ = some (.int .u64 b2) ∧ w'.cell? ⟨bl', off' + j * 4 + 3, none⟩ = some (.slice ad2 n2 cap2))
            (first | go_keep | exact ⟨(hb2.cell l3).trans fA, (hb2.cell l4).trans fB, (hb2.cell l1).trans g0, (hb2.cell l1).trans g1, (hb2.cell l1).trans g2, (hb2.cell l1).trans g3, (hb2.cell l2).trans q0, (hb2.cell l2).trans q1, (hb2.cell l2).trans q2, (hb2.cell l2).trans q3⟩)
            ((go_at_call 89; refine (IH.out _ _ _ _ ps[j] ps'[j] _ _ _ (by omega) (by omega) (ge.below (Below.refl _ _).drew (Nat.le_refl _)) (qe.below (Below.refl _ _).drew (Nat.le_refl _))).mono ?_; rintro e w' ⟨rfl, hb2⟩))
          cases hc : ps[j].same ps'[j] with
          | true =>
            have HT := Lib.hid (take_snoc_eq ps ps' j hlt (by omega) heq.out ((Ex.same_iff _ _).1 hc))
            clear hc
            go_wp2_with fail
            go_roundw
            case rel => exact ⟨j + 1, by omega, by go_num, HT, (hbel.drew).trans (hb2.mono (by simp; omega))⟩
            case measure => simp [intOf]; omega
          | false =>
            have HF := Lib.hid (Ex.sames_take_false ps ps' j hlt (by omega) hc)
            clear hc
            go_wp2_with fail
            go_ret
            exact ⟨ret_bool (by rw [HF.out]; simp), (hb1.drew).trans (hb2.mono (by simp; omega))⟩
        · have hj2 : j = ps.length := by omega
          subst hj2
          have hfin := Lib.hid (Ex.sames_of_take ps ps' HL.out heq.out)
          go_wp2_with fail
          go_ret
          exact ⟨ret_bool (by rw [hfin.out]; simp), hb1⟩
    · have hf : (decide (k = k') && decide (a = a') && decide (b = b') && Ex.sames ps ps') = false := by
        rw [Ex.sames_eq]; simp; intro h1 h2 h3 h4; subst h4; exact hhead ⟨h1, h2, h3, rfl⟩
      have HF := Lib.hid hf
      have HH := Lib.hid hhead
      clear hf hhead
      go_enter Tryz.func89, Tryz.ntmps89
      go_wp2_with fail
      all_goals first
        | (go_ret; exact ⟨ret_bool HF.out.symm, HB.out _ _⟩)
        | (exfalso; go_tidy; simp only [bne_eq_false_iff_eq] at *; exact HH.out ⟨by omega, by omega, by omega, by omega⟩)
        | go_show
end Go.Proofs.YtjedgiiplebofaaGreatDoor
