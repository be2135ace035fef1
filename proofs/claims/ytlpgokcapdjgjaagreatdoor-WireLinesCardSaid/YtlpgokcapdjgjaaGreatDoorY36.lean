/- Walks. -/
import Derived.Test.YtlpgokcapdjgjaaGreatDoorY32
import Derived.Deep.RegionHeld3
set_option maxHeartbeats 2000000
namespace Go.Proofs.YtlpgokcapdjgjaaGreatDoor
open Go.RowKit Go
set_option linter.unusedVariables false
set_option linter.unusedSimpArgs false
theorem kP (S : Nat → Prop) (own : Bool) (e : Ex) (v : Value) (w : World) (hsz : e.size ≤ 900) (hrep : ax w S own e v) :
  Calls Tryz.prog 88 #[v] w fun r w' => r = .returned (.bool e.right) ∧ Below w.heap.size w w' := by
 have hds := e.depth_le_size
 have HR := hid e.rightP_eq
 obtain ⟨c0, c1, c2, c3, rfl⟩ := hrep.four
 have hb0 : Below w.heap.size w (w.alloc (.cells #[c0, c1, c2, c3] 70)) := br.alloc nl _
 go_enter Tryz.func88, Tryz.ntmps88
 go_wp2_with fail
 refine (oW e.depth _ _ e _ _ nl (by omega) (hrep.below hb0 nl)).mono ?_
 rintro e1 w1 ⟨rfl, hb1⟩
 have hb2 : Below w.heap.size w w1 := hb0.trans (hb1.mono (by simp))
 have hbox : ∀ o, w1.cell? ⟨w.heap.size, o, none⟩ = (w.alloc (.cells #[c0, c1, c2, c3] 70)).cell? ⟨w.heap.size, o, none⟩ := fun o => hb1.cell (by simp)
 have hsz1 : w.heap.size + 1 ≤ w1.heap.size := by have := hb1.size; simpa using this
 by_cases h1 : e.okP = true
 ·rw [h1]
  go_wp2_with fail
  refine (qX e.depth _ _ e _ _ nl (by omega) (hrep.below hb2 nl)).mono ?_
  rintro e2 w2 ⟨rfl, hb3⟩
  have hb4 : Below w.heap.size w w2 := hb2.trans (hb3.mono (by omega))
  have hbox2 : ∀ o, w2.cell? ⟨w.heap.size, o, none⟩ = (w.alloc (.cells #[c0, c1, c2, c3] 70)).cell? ⟨w.heap.size, o, none⟩ := fun o => (hb3.cell (by show w.heap.size < _; omega)).trans (hbox o)
  clear hbox
  have hsz2 : w1.heap.size ≤ w2.heap.size := hb3.size
  by_cases h2 : e.depth ≤ 8
  ·have h2' : decide ((e.depth : Int) ≤ 8) = true := by simp; omega
   go_wp2_with fail
   refine (qY e.size _ _ e _ _ nl (by omega) (hrep.below hb4 nl)).mono ?_
   rintro e3 w3 ⟨rfl, hb5⟩
   clear h2'
   go_wp2_with fail
   go_ret
   exact ⟨ah (by rw [← HR.out]; simp [h1, h2]; omega), hb4.trans (hb5.mono (by omega))⟩
  ·have h2' : decide ((e.depth : Int) ≤ 8) = false := by simp; omega
   go_wp2_with fail
   go_ret
   exact ⟨ah (by rw [← HR.out]; simp [h1, h2]), hb4⟩
 ·have h1' : e.okP = false := by simpa using h1
  rw [h1']
  go_wp2_with fail
  go_ret
  exact ⟨ah (by rw [← HR.out]; simp [h1']), hb2⟩
theorem Ex.sames_take_false (l l' : List Ex) (k : Nat) (h : k < l.length) (h' : k < l'.length) (h0 : l[k].same l'[k] = false) : Ex.sames l l' = false := by
 rw [Ex.sames_eq]; simp; intro e; subst e; rw [Ex.same_refl] at h0; cases h0
theorem Ex.sames_of_take (l l' : List Ex) (h : l.length = l'.length) (h0 : l.take l.length = l'.take l.length) : Ex.sames l l' = true := by
 rw [Ex.sames_eq]; simp; rw [List.take_length, h, List.take_length] at h0; exact h0
theorem gQ {α : Type} (l l' : List α) (k : Nat) (h : k < l.length) (h' : k < l'.length) (h0 : l.take k = l'.take k) (h1 : l[k] = l'[k]) : l.take (k + 1) = l'.take (k + 1) := by
 rw [dM l k h, dM l' k h', h0, h1]
theorem vH (d : Nat) : ∀ (S S' : Nat → Prop) (own own' : Bool) (e e' : Ex) (v v' : Value) (w : World), e.depth ≤ d → d ≤ 1000 → ax w S own e v → ax w S' own' e' v' →
  Calls Tryz.prog 49 #[v, v'] w fun r w' => r = .returned (.bool (e.same e')) ∧ Below w.heap.size w w' := by
 induction d with
 | zero => intro S S' own own' e e' v v' w hd; cases e; simp [Ex.depth] at hd
 | succ d ih =>
  intro S S' own own' e e' v v' w hd hd2 hrep hrep'
  obtain ⟨k, a, b, ps⟩ := e
  obtain ⟨k', a', b', ps'⟩ := e'
  simp only [ax] at hrep hrep'
  obtain ⟨s, xs, rfl, hk1, hk2, ha, hb, hs, hes⟩ := hrep
  obtain ⟨s', xs', rfl, hk1', hk2', ha', hb', hs', hes'⟩ := hrep'
  obtain ⟨hxl, hlen, ad, cap, rfl, hcap⟩ := hs.shape
  obtain ⟨hxl', hlen', ad', cap', rfl, hcap'⟩ := hs'.shape
  have IH := hid ih
  clear ih hxl hxl'
  simp only [Ex.depth] at hd
  simp only [Ex.same]
  have hb0 : Below w.heap.size w ((w.alloc (.cells #[.int .i64 k, .int .u64 a, .int .u64 b, .slice ad ps.length cap] 62)).alloc (.cells #[.int .i64 k', .int .u64 a', .int .u64 b', .slice ad' ps'.length cap'] 62)) := (br.alloc nl _).alloc (by simp) _
  have HB : Hid (∀ o1 o2, Below w.heap.size w ((w.alloc o1).alloc o2)) := hid (fun o1 o2 => (br.alloc nl _).alloc (by simp) _)
  clear hb0
  by_cases hhead : k = k' ∧ a = a' ∧ b = b' ∧ ps.length = ps'.length
  ·obtain ⟨rfl, rfl, rfl, hl⟩ := hhead
   have t1 : ((ps.length : Int) != (ps'.length : Int)) = false := by simp; omega
   have hl1 : ps.length ≤ ps'.length := by omega
   have hl2 : ps'.length ≤ ps.length := by omega
   have HL := hid hl
   clear hl
   go_enter Tryz.func49, Tryz.ntmps49
   go_wp2_with fail
   go_loopw [5] (fun i wr => ∃ j : Nat, j ≤ ps.length ∧ i = .int .i64 j ∧ Hid (ps.take j = ps'.take j) ∧ Below (w.heap.size + 2) ((w.alloc (.cells #[.int .i64 k, .int .u64 a, .int .u64 b, .slice ad ps.length cap] 62)).alloc (.cells #[.int .i64 k, .int .u64 a, .int .u64 b, .slice ad' ps'.length cap'] 62)) wr) (fun i _ => ps.length - (intOf i).toNat)
   case atStart => exact ⟨0, by omega, rfl, hid (by simp), br⟩
   case round =>
    obtain ⟨j, hj, rfl, heq, hbel⟩ := hrel
    have hbox : ∀ o, wr.cell? ⟨w.heap.size, o, none⟩ = ((w.alloc (.cells #[.int .i64 k, .int .u64 a, .int .u64 b, .slice ad ps.length cap] 62)).alloc (.cells #[.int .i64 k, .int .u64 a, .int .u64 b, .slice ad' ps'.length cap'] 62)).cell? ⟨w.heap.size, o, none⟩ := fun o => hbel.cell (by simp)
    have hbox' : ∀ o, wr.cell? ⟨w.heap.size + 1, o, none⟩ = ((w.alloc (.cells #[.int .i64 k, .int .u64 a, .int .u64 b, .slice ad ps.length cap] 62)).alloc (.cells #[.int .i64 k, .int .u64 a, .int .u64 b, .slice ad' ps'.length cap'] 62)).cell? ⟨w.heap.size + 1, o, none⟩ := fun o => hbel.cell (by simp)
    have hsz : w.heap.size + 2 ≤ wr.heap.size := by have := hbel.size; simpa using this
    have hb1 : Below w.heap.size w wr := (HB.out _ _).trans (hbel.mono (by omega))
    by_cases hlt : j < ps.length
    ·obtain ⟨bl, off, k1, a1, b1, ad1, n1, cap1, rfl, _, g0, g1, g2, g3, _, ge⟩ := (hes.below hb1 nl).part (hs.below (by omega) hb1 nl) j hlt
     obtain ⟨bl', off', k2, a2, b2, ad2, n2, cap2, rfl, _, q0, q1, q2, q3, _, qe⟩ := (hes'.below hb1 nl).part (hs'.below (by omega) hb1 nl) j (by omega)
     have hdj := Ex.depths_ge ps j hlt
     have l1 : bl < wr.heap.size := World.block_lt_of_cell? wr _ g0
     have l2 : bl' < wr.heap.size := World.block_lt_of_cell? wr _ q0
     have l3 : w.heap.size < wr.heap.size := by omega
     have l4 : w.heap.size + 1 < wr.heap.size := by omega
     have fA : wr.cell? ⟨w.heap.size, 3, none⟩ = some (.slice (some ⟨bl, off, none⟩) ps.length cap) := by rw [hbox]; simp [World.cell?_alloc_past, World.cell?_alloc_at]
     have fB : wr.cell? ⟨w.heap.size + 1, 3, none⟩ = some (.slice (some ⟨bl', off', none⟩) ps'.length cap') := by rw [hbox']; simp [World.cell?_alloc_past, World.cell?_alloc_at]
     have x1 : (0 : Int) ≤ (j : Int) := by omega
     have x2 : (j : Int) < (ps.length : Int) := by omega
     have x3 : (j : Int) < (ps'.length : Int) := by omega
     go_wp2_with fail
     go_region_held3 (fun w' => w'.cell? ⟨w.heap.size, 3, none⟩ = some (.slice (some ⟨bl, off, none⟩) ps.length cap) ∧ w'.cell? ⟨w.heap.size + 1, 3, none⟩ = some (.slice (some ⟨bl', off', none⟩) ps'.length cap') ∧
       w'.cell? ⟨bl, off + j * 4, none⟩ = some (.int .i64 k1) ∧ w'.cell? ⟨bl, off + j * 4 + 1, none⟩ = some (.int .u64 a1) ∧ w'.cell? ⟨bl, off + j * 4 + 2, none⟩ = some (.int .u64 b1) ∧ w'.cell? ⟨bl, off + j * 4 + 3, none⟩ = some (.slice ad1 n1 cap1) ∧
       w'.cell? ⟨bl', off' + j * 4, none⟩ = some (.int .i64 k2) ∧ w'.cell? ⟨bl', off' + j * 4 + 1, none⟩ = some (.int .u64 a2) ∧ w'.cell? ⟨bl', off' + j * 4 + 2, none⟩ = some (.int .u64 b2) ∧ w'.cell? ⟨bl', off' + j * 4 + 3, none⟩ = some (.slice ad2 n2 cap2))
      (first | go_keep | exact ⟨(hb2.cell l3).trans fA, (hb2.cell l4).trans fB, (hb2.cell l1).trans g0, (hb2.cell l1).trans g1, (hb2.cell l1).trans g2, (hb2.cell l1).trans g3, (hb2.cell l2).trans q0, (hb2.cell l2).trans q1, (hb2.cell l2).trans q2, (hb2.cell l2).trans q3⟩)
      ((go_at_call 49; refine (IH.out _ _ _ _ ps[j] ps'[j] _ _ _ (by omega) (by omega) (ge.below br.drew nl) (qe.below br.drew nl)).mono ?_; rintro e w' ⟨rfl, hb2⟩))
     cases hc : ps[j].same ps'[j] with
     | true =>
      have HT := hid (gQ ps ps' j hlt (by omega) heq.out ((Ex.same_iff _ _).1 hc))
      clear hc
      go_wp2_with fail
      go_roundw
      case rel => exact ⟨j + 1, by omega, by go_num, HT, (hbel.drew).trans (hb2.mono (by simp; omega))⟩
      case measure => simp [intOf]; omega
     | false =>
      have HF := hid (Ex.sames_take_false ps ps' j hlt (by omega) hc)
      clear hc
      go_wp2_with fail
      go_ret
      exact ⟨ah (by rw [HF.out]; simp), (hb1.drew).trans (hb2.mono (by simp; omega))⟩
    ·have hj2 : j = ps.length := by omega
     subst hj2
     have hfin := hid (Ex.sames_of_take ps ps' HL.out heq.out)
     go_wp2_with fail
     go_ret
     exact ⟨ah (by rw [hfin.out]; simp), hb1⟩
  ·have hf : (decide (k = k') && decide (a = a') && decide (b = b') && Ex.sames ps ps') = false := by
    rw [Ex.sames_eq]; simp; intro h1 h2 h3 h4; subst h4; exact hhead ⟨h1, h2, h3, rfl⟩
   have HF := hid hf
   have HH := hid hhead
   clear hf hhead
   go_enter Tryz.func49, Tryz.ntmps49
   go_wp2_with fail
   all_goals first
    | (go_ret; exact ⟨ah HF.out.symm, HB.out _ _⟩)
    | (exfalso; go_tidy; simp only [bne_eq_false_iff_eq] at *; exact HH.out ⟨by omega, by omega, by omega, by omega⟩)
    | go_show
def rZ (w : World) (S S' : Nat → Prop) (own own' : Bool) (ps ps' : List Ex) : Prop :=
 ∀ i (h : i < ps.length) (h' : i < ps'.length) (v v' : Value) (w' : World), Below w.heap.size w w' → ax w' S own ps[i] v → ax w' S' own' ps'[i] v' →
  Calls Tryz.prog 129 #[v, v'] w' fun e w'' => e = .returned (.bool (ps[i].same ps'[i])) ∧ Below w'.heap.size w' w''
theorem xC (S S' : Nat → Prop) (own own' : Bool) (ps ps' : List Ex) (xs xs' : List Value) (ad ad' : Option Addr) (cap cap' : Nat) (w : World)
  (hs : Sl w S own 4 ps.length xs (.slice ad ps.length cap)) (hes : az w S own ps xs) (hs' : Sl w S' own' 4 ps'.length xs' (.slice ad' ps'.length cap')) (hes' : az w S' own' ps' xs')
  (hps : rZ w S S' own own' ps ps') :
  Calls Tryz.prog 188 #[.slice ad ps.length cap, .slice ad' ps'.length cap', .func (.func 129) #[] #[]] w fun e w' => e = .returned (.bool (Ex.sames ps ps')) ∧ Below w.heap.size w w' := by
 have hlen := hs.2.1
 have hlen' := hs'.2.1
 have HP := hid hps
 clear hps
 by_cases hl : ps.length = ps'.length
 ·have t1 : ((ps.length : Int) != (ps'.length : Int)) = false := by simp; omega
  have hl1 : ps.length ≤ ps'.length := by omega
  have hl2 : ps'.length ≤ ps.length := by omega
  have HL := hid hl
  clear hl
  go_enter Tryz.func188, Tryz.ntmps188
  go_wp2_with fail
  go_loopw [17] (fun i wr => ∃ j : Nat, j ≤ ps.length ∧ i = .int .i64 j ∧ Hid (ps.take j = ps'.take j) ∧ Below w.heap.size w wr) (fun i _ => ps.length - (intOf i).toNat)
  case atStart => exact ⟨0, by omega, rfl, hid (by simp), br⟩
  case round =>
   obtain ⟨j, hj, rfl, heq, hbel⟩ := hrel
   by_cases hlt : j < ps.length
   ·obtain ⟨bl, off, k1, a1, b1, ad1, n1, cap1, rfl, _, g0, g1, g2, g3, _, ge⟩ := (hes.below hbel nl).part (hs.below (by omega) hbel nl) j hlt
    obtain ⟨bl', off', k2, a2, b2, ad2, n2, cap2, rfl, _, q0, q1, q2, q3, _, qe⟩ := (hes'.below hbel nl).part (hs'.below (by omega) hbel nl) j (by omega)
    have l1 : bl < wr.heap.size := World.block_lt_of_cell? wr _ g0
    have l2 : bl' < wr.heap.size := World.block_lt_of_cell? wr _ q0
    have hbb : ∀ o1 o2, Below wr.heap.size wr ((wr.alloc o1).alloc o2) := fun o1 o2 => (br.alloc nl _).alloc (by simp) _
    have hsz := hbel.size
    have HB := hid hbb
    clear hbb
    go_wp2_with fail
    refine (HP.out j hlt (by omega) _ _ _ (hbel.trans ((HB.out _ _).mono (by omega))) (ge.below (HB.out _ _) nl) (qe.below (HB.out _ _) nl)).mono ?_
    rintro e w' ⟨rfl, hb2⟩
    cases hc : ps[j].same ps'[j] with
    | true =>
     have HT := hid (gQ ps ps' j hlt (by omega) heq.out ((Ex.same_iff _ _).1 hc))
     clear hc
     go_wp2_with fail
     go_roundw
     case rel => exact ⟨j + 1, by omega, by go_num, HT, (hbel.trans ((HB.out _ _).mono (by omega))).trans (hb2.mono (by first | omega | (simp; done) | (simp; omega)))⟩
     case measure => simp [intOf]; omega
    | false =>
     have HF := hid (Ex.sames_take_false ps ps' j hlt (by omega) hc)
     clear hc
     go_wp2_with fail
     go_ret
     exact ⟨ah (by rw [HF.out]), (hbel.trans ((HB.out _ _).mono (by omega))).trans (hb2.mono (by first | omega | (simp; done) | (simp; omega)))⟩
   ·have hj2 : j = ps.length := by omega
    subst hj2
    have hfin := hid (Ex.sames_of_take ps ps' HL.out heq.out)
    go_wp2_with fail
    go_ret
    exact ⟨ah (by rw [hfin.out]), hbel⟩
 ·have t1 : ((ps.length : Int) != (ps'.length : Int)) = true := by simp; omega
  have hf : Ex.sames ps ps' = false := by
   rw [Ex.sames_eq]; simp; intro h4; subst h4; exact hl rfl
  have HF := hid hf
  clear hf hl
  go_enter Tryz.func188, Tryz.ntmps188
  go_wp2_with fail
  go_ret
  exact ⟨ah HF.out.symm, br⟩
theorem uh (d : Nat) : ∀ (S S' : Nat → Prop) (own own' : Bool) (e e' : Ex) (v v' : Value) (w : World), e.depth ≤ d → ax w S own e v → ax w S' own' e' v' →
  Calls Tryz.prog 129 #[v, v'] w fun r w' => r = .returned (.bool (e.same e')) ∧ Below w.heap.size w w' := by
 induction d with
 | zero => intro S S' own own' e e' v v' w hd; cases e; simp [Ex.depth] at hd
 | succ d ih =>
  intro S S' own own' e e' v v' w hd hrep hrep'
  obtain ⟨k, a, b, ps⟩ := e
  obtain ⟨k', a', b', ps'⟩ := e'
  simp only [ax] at hrep hrep'
  obtain ⟨s, xs, rfl, hk1, hk2, ha, hb, hs, hes⟩ := hrep
  obtain ⟨s', xs', rfl, hk1', hk2', ha', hb', hs', hes'⟩ := hrep'
  obtain ⟨hxl, hlen, ad, cap, rfl, hcap⟩ := hs.shape
  obtain ⟨hxl', hlen', ad', cap', rfl, hcap'⟩ := hs'.shape
  simp only [Ex.depth] at hd
  simp only [Ex.same]
  have hps : ∀ w1, rZ w1 S S' own own' ps ps' := fun w1 i hi hi' v v' w' hb hr hr' => ih S S' own own' ps[i] ps'[i] v v' w' (by have := Ex.depths_ge ps i hi; omega) hr hr'
  have IH := hid hps
  clear ih hxl hxl' hps
  have HB : Hid (∀ o1 o2, Below w.heap.size w ((w.alloc o1).alloc o2)) := hid (fun o1 o2 => (br.alloc nl _).alloc (by simp) _)
  by_cases hhead : k = k' ∧ a = a' ∧ b = b'
  ·obtain ⟨rfl, rfl, rfl⟩ := hhead
   go_enter Tryz.func129, Tryz.ntmps129
   go_wp2_with fail
   refine (xC S S' own own' ps ps' xs xs' ad ad' cap cap' _ (hs.below (by omega) (HB.out _ _) nl) (hes.below (HB.out _ _) nl) (hs'.below (by omega) (HB.out _ _) nl) (hes'.below (HB.out _ _) nl) (IH.out _)).mono ?_
   rintro e w' ⟨rfl, hb2⟩
   go_wp2_with fail
   go_ret
   exact ⟨ah (by simp), (HB.out _ _).trans (hb2.mono (by first | omega | (simp; done) | (simp; omega)))⟩
  ·have hf : (decide (k = k') && decide (a = a') && decide (b = b') && Ex.sames ps ps') = false := by
    simp; intro h1 h2 h3; exact absurd ⟨h1, h2, h3⟩ hhead
   have HF := hid hf
   have HH := hid hhead
   clear hf hhead
   go_enter Tryz.func129, Tryz.ntmps129
   go_wp2_with fail
   all_goals first
    | (go_ret; exact ⟨ah HF.out.symm, HB.out _ _⟩)
    | (exfalso; go_tidy; exact HH.out ⟨by omega, by omega, by omega⟩)
end Go.Proofs.YtlpgokcapdjgjaaGreatDoor
