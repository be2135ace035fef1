/- Walks. -/
import Derived.Test.YtlpgokcapdjgjaaGreatDoorY32
import Derived.Deep.RegionHeld3
set_option maxHeartbeats 2000000
set_option maxRecDepth 100000
namespace Go.Proofs.YtlpgokcapdjgjaaGreatDoor
open Go.RowKit Go
set_option linter.unusedVariables false
set_option linter.unusedSimpArgs false
theorem mi (S : Nat → Prop) (own : Bool) (e : Ex) (v : Value) (w : World) (hsz : e.size ≤ 900) (hrep : aT w S own e v) :
  Calls Tryz.prog 88 #[v] w fun r w' => r = .returned (.bool e.right) ∧ Below w.1.size w w' := by
 have hds := e.depth_le_size;have HR := hid e.rightP_eq;obtain ⟨c0, c1, c2, c3, rfl⟩ := hrep.four;have hb0 : Below w.1.size w (w.alloc (.cells #[c0, c1, c2, c3] 70)) := br.alloc nl _
 go_enter Tryz.func88, Tryz.ntmps88
 go_wp2_with fail;refine (ru e.depth _ _ e _ _ nl (by omega) (hrep.below hb0 nl)).mono ?_;rintro e1 w1 ⟨rfl, hb1⟩;have hb2 : Below w.1.size w w1 := hb0.trans (hb1.mono (by simp));have hbox : ∀ o, w1.cell? ⟨w.1.size, o, none⟩ = (w.alloc (.cells #[c0, c1, c2, c3] 70)).cell? ⟨w.1.size, o, none⟩ := fun o => hb1.cell (by simp)
 have hsz1 : w.1.size + 1 ≤ w1.1.size := by have := hb1.size; simpa using this
 by_cases h1 : e.okP = true
 ·rw [h1]
  go_wp2_with fail;refine (uk e.depth _ _ e _ _ nl (by omega) (hrep.below hb2 nl)).mono ?_;rintro e2 w2 ⟨rfl, hb3⟩;have hb4 : Below w.1.size w w2 := hb2.trans (hb3.mono (by omega));have hbox2 : ∀ o, w2.cell? ⟨w.1.size, o, none⟩ = (w.alloc (.cells #[c0, c1, c2, c3] 70)).cell? ⟨w.1.size, o, none⟩ := fun o => (hb3.cell (by show w.1.size < _; omega)).trans (hbox o)
  clear hbox;have hsz2 : w1.1.size ≤ w2.1.size := hb3.size;by_cases h2 : e.depth ≤ 8
  ·have h2' : decide ((e.depth : Int) ≤ 8) = true := by simp; omega
   go_wp2_with fail;refine (ul e.size _ _ e _ _ nl (by omega) (hrep.below hb4 nl)).mono ?_;rintro e3 w3 ⟨rfl, hb5⟩;clear h2';go_wp2_with fail;go_ret
   exact ⟨aR (by rw [← HR.out]; simp [h1, h2]; omega), hb4.trans (hb5.mono (by omega))⟩
  ·have h2' : decide ((e.depth : Int) ≤ 8) = false := by simp; omega
   go_wp2_with fail;go_ret
   exact ⟨aR (by rw [← HR.out]; simp [h1, h2]), hb4⟩
 ·have h1' : e.okP = false := by simpa using h1
  rw [h1'];go_wp2_with fail;go_ret
  exact ⟨aR (by rw [← HR.out]; simp [h1']), hb2⟩
theorem Ex.sames_take_false (l l' : List Ex) (k : Nat) (h : k < l.length) (h' : k < l'.length) (h0 : l[k].same l'[k] = false) : Ex.sames l l' = false := by
 rw [Ex.sames_eq]; simp; intro e; subst e; rw [Ex.same_refl] at h0; cases h0
theorem Ex.sames_of_take (l l' : List Ex) (h : l.length = l'.length) (h0 : l.take l.length = l'.take l.length) : Ex.sames l l' = true := by
 rw [Ex.sames_eq]; simp; rw [List.take_length, h, List.take_length] at h0; exact h0
theorem iG {α : Type} (l l' : List α) (k : Nat) (h : k < l.length) (h' : k < l'.length) (h0 : l.take k = l'.take k) (h1 : l[k] = l'[k]) : l.take (k + 1) = l'.take (k + 1) := by
 rw [fH l k h, fH l' k h', h0, h1]
theorem xS (d : Nat) : ∀ (S S' : Nat → Prop) (own own' : Bool) (e e' : Ex) (v v' : Value) (w : World), e.depth ≤ d → d ≤ 1000 → aT w S own e v → aT w S' own' e' v' →
  Calls Tryz.prog 49 #[v, v'] w fun r w' => r = .returned (.bool (e.same e')) ∧ Below w.1.size w w' := by
 induction d with
 | zero => intro S S' own own' e e' v v' w hd; cases e; simp [Ex.depth] at hd
 | succ d ih =>
  intro S S' own own' e e' v v' w hd hd2 hrep hrep';obtain ⟨k, a, b, ps⟩ := e;obtain ⟨k', a', b', ps'⟩ := e';simp only [aT] at hrep hrep';obtain ⟨s, xs, rfl, hk1, hk2, ha, hb, hs, hes⟩ := hrep;obtain ⟨s', xs', rfl, hk1', hk2', ha', hb', hs', hes'⟩ := hrep';obtain ⟨hxl, hlen, ad, cap, rfl, hcap⟩ := hs.shape;obtain ⟨hxl', hlen', ad', cap', rfl, hcap'⟩ := hs'.shape;have IH := hid ih;clear ih hxl hxl';simp only [Ex.depth] at hd;simp only [Ex.same];have hb0 : Below w.1.size w ((w.alloc (.cells #[.int .i64 k, .int .u64 a, .int .u64 b, .slice ad ps.length cap] 62)).alloc (.cells #[.int .i64 k', .int .u64 a', .int .u64 b', .slice ad' ps'.length cap'] 62)) := (br.alloc nl _).alloc (by simp) _;have HB : Hid (∀ o1 o2, Below w.1.size w ((w.alloc o1).alloc o2)) := hid (fun o1 o2 => (br.alloc nl _).alloc (by simp) _);clear hb0;by_cases hhead : k = k' ∧ a = a' ∧ b = b' ∧ ps.length = ps'.length
  ·obtain ⟨rfl, rfl, rfl, hl⟩ := hhead
   have t1 : ((ps.length : Int) != (ps'.length : Int)) = false := (by simp; omega);have hl1 : ps.length ≤ ps'.length := (by omega);have hl2 : ps'.length ≤ ps.length := (by omega);have HL := hid hl;clear hl
   go_enter Tryz.func49, Tryz.ntmps49
   go_wp2_with fail
   go_loopw [5] (fun i wr => ∃ j : Nat, j ≤ ps.length ∧ i = .int .i64 j ∧ Hid (ps.take j = ps'.take j) ∧ Below (w.1.size + 2) ((w.alloc (.cells #[.int .i64 k, .int .u64 a, .int .u64 b, .slice ad ps.length cap] 62)).alloc (.cells #[.int .i64 k, .int .u64 a, .int .u64 b, .slice ad' ps'.length cap'] 62)) wr) (fun i _ => ps.length - (intOf i).toNat)
   case atStart => exact ⟨0, by omega, rfl, hid (by simp), br⟩
   case round =>
    obtain ⟨j, hj, rfl, heq, hbel⟩ := hrel;have hbox : ∀ o, wr.cell? ⟨w.1.size, o, none⟩ = ((w.alloc (.cells #[.int .i64 k, .int .u64 a, .int .u64 b, .slice ad ps.length cap] 62)).alloc (.cells #[.int .i64 k, .int .u64 a, .int .u64 b, .slice ad' ps'.length cap'] 62)).cell? ⟨w.1.size, o, none⟩ := fun o => hbel.cell (by simp)
    have hbox' : ∀ o, wr.cell? ⟨w.1.size + 1, o, none⟩ = ((w.alloc (.cells #[.int .i64 k, .int .u64 a, .int .u64 b, .slice ad ps.length cap] 62)).alloc (.cells #[.int .i64 k, .int .u64 a, .int .u64 b, .slice ad' ps'.length cap'] 62)).cell? ⟨w.1.size + 1, o, none⟩ := fun o => hbel.cell (by simp)
    have hsz : w.1.size + 2 ≤ wr.1.size := (by have := hbel.size; simpa using this);have hb1 : Below w.1.size w wr := (HB.out _ _).trans (hbel.mono (by omega));by_cases hlt : j < ps.length
    ·obtain ⟨bl, off, k1, a1, b1, ad1, n1, cap1, rfl, _, g0, g1, g2, g3, _, ge⟩ := (hes.below hb1 nl).part (hs.below (by omega) hb1 nl) j hlt
     obtain ⟨bl', off', k2, a2, b2, ad2, n2, cap2, rfl, _, q0, q1, q2, q3, _, qe⟩ := (hes'.below hb1 nl).part (hs'.below (by omega) hb1 nl) j (by omega);have hdj := Ex.depths_ge ps j hlt;have l1 : bl < wr.1.size := aG wr _ g0;have l2 : bl' < wr.1.size := aG wr _ q0;have l3 : w.1.size < wr.1.size := (by omega);have l4 : w.1.size + 1 < wr.1.size := (by omega);have fA : wr.cell? ⟨w.1.size, 3, none⟩ = some (.slice (some ⟨bl, off, none⟩) ps.length cap) := (by rw [hbox]; simp [World.cell?_alloc_past, World.cell?_alloc_at]);have fB : wr.cell? ⟨w.1.size + 1, 3, none⟩ = some (.slice (some ⟨bl', off', none⟩) ps'.length cap') := (by rw [hbox']; simp [World.cell?_alloc_past, World.cell?_alloc_at]);have x1 : (0 : Int) ≤ (j : Int) := (by omega);have x2 : (j : Int) < (ps.length : Int) := (by omega);have x3 : (j : Int) < (ps'.length : Int) := (by omega);go_wp2_with fail
     go_region_held3 (fun w' => w'.cell? ⟨w.1.size, 3, none⟩ = some (.slice (some ⟨bl, off, none⟩) ps.length cap) ∧ w'.cell? ⟨w.1.size + 1, 3, none⟩ = some (.slice (some ⟨bl', off', none⟩) ps'.length cap') ∧
       w'.cell? ⟨bl, off + j * 4, none⟩ = some (.int .i64 k1) ∧ w'.cell? ⟨bl, off + j * 4 + 1, none⟩ = some (.int .u64 a1) ∧ w'.cell? ⟨bl, off + j * 4 + 2, none⟩ = some (.int .u64 b1) ∧ w'.cell? ⟨bl, off + j * 4 + 3, none⟩ = some (.slice ad1 n1 cap1) ∧
       w'.cell? ⟨bl', off' + j * 4, none⟩ = some (.int .i64 k2) ∧ w'.cell? ⟨bl', off' + j * 4 + 1, none⟩ = some (.int .u64 a2) ∧ w'.cell? ⟨bl', off' + j * 4 + 2, none⟩ = some (.int .u64 b2) ∧ w'.cell? ⟨bl', off' + j * 4 + 3, none⟩ = some (.slice ad2 n2 cap2))
      (first | go_keep | exact ⟨(hb2.cell l3).trans fA, (hb2.cell l4).trans fB, (hb2.cell l1).trans g0, (hb2.cell l1).trans g1, (hb2.cell l1).trans g2, (hb2.cell l1).trans g3, (hb2.cell l2).trans q0, (hb2.cell l2).trans q1, (hb2.cell l2).trans q2, (hb2.cell l2).trans q3⟩)
      ((go_at_call 49; refine (IH.out _ _ _ _ ps[j] ps'[j] _ _ _ (by omega) (by omega) (ge.below br.drew nl) (qe.below br.drew nl)).mono ?_; rintro e w' ⟨rfl, hb2⟩))
     cases hc : ps[j].same ps'[j] with
     | true =>
      have HT := hid (iG ps ps' j hlt (by omega) heq.out ((Ex.same_iff _ _).1 hc));clear hc;go_wp2_with fail;go_roundw
      case rel => exact ⟨j + 1, by omega, by go_num, HT, (hbel.drew).trans (hb2.mono (by simp; omega))⟩
      case measure => simp [intOf]; omega
     | false =>
      have HF := hid (Ex.sames_take_false ps ps' j hlt (by omega) hc);clear hc;go_wp2_with fail;go_ret
      exact ⟨aR (by rw [HF.out]; simp), (hb1.drew).trans (hb2.mono (by simp; omega))⟩
    ·have hj2 : j = ps.length := by omega
     subst hj2;have hfin := hid (Ex.sames_of_take ps ps' HL.out heq.out);go_wp2_with fail;go_ret
     exact ⟨aR (by rw [hfin.out]; simp), hb1⟩
  ·have hf : (decide (k = k') && decide (a = a') && decide (b = b') && Ex.sames ps ps') = false := by
    rw [Ex.sames_eq]; simp; intro h1 h2 h3 h4; subst h4; exact hhead ⟨h1, h2, h3, rfl⟩
   have HF := hid hf;have HH := hid hhead;clear hf hhead
   go_enter Tryz.func49, Tryz.ntmps49
   go_wp2_with fail
   all_goals first
    | (go_ret; exact ⟨aR HF.out.symm, HB.out _ _⟩)
    | (exfalso; go_tidy; simp only [bne_eq_false_iff_eq] at *; exact HH.out ⟨by omega, by omega, by omega, by omega⟩)
    | go_show
def uS (w : World) (S S' : Nat → Prop) (own own' : Bool) (ps ps' : List Ex) : Prop :=
 ∀ i (h : i < ps.length) (h' : i < ps'.length) (v v' : Value) (w' : World), Below w.1.size w w' → aT w' S own ps[i] v → aT w' S' own' ps'[i] v' →
  Calls Tryz.prog 129 #[v, v'] w' fun e w'' => e = .returned (.bool (ps[i].same ps'[i])) ∧ Below w'.1.size w' w''
theorem zP (S S' : Nat → Prop) (own own' : Bool) (ps ps' : List Ex) (xs xs' : List Value) (ad ad' : Option Addr) (cap cap' : Nat) (w : World)
  (hs : Sl w S own 4 ps.length xs (.slice ad ps.length cap)) (hes : aX w S own ps xs) (hs' : Sl w S' own' 4 ps'.length xs' (.slice ad' ps'.length cap')) (hes' : aX w S' own' ps' xs')
  (hps : uS w S S' own own' ps ps') :
  Calls Tryz.prog 188 #[.slice ad ps.length cap, .slice ad' ps'.length cap', .func (.func 129) #[] #[]] w fun e w' => e = .returned (.bool (Ex.sames ps ps')) ∧ Below w.1.size w w' := by
 have hlen := hs.2.1;have hlen' := hs'.2.1;have HP := hid hps;clear hps;by_cases hl : ps.length = ps'.length
 ·have t1 : ((ps.length : Int) != (ps'.length : Int)) = false := by simp; omega
  have hl1 : ps.length ≤ ps'.length := by omega
  have hl2 : ps'.length ≤ ps.length := by omega
  have HL := hid hl;clear hl
  go_enter Tryz.func188, Tryz.ntmps188
  go_wp2_with fail
  go_loopw [17] (fun i wr => ∃ j : Nat, j ≤ ps.length ∧ i = .int .i64 j ∧ Hid (ps.take j = ps'.take j) ∧ Below w.1.size w wr) (fun i _ => ps.length - (intOf i).toNat)
  case atStart => exact ⟨0, by omega, rfl, hid (by simp), br⟩
  case round =>
   obtain ⟨j, hj, rfl, heq, hbel⟩ := hrel;by_cases hlt : j < ps.length
   ·obtain ⟨bl, off, k1, a1, b1, ad1, n1, cap1, rfl, _, g0, g1, g2, g3, _, ge⟩ := (hes.below hbel nl).part (hs.below (by omega) hbel nl) j hlt
    obtain ⟨bl', off', k2, a2, b2, ad2, n2, cap2, rfl, _, q0, q1, q2, q3, _, qe⟩ := (hes'.below hbel nl).part (hs'.below (by omega) hbel nl) j (by omega);have l1 : bl < wr.1.size := aG wr _ g0;have l2 : bl' < wr.1.size := aG wr _ q0;have hbb : ∀ o1 o2, Below wr.1.size wr ((wr.alloc o1).alloc o2) := fun o1 o2 => (br.alloc nl _).alloc (by simp) _
    have hsz := hbel.size;have HB := hid hbb;clear hbb;go_wp2_with fail;refine (HP.out j hlt (by omega) _ _ _ (hbel.trans ((HB.out _ _).mono (by omega))) (ge.below (HB.out _ _) nl) (qe.below (HB.out _ _) nl)).mono ?_;rintro e w' ⟨rfl, hb2⟩;cases hc : ps[j].same ps'[j] with
    | true =>
     have HT := hid (iG ps ps' j hlt (by omega) heq.out ((Ex.same_iff _ _).1 hc));clear hc;go_wp2_with fail;go_roundw
     case rel => exact ⟨j + 1, by omega, by go_num, HT, (hbel.trans ((HB.out _ _).mono (by omega))).trans (hb2.mono (by first | omega | (simp; done) | (simp; omega)))⟩
     case measure => simp [intOf]; omega
    | false =>
     have HF := hid (Ex.sames_take_false ps ps' j hlt (by omega) hc);clear hc;go_wp2_with fail;go_ret
     exact ⟨aR (by rw [HF.out]), (hbel.trans ((HB.out _ _).mono (by omega))).trans (hb2.mono (by first | omega | (simp; done) | (simp; omega)))⟩
   ·have hj2 : j = ps.length := by omega
    subst hj2;have hfin := hid (Ex.sames_of_take ps ps' HL.out heq.out);go_wp2_with fail;go_ret
    exact ⟨aR (by rw [hfin.out]), hbel⟩
 ·have t1 : ((ps.length : Int) != (ps'.length : Int)) = true := by simp; omega
  have hf : Ex.sames ps ps' = false := by
   rw [Ex.sames_eq]; simp; intro h4; subst h4; exact hl rfl
  have HF := hid hf;clear hf hl
  go_enter Tryz.func188, Tryz.ntmps188
  go_wp2_with fail;go_ret
  exact ⟨aR HF.out.symm, br⟩
theorem wE (d : Nat) : ∀ (S S' : Nat → Prop) (own own' : Bool) (e e' : Ex) (v v' : Value) (w : World), e.depth ≤ d → aT w S own e v → aT w S' own' e' v' →
  Calls Tryz.prog 129 #[v, v'] w fun r w' => r = .returned (.bool (e.same e')) ∧ Below w.1.size w w' := by
 induction d with
 | zero => intro S S' own own' e e' v v' w hd; cases e; simp [Ex.depth] at hd
 | succ d ih =>
  intro S S' own own' e e' v v' w hd hrep hrep';obtain ⟨k, a, b, ps⟩ := e;obtain ⟨k', a', b', ps'⟩ := e';simp only [aT] at hrep hrep';obtain ⟨s, xs, rfl, hk1, hk2, ha, hb, hs, hes⟩ := hrep;obtain ⟨s', xs', rfl, hk1', hk2', ha', hb', hs', hes'⟩ := hrep';obtain ⟨hxl, hlen, ad, cap, rfl, hcap⟩ := hs.shape;obtain ⟨hxl', hlen', ad', cap', rfl, hcap'⟩ := hs'.shape;simp only [Ex.depth] at hd;simp only [Ex.same];have hps : ∀ w1, uS w1 S S' own own' ps ps' := fun w1 i hi hi' v v' w' hb hr hr' => ih S S' own own' ps[i] ps'[i] v v' w' (by have := Ex.depths_ge ps i hi; omega) hr hr'
  have IH := hid hps;clear ih hxl hxl' hps;have HB : Hid (∀ o1 o2, Below w.1.size w ((w.alloc o1).alloc o2)) := hid (fun o1 o2 => (br.alloc nl _).alloc (by simp) _);by_cases hhead : k = k' ∧ a = a' ∧ b = b'
  ·obtain ⟨rfl, rfl, rfl⟩ := hhead
   go_enter Tryz.func129, Tryz.ntmps129
   go_wp2_with fail;refine (zP S S' own own' ps ps' xs xs' ad ad' cap cap' _ (hs.below (by omega) (HB.out _ _) nl) (hes.below (HB.out _ _) nl) (hs'.below (by omega) (HB.out _ _) nl) (hes'.below (HB.out _ _) nl) (IH.out _)).mono ?_;rintro e w' ⟨rfl, hb2⟩;go_wp2_with fail;go_ret
   exact ⟨aR (by simp), (HB.out _ _).trans (hb2.mono (by first | omega | (simp; done) | (simp; omega)))⟩
  ·have hf : (decide (k = k') && decide (a = a') && decide (b = b') && Ex.sames ps ps') = false := by
    simp; intro h1 h2 h3; exact absurd ⟨h1, h2, h3⟩ hhead
   have HF := hid hf;have HH := hid hhead;clear hf hhead
   go_enter Tryz.func129, Tryz.ntmps129
   go_wp2_with fail
   all_goals first
    | (go_ret; exact ⟨aR HF.out.symm, HB.out _ _⟩)
    | (exfalso; go_tidy; exact HH.out ⟨by omega, by omega, by omega⟩)
theorem lV : (Tryz.prog.info? 62).map (fun i => (i.zero, i.size, i.bytes)) = some (some (.agg #[.int .i64 0, .int .u64 0, .int .u64 0, .slice none 0 0]), 4, 48) := by kernel_rfl
theorem kN : (Tryz.prog.info? 70).map (fun i => (i.zero, i.size, i.bytes)) = some (some (.agg #[.int .i64 0, .int .u64 0, .int .u64 0, .slice none 0 0]), 4, 48) := by kernel_rfl
theorem xU (d : Nat) : ∀ (S : Nat → Prop) (own : Bool) (e : Ex) (v : Value) (w : World), e.depth ≤ d → d ≤ 1000 → e.size ≤ 1000 → aT w S own e v →
  Calls Tryz.prog 51 #[v] w fun r w' => (∃ v', r = .returned v' ∧ aT w' (fun b => w.1.size ≤ b) true e v') ∧ Below w.1.size w w' := by
 obtain ⟨i0, hi0, hz0, hz1, hz2⟩ := info_parts lV
 induction d with
 | zero => intro S own e v w hd; cases e; simp [Ex.depth] at hd
 | succ d ih =>
  intro S own e v w hd hd2 hsz hrep;obtain ⟨k, a, b, ps⟩ := e;simp only [aT] at hrep;obtain ⟨s, xs, rfl, hk1, hk2, ha, hb, hs, hes⟩ := hrep;obtain ⟨hxl, hlen, ad, cap, rfl, hcap⟩ := hs.shape;have IH := hid ih;clear ih hxl;simp only [Ex.depth, Ex.size] at hd hsz;have hpl := Ex.length_le_sizes ps
  go_enter Tryz.func51, Tryz.ntmps51
  go_wp2_with fail
  go_loopw [4] (fun i wr => ∃ j : Nat, ∃ sv, j ≤ ps.length ∧ i = .int .i64 j ∧ Below w.1.size w wr ∧
    wr.1[w.1.size]? = some (.cells #[.int .i64 k, .int .u64 a, .int .u64 b, .slice ad ps.length cap] 70 (0, 0)) ∧
    wr.1[w.1.size + 1]? = some (.cells #[.int .i64 0, .int .u64 0, .int .u64 0, .slice none 0 0] 62 (0, 0)) ∧
    wr.1[w.1.size + 2]? = some (.cells #[.int .i64 k, .int .u64 a, .int .u64 b, sv] 62 (0, 0)) ∧
    Making wr (w.1.size + 3) 62 sv (ps.take j)) (fun i _ => ps.length - (intOf i).toNat)
  case atStart =>
   refine ⟨0, .slice none 0 0, by omega, rfl, ((br.alloc nl _).alloc (by simp) _).alloc (by simp; omega) _, ?_, ?_, ?_, Making.nil _ _ _⟩
   ·rw [az _ _ _ (by simp; omega), az _ _ _ (by simp)]; exact aK _ _ _ rfl
   ·rw [az _ _ _ (by simp)]; exact aK _ _ _ (by simp)
   ·exact aK _ _ _ (by simp)
  case round =>
   obtain ⟨j, sv, hj, rfl, hbel, hh0, hh1, hh2, ys, hown, hey⟩ := hrel;have hm : ps.length ≤ 1000 := (by omega);have c0 : wr.cell? ⟨w.1.size, 3, none⟩ = some (.slice ad ps.length cap) := (by rw [ax wr _ 3 _ _ _ hh0]; rfl);have hsz3 : w.1.size + 2 < wr.1.size := (ak hh2).1;by_cases hlt : j < ps.length
   ·obtain ⟨bl, off, k', a', b', ad', n', cap', rfl, _, g0, g1, g2, g3, _, ge⟩ := (hes.below hbel nl).part (hs.below (by omega) hbel nl) j hlt
    have hdj := Ex.depths_ge ps j hlt;have hsj := Ex.sizes_ge ps j hlt;have c2 : wr.cell? ⟨w.1.size + 2, 3, none⟩ = some sv := (by rw [ax wr _ 3 _ _ _ hh2]; rfl);have f2 : wr.frozen? ⟨w.1.size + 2, 3, none⟩ = false := (by rw [aA wr _ 3 _ _ hh2]);have l0 : w.1.size < wr.1.size := (by omega);have l1 : bl < wr.1.size := aG wr _ g0;have x1 : (0 : Int) ≤ (j : Int) := (by omega);have x2 : (j : Int) < (ps.length : Int) := (by omega);have HH := hid (au hh0 (au hh1 hh2));clear hh0 hh1 hh2;have hlj : (ps.take j).length = j := (by simp; omega);rw [hlj] at hown;clear hlj;obtain ⟨sa, sc, rfl⟩ := aQ hown;have hob := hown.lt;have hsz4 : w.1.size + 1 + 1 < wr.1.size := (by omega);go_wp2_with fail
    go_region_law (first
     | (go_simp; go_at_call 51; refine (IH.out _ _ ps[j] _ _ (by omega) (by omega) (by omega) (ge.below br.drew nl)).mono ?_; rintro e w1 ⟨⟨v', rfl, hv'⟩, hb1⟩; obtain ⟨hc1, hf1⟩ := xE hb1; have hzw : w.1.size + 1 + 1 < w1.1.size := (by have := hb1.size; simp at this; omega); have hx1 : w1.cell? ⟨w.1.size + 1 + 1, 3, none⟩ = some (.slice sa j sc) := ((hb1.cell hsz4).trans c2); obtain ⟨q0, q1, q2, q3, q4, q5, rfl⟩ := hv'.conc)
     | (refine step_append_lies _ (by rfl) (.tmp 20) (.tmp 27) 60 (by rfl) (w.1.size + 3) 62 i0 _ 4 48 Tryz.underlying60 hi0 hz0 hz1 hz2 rfl (by omega) (.slice sa j sc) j ys (by rfl) ((ownsRow_below hown (Below.drew br |>.trans hb1) nl).alloc _) ⟨w1.1.size, 0, none⟩ 1 1 [.int .i64 q0, .int .u64 q1, .int .u64 q2, .slice q3 q4 q5] (by rfl) (by rfl) (World.news_of_block (cs := #[.int .i64 q0, .int .u64 q1, .int .u64 q2, .slice q3 q4 q5]) (t := 62) (fr := (0, 0)) (heap_alloc_new w1 _)) (by simp [Value.oneCell'])
         (by omega) (by unfold maxLen; omega) (by omega) (by have := hb1.size; simp at this ⊢; omega) (w1.1.size + 1) (by simp) ?_; intro gg gcap w2 hown2 hgrow hat hlt2
        have hne : some (w.1.size + 2) ≠ (Value.slice sa j sc).ownBlock := fun e => (by have := hob _ e.symm; omega)
        have hzz : w.1.size + 2 < w1.1.size := (by have := hb1.size; simp at this; omega);have c5 : w2.cell? ⟨w.1.size + 2, 3, none⟩ = some (.slice sa j sc) := (by rw [hgrow.cell_far _ (by simp; omega) hne, World.cell?_alloc_past _ _ _ hzz, hc1 _ _ hsz3]; exact c2);have f5 : w2.frozen? ⟨w.1.size + 2, 3, none⟩ = false := (by rw [hgrow.frozen_far _ (by simp; omega) hne, World.frozen?_alloc_past _ _ _ hzz, hf1 _ _ hsz3]; exact f2)))
    all_goals
     have HR : Hid (Making w2 (w.1.size + 3) 62 (.slice (some ⟨gg, 0, none⟩) (j + 1) gcap) (ps.take (j + 1)) ∧ Below w.1.size w w2 ∧
       w2.1[w.1.size]? = some (.cells #[.int .i64 k, .int .u64 a, .int .u64 b, .slice (some ⟨bl, off, none⟩) ps.length cap] 70 (0, 0)) ∧
       w2.1[w.1.size + 1]? = some (.cells #[.int .i64 0, .int .u64 0, .int .u64 0, .slice none 0 0] 62 (0, 0)) ∧
       w2.1[w.1.size + 2]? = some (.cells #[.int .i64 k, .int .u64 a, .int .u64 b, .slice sa j sc] 62 (0, 0))) := by
      have hb1' : Below wr.1.size wr w1 := br.drew.trans hb1;have hlj : (ps.take j).length = j := (by simp; omega);refine hid ⟨?_, ?_, ?_, ?_, ?_⟩
      ·rw [fH ps j hlt]
       have hm := Making.push (es := ps.take j) (by rw [hlj]; exact hown) hey (by omega) hb1' nl hv' hgrow (by rw [hlj]; exact hown2) hat;rw [hlj] at hm; exact hm
      ·exact Below.grown' (base := w.1.size + 3) (hbel.trans (hb1'.mono (by omega))) hgrow (fun k hk => by have := hob k hk; have := hb1'.size; omega) (by have := hb1'.size; omega) (by omega)
      ·rw [nD hb1' (by omega) (by omega) hgrow (fun e => by have := hob _ e.symm; omega)]; exact HH.out.1
      ·rw [nD hb1' (by omega) (by omega) hgrow (fun e => by have := hob _ e.symm; omega)]; exact HH.out.2.1
      ·rw [nD hb1' (by omega) (by omega) hgrow (fun e => by have := hob _ e.symm; omega)]; exact HH.out.2.2
     clear hown2 hgrow hat c5 f5 hne hv' hey hown hc1 hf1 hx1;go_wp2_with fail;go_roundw
     case rel =>
      obtain ⟨r1, r2, r3, r4, r5⟩ := HR.out;refine ⟨j + 1, .slice (some ⟨gg, 0, none⟩) (j + 1) gcap, by omega, by go_num, r2.setCell (by first | omega | (simp; done) | (simp; omega)) _, ?_, ?_, aM r5 (by simp), r1.setCell _ (by first | omega | (simp; done) | (simp; omega)) _⟩
      ·rw [ay _ _ _ _ (by first | omega | (simp; done) | (simp; omega))]; exact r3
      ·rw [ay _ _ _ _ (by first | omega | (simp; done) | (simp; omega))]; exact r4
     case measure => simp [intOf]; omega
   ·have hj2 : j = ps.length := by omega
    subst hj2;rw [List.take_length] at hown hey;obtain ⟨sa, sc, rfl⟩ := aQ hown;obtain ⟨zs, hz1, hz2⟩ := Making.sl ⟨ys, hown, hey⟩;have e0 : wr.cell? ⟨w.1.size + 1 + 1, 0, none⟩ = some (.int .i64 k) := (by rw [ax wr _ 0 _ _ _ hh2]; rfl);have e1 : wr.cell? ⟨w.1.size + 1 + 1, 1, none⟩ = some (.int .u64 a) := (by rw [ax wr _ 1 _ _ _ hh2]; rfl);have e2 : wr.cell? ⟨w.1.size + 1 + 1, 2, none⟩ = some (.int .u64 b) := (by rw [ax wr _ 2 _ _ _ hh2]; rfl);have e3 : wr.cell? ⟨w.1.size + 1 + 1, 3, none⟩ = some (.slice sa ps.length sc) := (by rw [ax wr _ 3 _ _ _ hh2]; rfl);have HZ := hid (au hz1 (au hz2 (au hh1 hbel)));clear hh0 hh1 hh2 hz1 hz2 hown hey
    go_wp2_with (refine wpList_store_row rfl 62 (.tmp 2) (.tmp 30) rfl rfl (w.1.size + 1) rfl _ rfl 62 #[.int .i64 0, .int .u64 0, .int .u64 0, .slice none 0 0] HZ.out.2.2.1 (by kernel_rfl) rfl (by simp [Value.oneCell']) ?_)
    have hlt1 : w.1.size + 1 < wr.1.size := (by omega);refine aC (v := .agg #[.int .i64 k, .int .u64 a, .int .u64 b, .slice sa ps.length sc]) (results_cell_row rfl _ _ (w.1.size + 1) 62 _ _ _ rfl (aB _ _ _ _ _ _ HZ.out.2.2.1) Tryz.underlying62 rfl (by kernel_rfl)) rfl
     ⟨⟨_, rfl, ?_⟩, below_setRow HZ.out.2.2.2 _ _ (by omega)⟩
    have hkeep : cz (fun b => w.1.size + 3 ≤ b) wr (wr.setRow (w.1.size + 1) #[.int .i64 k, .int .u64 a, .int .u64 b, .slice sa ps.length sc]) := fun b hb _ => setRow_other _ _ _ _ (by omega)
    simp only [aT];exact ⟨_, zs, rfl, hk1, hk2, ha, hb, HZ.out.1.keep (by omega) hkeep (fun _ _ h => by omega), aX.keep hkeep (fun _ _ h => by omega) HZ.out.2.1⟩
def Sim (v v' : Value) : Prop := v' = v ∨ ∃ k n n', v = .int k n ∧ v' = .int k n'
def qD (S : Nat → Prop) (w w' : World) : Prop :=
 (∀ b o v, S b → w.cell? ⟨b, o, none⟩ = some v → ∃ v', w'.cell? ⟨b, o, none⟩ = some v' ∧ Sim v v') ∧ ∀ b o, S b → b < w.1.size → w'.frozen? ⟨b, o, none⟩ = w.frozen? ⟨b, o, none⟩
theorem Sim.refl (v : Value) : Sim v v := Or.inl rfl
theorem Sim.trans {a b c : Value} (h : Sim a b) (k : Sim b c) : Sim a c := by
 rcases h with rfl | ⟨k1, n, n', rfl, rfl⟩
 ·exact k
 ·rcases k with rfl | ⟨k2, m, m', h1, rfl⟩
  ·exact Or.inr ⟨_, _, _, rfl, rfl⟩
  ·simp only [Value.int.injEq] at h1; obtain ⟨rfl, rfl⟩ := h1; exact Or.inr ⟨_, _, _, rfl, rfl⟩
theorem qD.trans {S : Nat → Prop} {w w' w'' : World} (h : qD S w w') (hs : w.1.size ≤ w'.1.size) (k : qD S w' w'') : qD S w w'' :=
 ⟨fun b o v hb hc => by
  obtain ⟨v', h1, h2⟩ := h.1 b o v hb hc;obtain ⟨v'', h3, h4⟩ := k.1 b o v' hb h1;exact ⟨v'', h3, h2.trans h4⟩, fun b o hb hl => (k.2 b o hb (by omega)).trans (h.2 b o hb hl)⟩
theorem qD.below {S : Nat → Prop} {B : Nat} {w w' : World} (h : Below B w w') (hB : w.1.size ≤ B) : qD S w w' :=
 ⟨fun b o v _ hc => ⟨v, by rw [h.cell (show (⟨b, o, none⟩ : Addr).block < B from by have := aG w _ hc; simp at this ⊢; omega)]; exact hc, Sim.refl v⟩,
   fun b o _ hl => h.frozen (show (⟨b, o, none⟩ : Addr).block < B from by simp; omega)⟩
theorem qD.set {S : Nat → Prop} {w : World} {a : Addr} {k : IntKind} {n n' : Int} (hsp : a.spot = none) (h : w.cell? a = some (.int k n)) : qD S w (w.setCell a (.int k n')) := by
 obtain ⟨ab, ao, asp⟩ := a;simp only at hsp;subst hsp;refine ⟨fun b o v _ hc => ?_, fun b o _ _ => ?_⟩
 ·by_cases e : b = ab ∧ o = ao
  ·obtain ⟨rfl, rfl⟩ := e
   rw [h] at hc;simp only [Option.some.injEq] at hc;exact ⟨.int k n', World.cell?_setCell_same _ _ _ h, Or.inr ⟨k, n, n', hc.symm, rfl⟩⟩
  ·refine ⟨v, ?_, Sim.refl v⟩
   rw [aF _ _ _ _ (by intro hh; cases hh; exact e (by simp))];exact hc
 ·simp
def ShE (w : World) (S : Nat → Prop) : Nat → Value → Prop
 | 0, _ => False
 | d + 1, v => ∃ k a b ad n cap, v = .agg #[.int .i64 k, .int .u64 a, .int .u64 b, .slice ad n cap] ∧ n ≤ 9223372036854775807 ∧
   (0 < n → ∃ bl off, ad = some ⟨bl, off, none⟩ ∧ S bl ∧ ∀ i, i < n → ∃ k' a' b' ad' n' cap', w.cell? ⟨bl, off + i * 4, none⟩ = some (.int .i64 k') ∧ w.cell? ⟨bl, off + i * 4 + 1, none⟩ = some (.int .u64 a') ∧
    w.cell? ⟨bl, off + i * 4 + 2, none⟩ = some (.int .u64 b') ∧ w.cell? ⟨bl, off + i * 4 + 3, none⟩ = some (.slice ad' n' cap') ∧ w.frozen? ⟨bl, off + i * 4, none⟩ = false ∧ w.frozen? ⟨bl, off + i * 4 + 1, none⟩ = false ∧
    ShE w S d (.agg #[.int .i64 k', .int .u64 a', .int .u64 b', .slice ad' n' cap']))
theorem ShE.ints {w : World} {S : Nat → Prop} {d : Nat} {k a b k2 a2 b2 : Int} {s : Value} (h : ShE w S d (.agg #[.int .i64 k, .int .u64 a, .int .u64 b, s])) : ShE w S d (.agg #[.int .i64 k2, .int .u64 a2, .int .u64 b2, s]) := by
 cases d with
 | zero => exact h
 | succ d =>
  obtain ⟨k', a', b', ad, n, cap, h1, h2⟩ := h;simp only [Value.agg.injEq, Array.mk.injEq, List.cons.injEq, and_true] at h1;obtain ⟨_, _, _, rfl⟩ := h1;exact ⟨k2, a2, b2, ad, n, cap, rfl, h2⟩
theorem ShE.soft {w w' : World} {S : Nat → Prop} (hs : qD S w w') : ∀ {d : Nat} {v : Value}, ShE w S d v → ShE w' S d v
 | 0, _, h => h
 | d + 1, v, h => by
  obtain ⟨k, a, b, ad, n, cap, h1, h2, h3⟩ := h;refine ⟨k, a, b, ad, n, cap, h1, h2, fun hn => ?_⟩;obtain ⟨bl, off, ha, hS, hp⟩ := h3 hn;refine ⟨bl, off, ha, hS, fun i hi => ?_⟩;obtain ⟨k', a', b', ad', n', cap', g0, g1, g2, g3, f0, f1, hsub⟩ := hp i hi;have hlt : bl < w.1.size := aG w _ g0;have int : ∀ {o k n}, w.cell? ⟨bl, o, none⟩ = some (.int k n) → ∃ n', w'.cell? ⟨bl, o, none⟩ = some (.int k n') := by
   intro o k n hc;obtain ⟨v', h1, h2⟩ := hs.1 bl o _ hS hc;rcases h2 with rfl | ⟨k2, m, m', e, rfl⟩
   ·exact ⟨n, h1⟩
   ·simp only [Value.int.injEq] at e; obtain ⟨rfl, rfl⟩ := e; exact ⟨m', h1⟩
  obtain ⟨k2, q0⟩ := int g0;obtain ⟨a2, q1⟩ := int g1;obtain ⟨b2, q2⟩ := int g2;obtain ⟨v3, q3, s3⟩ := hs.1 bl _ _ hS g3;have e3 : v3 = .slice ad' n' cap' := by
   rcases s3 with rfl | ⟨_, _, _, e, _⟩
   ·rfl
   ·cases e
  subst e3;exact ⟨k2, a2, b2, ad', n', cap', q0, q1, q2, q3, (hs.2 _ _ hS hlt).trans f0, (hs.2 _ _ hS hlt).trans f1, ShE.ints (ShE.soft hs hsub)⟩
mutual
theorem aT.shape {w : World} {S : Nat → Prop} : ∀ {e : Ex} {v : Value}, aT w S true e v → ∀ d, e.depth ≤ d → ShE w S d v
 | .mk k a b ps, v, h, 0, hd => by simp [Ex.depth] at hd
 | .mk k a b ps, v, h, d + 1, hd => by
  simp only [aT] at h;obtain ⟨s, xs, h1, h2, h3, h4, h5, h6, h7⟩ := h;obtain ⟨_, hn, ad, cap, rfl, _⟩ := h6.shape;simp only [Ex.depth] at hd;refine ⟨k, a, b, ad, ps.length, cap, h1, hn, fun hp => ?_⟩;obtain ⟨bl, off, ha, hS, _⟩ := h6.cells hp;refine ⟨bl, off, ha, hS, fun i hi => ?_⟩;obtain ⟨bl', off', k', a', b', ad', n', cap', e1, _, g0, g1, g2, g3, hf, hr⟩ := h7.part h6 i hi;rw [ha] at e1;simp only [Option.some.injEq, Addr.mk.injEq, and_true] at e1;obtain ⟨rfl, rfl⟩ := e1;exact ⟨k', a', b', ad', n', cap', g0, g1, g2, g3, (hf rfl).1, (hf rfl).2, aX.shapes ps i hi hr d (by have := Ex.depths_ge ps i hi; omega)⟩
theorem aX.shapes {w : World} {S : Nat → Prop} : ∀ (es : List Ex) (i : Nat) (h : i < es.length) {v : Value}, aT w S true es[i] v → ∀ d, es[i].depth ≤ d → ShE w S d v
 | e :: es, 0, _, _, hr, d, hd => aT.shape (e := e) hr d hd
 | e :: es, i + 1, h, _, hr, d, hd => aX.shapes es i (by simpa using h) hr d hd
end
theorem ShE.parts {w : World} {S : Nat → Prop} {d : Nat} {k a b : Int} {ad : Option Addr} {n cap : Nat} (h : ShE w S (d + 1) (.agg #[.int .i64 k, .int .u64 a, .int .u64 b, .slice ad n cap])) :
  n ≤ 9223372036854775807 ∧ (0 < n → ∃ bl off, ad = some ⟨bl, off, none⟩ ∧ S bl ∧ ∀ i, i < n → ∃ k' a' b' ad' n' cap', w.cell? ⟨bl, off + i * 4, none⟩ = some (.int .i64 k') ∧ w.cell? ⟨bl, off + i * 4 + 1, none⟩ = some (.int .u64 a') ∧
    w.cell? ⟨bl, off + i * 4 + 2, none⟩ = some (.int .u64 b') ∧ w.cell? ⟨bl, off + i * 4 + 3, none⟩ = some (.slice ad' n' cap') ∧ w.frozen? ⟨bl, off + i * 4, none⟩ = false ∧ w.frozen? ⟨bl, off + i * 4 + 1, none⟩ = false ∧
    ShE w S d (.agg #[.int .i64 k', .int .u64 a', .int .u64 b', .slice ad' n' cap'])) := by
 obtain ⟨k2, a2, b2, ad2, n2, cap2, h1, h2, h3⟩ := h;simp only [Value.agg.injEq, Array.mk.injEq, List.cons.injEq, and_true, Value.slice.injEq] at h1;obtain ⟨_, _, _, rfl, rfl, rfl⟩ := h1;exact ⟨h2, h3⟩
theorem cz.setCell {S : Nat → Prop} {w : World} {a : Addr} {v : Value} (h : ¬ S a.block) : cz S w (w.setCell a v) := fun b hb _ => ay _ _ _ _ (fun e => h (e ▸ hb))
structure gm (B : Nat) (S : Nat → Prop) (w w' : World) : Prop where
 below : Below B w w'
 keeps : cz (fun b => ¬ S b) w w'
 soft : qD S w w'
theorem gm.trans {B : Nat} {S : Nat → Prop} {w w' w'' : World} (h : gm B S w w') (k : gm B S w' w'') : gm B S w w'' :=
 ⟨h.below.trans k.below, h.keeps.trans h.below.size k.keeps, h.soft.trans h.below.size k.soft⟩
theorem gm.of_below {B B' : Nat} {S : Nat → Prop} {w w' : World} (h : Below B' w w') (hB : B ≤ B') (hw : w.1.size ≤ B') : gm B S w w' :=
 ⟨h.mono hB, Below.keeps h hw _, qD.below h hw⟩
theorem gm.set {B : Nat} {S : Nat → Prop} {w : World} {bl o : Nat} {k : IntKind} {n n' : Int} (hS : S bl) (hB : B ≤ bl) (h : w.cell? ⟨bl, o, none⟩ = some (.int k n)) : gm B S w (w.setCell ⟨bl, o, none⟩ (.int k n')) :=
 ⟨br.setCell hB _, cz.setCell (fun hn => hn hS), qD.set rfl h⟩
theorem uq (B N : Nat) (S : Nat → Prop) (hSB : ∀ b, S b → B ≤ b ∧ b < N) (d : Nat) : ∀ (v : Value) (w : World), B ≤ N → N ≤ w.1.size → ShE w S d v →
  Calls Tryz.prog 62 #[v] w fun r w' => r = .returned (.tuple #[]) ∧ gm B S w w' := by
 induction d with
 | zero => intro v w _ _ h; exact h.elim
 | succ d ih =>
  intro v w hBN hN hsh;have hsh' := hsh;obtain ⟨k, a, b, ad, n, cap, rfl, hn, _⟩ := hsh';have IH := hid ih;have HS := hid hsh;have HB := hid hSB;clear ih hsh hSB
  go_enter Tryz.func62, Tryz.ntmps62
  go_wp2_with fail
  go_loopw [2] (fun i wr => ∃ j : Nat, j ≤ n ∧ i = .int .i64 j ∧ gm B S w wr ∧ wr.1[w.1.size]? = some (.cells #[.int .i64 k, .int .u64 a, .int .u64 b, .slice ad n cap] 70 (0, 0))) (fun i _ => n - (intOf i).toNat)
  case atStart => exact ⟨0, by omega, rfl, gm.of_below (br.alloc nl _) (by omega) nl, aK _ _ _ rfl⟩
  case round =>
   obtain ⟨j, hj, rfl, hsp, hh0⟩ := hrel;have c0 : wr.cell? ⟨w.1.size, 3, none⟩ = some (.slice ad n cap) := (by rw [ax wr _ 3 _ _ _ hh0]; rfl);have hsz := hsp.below.size;by_cases hlt : j < n
   ·have hw1 := ShE.soft hsp.soft HS.out
    obtain ⟨bl, off, rfl, hS, hpi⟩ := (ShE.parts hw1).2 (by omega);obtain ⟨k', a', b', ad', n', cap', g0, g1, g2, g3, f0, f1, hsub⟩ := hpi j hlt;have hbl := HB.out bl hS;have HSP := hid hsp;have HH := hid hh0;have HSub := hid hsub;clear hpi hw1 hh0 hsub f0 f1 hsp;go_wp2_with fail;refine (IH.out _ _ hBN (by omega) HSub.out).mono ?_;rintro e w1 ⟨rfl, hsp1⟩;have hw2 := ShE.soft hsp1.soft (ShE.soft HSP.out.soft HS.out);obtain ⟨bl2, off2, ha2, _, hpi⟩ := (ShE.parts hw2).2 (by omega);simp only [Option.some.injEq, Addr.mk.injEq, and_true] at ha2;obtain ⟨rfl, rfl⟩ := ha2;obtain ⟨k1, a1, b1, ad1, n1, cap1, q0, q1, q2, q3, p0, p1, _⟩ := hpi j hlt;have hh1 : w1.1[w.1.size]? = some (.cells #[.int .i64 k, .int .u64 a, .int .u64 b, .slice (some ⟨bl, off, none⟩) n cap] 70 (0, 0)) := by
     rw [hsp1.keeps _ (fun hx => by have := HB.out _ hx; omega) (ak HH.out).1]; exact HH.out
    have c1 : w1.cell? ⟨w.1.size, 3, none⟩ = some (.slice (some ⟨bl, off, none⟩) n cap) := (by rw [ax w1 _ 3 _ _ _ hh1]; rfl);have HSP1 := hid (au hsp1 hh1);have hz1 := hsp1.below.size;clear hpi hw2 hsp1 hh1 g0 g1 g2 g3 c0;go_wp2_with fail;have hsp2 := gm.set (B := B) (n' := 77) hS (by omega) q0;obtain ⟨w2, hw2⟩ : ∃ w2, w2 = w1.setCell ⟨bl, off + j * 4, none⟩ (.int .i64 77) := ⟨_, rfl⟩;rw [← hw2] at hsp2 ⊢;have c2 : w2.cell? ⟨w.1.size, 3, none⟩ = some (.slice (some ⟨bl, off, none⟩) n cap) := by
     rw [hw2, aF _ _ _ _ (by intro hh; simp only [Addr.mk.injEq] at hh; omega)]; exact c1
    have d2 : w2.cell? ⟨bl, off + j * 4 + 1, none⟩ = some (.int .u64 a1) := by
     rw [hw2, aF _ _ _ _ (by intro hh; simp only [Addr.mk.injEq] at hh; omega)]; exact q1
    have e2 : w2.frozen? ⟨bl, off + j * 4 + 1, none⟩ = false := (by rw [hw2]; simpa using p1);have hh2 : w2.1[w.1.size]? = some (.cells #[.int .i64 k, .int .u64 a, .int .u64 b, .slice (some ⟨bl, off, none⟩) n cap] 70 (0, 0)) := by
     rw [hw2, ay _ _ _ _ (by simp; omega)]; exact HSP1.out.2
    have HSP2 := hid (au hsp2 hh2);have x1 : (0 : Int) ≤ (j : Int) := (by omega);have x2 : (j : Int) < (n : Int) := (by omega);clear hw2 hsp2 hh2 q0 q1 q2 q3 p0 p1 c1
    go_region
    all_goals
     go_wp2_with fail;go_roundw
     case rel =>
      refine ⟨j + 1, by omega, by go_num, ((HSP.out.trans HSP1.out.1).trans HSP2.out.1).trans ?_, ?_⟩
      ·refine (gm.set hS (by omega) d2).trans (gm.of_below br.drew ?_ nl)
       have := HSP2.out.1.below.size;simp; omega
      ·show (w2.setCell _ _).1[_]? = _
       rw [ay _ _ _ _ (by first | omega | (simp; done) | (simp; omega))]; exact HSP2.out.2
     case measure => simp [intOf]; omega
   ·have hj2 : j = n := by omega
    subst hj2;have HSP := hid hsp;clear hh0 hsp;go_wp2_with fail
    go_end0
    exact ⟨rfl, HSP.out⟩
theorem Gs (w : World) (S : Nat → Prop) (cs : Array Value) (T : TypeId) (n cap : Nat) (hn : n ≤ cs.size) (hm : n ≤ cap) (hS : S w.1.size) (h63 : n ≤ 1000) : Sl (w.alloc (.cells cs T)) S true 1 n (cs.toList.take n) (.slice (some ⟨w.1.size, 0, none⟩) n cap) := by
 refine ⟨by simp; omega, by omega, _, _, rfl, hm, fun _ => ⟨_, _, rfl, hS, fun j hj => ?_⟩⟩;have hj2 : j < cs.size := by simp at hj; omega
 rw [ax _ _ (0 + j) cs T (0, 0) (heap_alloc_new w _), aA _ _ (0 + j) cs T (heap_alloc_new w _)];simp [hj2]
end Go.Proofs.YtlpgokcapdjgjaaGreatDoor
