/- Walks. -/
import Derived.Test.YtmgbhhmipmgcpaaGreatDoorQ9
import Derived.Test.YtmgbhhmipmgcpaaGreatDoorQ11
import Derived.Deep.DeepFit
set_option maxHeartbeats 2000000
set_option maxRecDepth 100000
namespace Go.Proofs.YtmgbhhmipmgcpaaGreatDoor
open Go.RowKit Go
set_option linter.unusedVariables false
set_option linter.unusedSimpArgs false
theorem bz {a b : ByteArray} (h : a.data.toList = b.data.toList) : Ending.returned (.string a) = .returned (.string b) := by rw [vJ h]
theorem vM {a b : ByteArray} (h : a.data.toList = b.data.toList) : Value.string a = .string b := by rw [vJ h]
theorem qd {k : Int} {a b n : Nat} (h : dI k a b n = true) : k = 1 ∨ k = 2 ∨ k = 3 ∨ k = 4 ∨ (k = 5 ∧ n = 1) ∨ k = 6 ∨ k = 7 := by
 unfold dI at h
 by_cases h1 : k = 1
 ·exact .inl h1
 rw [if_neg h1] at h
 by_cases h2 : k = 2 ∨ k = 3
 ·omega
 rw [if_neg h2] at h
 by_cases h4 : k = 4
 ·omega
 rw [if_neg h4] at h
 by_cases h5 : k = 5
 ·rw [if_pos h5] at h
  simp at h
  exact .inr (.inr (.inr (.inr (.inl ⟨h5, h.2⟩))))
 rw [if_neg h5] at h
 by_cases h6 : k = 6 ∨ k = 7
 ·omega
 rw [if_neg h6] at h
 cases h
def iy (d : Nat) : Prop := ∀ (S : Nat → Prop) (own : Bool) (e : Ex) (v : Value) (w : World), e.depth ≤ d → d ≤ 1000 → e.size ≤ 1000 → e.okR = true → av w S own e v →
  Calls Tryz.prog 91 #[v] w fun r w' => r = .returned (.string ⟨e.told.toArray⟩) ∧ Below w.heap.size w w'
theorem xG (d : Nat) (IH : Hid (iy d)) (S : Nat → Prop) (own : Bool) (a b : Nat) (ps : List Ex) (xs : List Value) (ad : Option Addr) (cap : Nat) (w : World) (hd : Ex.depths ps ≤ d) (hd2 : d ≤ 1000) (hsz : Ex.sizes ps + 1 ≤ 1000) (HOK : Hid (Ex.okRs ps = true))
  (ha : a < 18446744073709551616) (hb : b < 18446744073709551616) (HS : Hid (Sl w S own 4 ps.length xs (.slice ad ps.length cap) ∧ au w S own ps xs)) :
  Calls Tryz.prog 91 #[.agg #[.int .i64 1, .int .u64 a, .int .u64 b, .slice ad ps.length cap]] w fun r w' => r = .returned (.string ⟨(bN 1 a b (Ex.tolds ps)).toArray⟩) ∧ Below w.heap.size w w' := by
 go_enter Tryz.func91, Tryz.ntmps91
 go_wp2_with fail
 go_ret
 exact ⟨rfl, br.alloc nl _⟩
theorem xH (d : Nat) (IH : Hid (iy d)) (S : Nat → Prop) (own : Bool) (a b : Nat) (ps : List Ex) (xs : List Value) (ad : Option Addr) (cap : Nat) (w : World) (hd : Ex.depths ps ≤ d) (hd2 : d ≤ 1000) (hsz : Ex.sizes ps + 1 ≤ 1000) (HOK : Hid (Ex.okRs ps = true))
  (ha : a < 18446744073709551616) (hb : b < 18446744073709551616) (HS : Hid (Sl w S own 4 ps.length xs (.slice ad ps.length cap) ∧ au w S own ps xs)) :
  Calls Tryz.prog 91 #[.agg #[.int .i64 2, .int .u64 a, .int .u64 b, .slice ad ps.length cap]] w fun r w' => r = .returned (.string ⟨(bN 2 a b (Ex.tolds ps)).toArray⟩) ∧ Below w.heap.size w w' := by
 have hl := ak a ha
 go_enter Tryz.func91, Tryz.ntmps91
 go_wp2_with fail
 refine (dP a _ ha).mono ?_
 rintro e w1 ⟨rfl, rfl⟩
 go_wp2_with fail
 go_ret
 exact ⟨bz (by simp [bN]), br.alloc nl _⟩
theorem xI (d : Nat) (IH : Hid (iy d)) (S : Nat → Prop) (own : Bool) (a b : Nat) (ps : List Ex) (xs : List Value) (ad : Option Addr) (cap : Nat) (w : World) (hd : Ex.depths ps ≤ d) (hd2 : d ≤ 1000) (hsz : Ex.sizes ps + 1 ≤ 1000) (HOK : Hid (Ex.okRs ps = true))
  (ha : a < 18446744073709551616) (hb : b < 18446744073709551616) (HS : Hid (Sl w S own 4 ps.length xs (.slice ad ps.length cap) ∧ au w S own ps xs)) :
  Calls Tryz.prog 91 #[.agg #[.int .i64 3, .int .u64 a, .int .u64 b, .slice ad ps.length cap]] w fun r w' => r = .returned (.string ⟨(bN 3 a b (Ex.tolds ps)).toArray⟩) ∧ Below w.heap.size w w' := by
 have hl := ak a ha
 go_enter Tryz.func91, Tryz.ntmps91
 go_wp2_with fail
 refine (dP a _ ha).mono ?_
 rintro e w1 ⟨rfl, rfl⟩
 go_wp2_with fail
 go_ret
 exact ⟨bz (by simp [bN]), br.alloc nl _⟩
theorem xJ (d : Nat) (IH : Hid (iy d)) (S : Nat → Prop) (own : Bool) (a b : Nat) (ps : List Ex) (xs : List Value) (ad : Option Addr) (cap : Nat) (w : World) (hd : Ex.depths ps ≤ d) (hd2 : d ≤ 1000) (hsz : Ex.sizes ps + 1 ≤ 1000) (HOK : Hid (Ex.okRs ps = true))
  (ha : a < 18446744073709551616) (hb : b < 18446744073709551616) (HS : Hid (Sl w S own 4 ps.length xs (.slice ad ps.length cap) ∧ au w S own ps xs)) :
  Calls Tryz.prog 91 #[.agg #[.int .i64 4, .int .u64 a, .int .u64 b, .slice ad ps.length cap]] w fun r w' => r = .returned (.string ⟨(bN 4 a b (Ex.tolds ps)).toArray⟩) ∧ Below w.heap.size w w' := by
 have hl := ak a ha
 have hl2 := ak b hb
 go_enter Tryz.func91, Tryz.ntmps91
 go_wp2_with fail
 go_quiet ((go_at_call 53; exact Calls.quiet_of_same (dP _ _ (by assumption))))
 go_wp2_with fail
 go_ret
 exact ⟨bz (by simp [bN]), below_drewN (br.alloc nl _) _⟩
theorem xK (d : Nat) (IH : Hid (iy d)) (S : Nat → Prop) (own : Bool) (a b : Nat) (ps : List Ex) (xs : List Value) (ad : Option Addr) (cap : Nat) (w : World) (hd : Ex.depths ps ≤ d) (hd2 : d ≤ 1000) (hsz : Ex.sizes ps + 1 ≤ 1000) (HOK : Hid (Ex.okRs ps = true))
  (ha : a < 18446744073709551616) (hb : b < 18446744073709551616) (HS : Hid (Sl w S own 4 ps.length xs (.slice ad ps.length cap) ∧ au w S own ps xs)) (h1 : ps.length = 1) :
  Calls Tryz.prog 91 #[.agg #[.int .i64 5, .int .u64 a, .int .u64 b, .slice ad ps.length cap]] w fun r w' => r = .returned (.string ⟨(bN 5 a b (Ex.tolds ps)).toArray⟩) ∧ Below w.heap.size w w' := by
 obtain ⟨e0, rfl⟩ := List.length_eq_one_iff.1 h1
 obtain ⟨hxl, hlen, _, _, _, hcap⟩ := HS.out.1.shape
 have hb0 : Below w.heap.size w (w.alloc (.cells #[.int .i64 5, .int .u64 a, .int .u64 b, .slice ad [e0].length cap] 34)) := br.alloc nl _
 obtain ⟨bl, off, k', a', b', ad', n', cap', rfl, _, g0, g1, g2, g3, _, ge⟩ := (HS.out.2.below hb0 nl).part (HS.out.1.below (by omega) hb0 nl) 0 (by simp)
 have hdj := Ex.depths_ge [e0] 0 (by simp)
 have hsj := Ex.sizes_ge [e0] 0 (by simp)
 have hok := Ex.okRs_get [e0] 0 (by simp) HOK.out
 have htl := Ex.told_len _ ge.nums
 have hsk := Ex.size_pos e0
 simp only [List.length_cons, List.length_nil, Nat.zero_add, List.getElem_cons_zero, Nat.zero_mul, Nat.mul_zero, Nat.add_zero] at hcap hb0 hdj hsj hok htl g0 g1 g2 g3 ge ⊢
 clear hxl
 go_enter Tryz.func91, Tryz.ntmps91
 go_wp2_with fail
 refine (IH.out _ _ e0 _ _ (by omega) (by omega) (by omega) hok ge).mono ?_
 rintro e w1 ⟨rfl, hb2⟩
 go_wp2_with fail
 go_ret
 exact ⟨bz (by simp [bN, commas, Ex.tolds, Lib.join_one]), hb0.trans (hb2.mono (by simp))⟩
theorem xL (d : Nat) (IH : Hid (iy d)) (S : Nat → Prop) (own : Bool) (a b : Nat) (ps : List Ex) (xs : List Value) (ad : Option Addr) (cap : Nat) (w : World) (hd : Ex.depths ps ≤ d) (hd2 : d ≤ 1000) (hsz : Ex.sizes ps + 1 ≤ 1000) (HOK : Hid (Ex.okRs ps = true))
  (ha : a < 18446744073709551616) (hb : b < 18446744073709551616) (HS : Hid (Sl w S own 4 ps.length xs (.slice ad ps.length cap) ∧ au w S own ps xs)) :
  Calls Tryz.prog 91 #[.agg #[.int .i64 6, .int .u64 a, .int .u64 b, .slice ad ps.length cap]] w fun r w' => r = .returned (.string ⟨(bN 6 a b (Ex.tolds ps)).toArray⟩) ∧ Below w.heap.size w w' := by
 obtain ⟨hxl, hlen, _, _, _, hcap⟩ := HS.out.1.shape
 clear hxl
 have hpl := Ex.length_le_sizes ps
 have HN := hid (au.nums HS.out.2)
 go_enter Tryz.func91, Tryz.ntmps91
 go_wp2_with fail
 go_loopw [3, 4] (fun o i wr => ∃ (j : Nat) (t : ByteArray), j ≤ ps.length ∧ i = .int .i64 j ∧ o = .string t ∧ t.data.toList = [38, 40] ++ commas (Ex.tolds (ps.take j)) ∧ Below (w.heap.size + 1) (w.alloc (.cells #[.int .i64 6, .int .u64 a, .int .u64 b, .slice ad ps.length cap] 34)) wr) (fun _ i _ => ps.length - (intOf i).toNat)
 case atStart => exact ⟨0, _, by omega, rfl, rfl, by simp [Ex.tolds, commas, Lib.join_nil], br⟩
 case round =>
  obtain ⟨j, t, hj, rfl, rfl, ht, hbel⟩ := hrel
  have hbox : ∀ o, wr.cell? ⟨w.heap.size, o, none⟩ = (w.alloc (.cells #[.int .i64 6, .int .u64 a, .int .u64 b, .slice ad ps.length cap] 34)).cell? ⟨w.heap.size, o, none⟩ := fun o => hbel.cell (by simp)
  have hsz : w.heap.size + 1 ≤ wr.heap.size := by have := hbel.size; simpa using this
  have hb0 : Below w.heap.size w wr := (br.alloc nl _).trans (hbel.mono (by simp))
  have htl := Ex.tolds_take_len ps HN.out j
  have hts : t.size ≤ 50002 := by rw [← ah, ht]; simp; omega
  clear htl
  have HT := hid ht
  clear ht
  by_cases hlt : j < ps.length
  ·obtain ⟨bl, off, k', a', b', ad', n', cap', rfl, _, g0, g1, g2, g3, _, ge⟩ := (HS.out.2.below hb0 nl).part (HS.out.1.below (by omega) hb0 nl) j hlt
   have hdj := Ex.depths_ge ps j hlt
   have hsj := Ex.sizes_ge ps j hlt
   have hol := Ex.told_len _ ge.nums
   have hok := Ex.okRs_get ps j hlt HOK.out
   have HK := hid (Ex.tolds_take ps j hlt)
   by_cases hj0 : j = 0
   ·have tj : decide ((0 : Int) < (j : Int)) = false := by simp; omega
    have HJ0 := hid hj0
    have hj1 : j < 1 := by omega
    clear hj0
    go_wp2_with (go_at_call 91; refine (IH.out _ _ ps[j] _ _ (by omega) (by omega) (by omega) hok ge).mono ?_; rintro e w' ⟨rfl, hb1⟩)
    go_roundw
    case rel =>
     refine ⟨j + 1, _, by omega, by go_num, rfl, ?_, hbel.trans (hb1.mono (by omega))⟩
     rw [HK.out, gB, if_pos (by rw [HJ0.out]; simp [Ex.tolds])]
     have := HT.out
     rw [HJ0.out] at this
     simp [Ex.tolds, commas, Lib.join_nil] at this
     simp [this]
    case measure => simp [intOf]; omega
   ·have tj : decide ((0 : Int) < (j : Int)) = true := by simp; omega
    go_wp2_with (go_at_call 91; refine (IH.out _ _ ps[j] _ _ (by omega) (by omega) (by omega) hok ge).mono ?_; rintro e w' ⟨rfl, hb1⟩)
    go_roundw
    case rel =>
     refine ⟨j + 1, _, by omega, by go_num, rfl, ?_, hbel.trans (hb1.mono (by omega))⟩
     rw [HK.out, gB, if_neg (by intro h; have := congrArg List.length h; rw [Ex.tolds_length, List.length_take, List.length_nil] at this; omega)]
     simp [HT.out]
    case measure => simp [intOf]; omega
  ·have hj2 : j = ps.length := by omega
   subst hj2
   go_wp2_with fail
   go_ret
   exact ⟨bz (by have := HT.out; rw [List.take_length] at this; simp [bN, this]), hb0⟩
theorem xM (d : Nat) (IH : Hid (iy d)) (S : Nat → Prop) (own : Bool) (a b : Nat) (ps : List Ex) (xs : List Value) (ad : Option Addr) (cap : Nat) (w : World) (hd : Ex.depths ps ≤ d) (hd2 : d ≤ 1000) (hsz : Ex.sizes ps + 1 ≤ 1000) (HOK : Hid (Ex.okRs ps = true))
  (ha : a < 18446744073709551616) (hb : b < 18446744073709551616) (HS : Hid (Sl w S own 4 ps.length xs (.slice ad ps.length cap) ∧ au w S own ps xs)) :
  Calls Tryz.prog 91 #[.agg #[.int .i64 7, .int .u64 a, .int .u64 b, .slice ad ps.length cap]] w fun r w' => r = .returned (.string ⟨(bN 7 a b (Ex.tolds ps)).toArray⟩) ∧ Below w.heap.size w w' := by
 obtain ⟨hxl, hlen, _, _, _, hcap⟩ := HS.out.1.shape
 clear hxl
 have hpl := Ex.length_le_sizes ps
 have HN := hid (au.nums HS.out.2)
 go_enter Tryz.func91, Tryz.ntmps91
 go_wp2_with fail
 go_loopw [3, 4] (fun o i wr => ∃ (j : Nat) (t : ByteArray), j ≤ ps.length ∧ i = .int .i64 j ∧ o = .string t ∧ t.data.toList = [124, 40] ++ commas (Ex.tolds (ps.take j)) ∧ Below (w.heap.size + 1) (w.alloc (.cells #[.int .i64 7, .int .u64 a, .int .u64 b, .slice ad ps.length cap] 34)) wr) (fun _ i _ => ps.length - (intOf i).toNat)
 case atStart => exact ⟨0, _, by omega, rfl, rfl, by simp [Ex.tolds, commas, Lib.join_nil], br⟩
 case round =>
  obtain ⟨j, t, hj, rfl, rfl, ht, hbel⟩ := hrel
  have hbox : ∀ o, wr.cell? ⟨w.heap.size, o, none⟩ = (w.alloc (.cells #[.int .i64 7, .int .u64 a, .int .u64 b, .slice ad ps.length cap] 34)).cell? ⟨w.heap.size, o, none⟩ := fun o => hbel.cell (by simp)
  have hsz : w.heap.size + 1 ≤ wr.heap.size := by have := hbel.size; simpa using this
  have hb0 : Below w.heap.size w wr := (br.alloc nl _).trans (hbel.mono (by simp))
  have htl := Ex.tolds_take_len ps HN.out j
  have hts : t.size ≤ 50002 := by rw [← ah, ht]; simp; omega
  clear htl
  have HT := hid ht
  clear ht
  by_cases hlt : j < ps.length
  ·obtain ⟨bl, off, k', a', b', ad', n', cap', rfl, _, g0, g1, g2, g3, _, ge⟩ := (HS.out.2.below hb0 nl).part (HS.out.1.below (by omega) hb0 nl) j hlt
   have hdj := Ex.depths_ge ps j hlt
   have hsj := Ex.sizes_ge ps j hlt
   have hol := Ex.told_len _ ge.nums
   have hok := Ex.okRs_get ps j hlt HOK.out
   have HK := hid (Ex.tolds_take ps j hlt)
   by_cases hj0 : j = 0
   ·have tj : decide ((0 : Int) < (j : Int)) = false := by simp; omega
    have HJ0 := hid hj0
    have hj1 : j < 1 := by omega
    clear hj0
    go_wp2_with (go_at_call 91; refine (IH.out _ _ ps[j] _ _ (by omega) (by omega) (by omega) hok ge).mono ?_; rintro e w' ⟨rfl, hb1⟩)
    go_roundw
    case rel =>
     refine ⟨j + 1, _, by omega, by go_num, rfl, ?_, hbel.trans (hb1.mono (by omega))⟩
     rw [HK.out, gB, if_pos (by rw [HJ0.out]; simp [Ex.tolds])]
     have := HT.out
     rw [HJ0.out] at this
     simp [Ex.tolds, commas, Lib.join_nil] at this
     simp [this]
    case measure => simp [intOf]; omega
   ·have tj : decide ((0 : Int) < (j : Int)) = true := by simp; omega
    go_wp2_with (go_at_call 91; refine (IH.out _ _ ps[j] _ _ (by omega) (by omega) (by omega) hok ge).mono ?_; rintro e w' ⟨rfl, hb1⟩)
    go_roundw
    case rel =>
     refine ⟨j + 1, _, by omega, by go_num, rfl, ?_, hbel.trans (hb1.mono (by omega))⟩
     rw [HK.out, gB, if_neg (by intro h; have := congrArg List.length h; rw [Ex.tolds_length, List.length_take, List.length_nil] at this; omega)]
     simp [HT.out]
    case measure => simp [intOf]; omega
  ·have hj2 : j = ps.length := by omega
   subst hj2
   go_wp2_with fail
   go_ret
   exact ⟨bz (by have := HT.out; rw [List.take_length] at this; simp [bN, this]), hb0⟩
theorem qf (d : Nat) : iy d := by
 induction d with
 | zero => intro S own e v w hd; cases e; simp [Ex.depth] at hd
 | succ d ih =>
  intro S own e v w hd hd2 hsz hok hrep
  obtain ⟨k, a, b, ps⟩ := e
  simp only [av] at hrep
  obtain ⟨s, xs, rfl, hk1, hk2, ha, hb, hs, hes⟩ := hrep
  obtain ⟨hxl, hlen, ad, cap, rfl, hcap⟩ := hs.shape
  simp only [Ex.depth, Ex.size] at hd hsz
  simp only [Ex.okR, Bool.and_eq_true] at hok
  have hd' : Ex.depths ps ≤ d := by omega
  have hd2' : d ≤ 1000 := by omega
  simp only [Ex.told]
  rcases qd hok.2 with rfl | rfl | rfl | rfl | ⟨rfl, h1⟩ | rfl | rfl
  ·exact xG d (hid ih) S own a b ps xs ad cap w hd' hd2' hsz (hid hok.1) ha hb (hid ⟨hs, hes⟩)
  ·exact xH d (hid ih) S own a b ps xs ad cap w hd' hd2' hsz (hid hok.1) ha hb (hid ⟨hs, hes⟩)
  ·exact xI d (hid ih) S own a b ps xs ad cap w hd' hd2' hsz (hid hok.1) ha hb (hid ⟨hs, hes⟩)
  ·exact xJ d (hid ih) S own a b ps xs ad cap w hd' hd2' hsz (hid hok.1) ha hb (hid ⟨hs, hes⟩)
  ·exact xK d (hid ih) S own a b ps xs ad cap w hd' hd2' hsz (hid hok.1) ha hb (hid ⟨hs, hes⟩) h1
  ·exact xL d (hid ih) S own a b ps xs ad cap w hd' hd2' hsz (hid hok.1) ha hb (hid ⟨hs, hes⟩)
  ·exact xM d (hid ih) S own a b ps xs ad cap w hd' hd2' hsz (hid hok.1) ha hb (hid ⟨hs, hes⟩)
def Ex.text (e : Ex) : List UInt8 := if e.right then e.told else []
theorem qg (S : Nat → Prop) (own : Bool) (e : Ex) (v : Value) (w : World) (hsz : e.size ≤ 900) (hrep : av w S own e v) :
  Calls Tryz.prog 54 #[v] w fun r w' => r = .returned (.string ⟨e.text.toArray⟩) ∧ Below w.heap.size w w' := by
 have hd := e.depth_le_size
 obtain ⟨k', a', b', ad', n', cap', rfl⟩ := hrep.conc
 have hb0 : Below w.heap.size w (w.alloc (.cells #[.int .i64 k', .int .u64 a', .int .u64 b', .slice ad' n' cap'] 34)) := br.alloc nl _
 have HR := hid (hrep.below hb0 nl)
 clear hrep
 cases hr : e.right with
 | false =>
  go_enter Tryz.func54, Tryz.ntmps54
  go_wp2_with fail
  refine (dV _ _ e _ _ (by omega) HR.out).mono ?_
  rintro e1 w1 ⟨rfl, hb1⟩
  rw [hr]
  go_wp2_with fail
  go_ret
  exact ⟨by simp [Ex.text, hr], hb0.trans (hb1.mono (by simp))⟩
 | true =>
  have hok : e.okR = true := by simp [Ex.right] at hr; exact hr.1.1
  go_enter Tryz.func54, Tryz.ntmps54
  go_wp2_with fail
  refine (dV _ _ e _ _ (by omega) HR.out).mono ?_
  rintro e1 w1 ⟨rfl, hb1⟩
  have c0 : ∀ o, w1.cell? ⟨w.heap.size, o, none⟩ = (w.alloc (.cells #[.int .i64 k', .int .u64 a', .int .u64 b', .slice ad' n' cap'] 34)).cell? ⟨w.heap.size, o, none⟩ := fun o => hb1.cell (by simp)
  rw [hr]
  go_wp2_with fail
  refine (qf e.depth _ _ e _ _ nl (by omega) (by omega) hok (HR.out.below hb1 nl)).mono ?_
  rintro e2 w2 ⟨rfl, hb2⟩
  have hsz2 := hb1.size
  simp at hsz2
  go_wp2_with fail
  go_ret
  exact ⟨by simp [Ex.text, hr], hb0.trans ((hb1.mono (by simp)).trans (hb2.mono (by omega)))⟩
def strs (l : List (List UInt8)) : List Value := l.map fun x => .string ⟨x.toArray⟩
theorem bU (l : List (List UInt8)) : (strs l).length = l.length := by simp [strs]
theorem iA (a b : List (List UInt8)) : strs (a ++ b) = strs a ++ strs b := by simp [strs]
theorem nZ : (Tryz.prog.info? 9).map (fun i => (i.zero, i.size, i.bytes)) = some (some (.string ⟨#[]⟩), 1, 16) := by kernel_rfl
theorem vN (l : List (List UInt8)) (base : Nat) (sv : Value) (w : World) (hown : w.ownsRow base 9 1 sv l.length (strs l)) (hl : l.length ≤ 1000) (hlen : (commas l).length ≤ 100000) :
  Calls Tryz.prog 89 #[sv, .string ⟨#[44]⟩] w fun e w' => e = .returned (.string ⟨(commas l).toArray⟩) ∧ Below w.heap.size w w' := by
 obtain ⟨sa, sc, rfl⟩ := ag hown
 cases l with
 | nil =>
  refine (Tryz.strings_Join_none sa sc _ w).mono ?_
  rintro e w' ⟨rfl, rfl⟩
  exact ⟨rfl, br⟩
 | cons x r =>
  have hs := Sl.of_owns hown (by omega)
  obtain ⟨bl, off, rfl, _, hc⟩ := hs.cells (by simp)
  obtain ⟨_, _, ad', cap', e1, h4, _⟩ := hs
  simp only [Value.slice.injEq] at e1
  obtain ⟨_, _, rfl⟩ := e1
  have hm : ((x :: r).map fun x => (⟨x.toArray⟩ : ByteArray)).map (·.data.toList) = x :: r := by simp [Function.comp_def]
  have hj := Tryz.strings_Join bl off sc ((x :: r).map fun x => (⟨x.toArray⟩ : ByteArray)) ⟨#[44]⟩ w (fun j y hy => by
   have hjl : j < (strs (x :: r)).length := by
    rw [bU]; have := (List.getElem?_eq_some_iff.1 hy).1; simpa using this
   have h := (hc j hjl).1
   rw [h]
   simp only [strs, List.getElem_map]
   simp only [List.getElem?_map, Option.map_eq_some_iff] at hy
   obtain ⟨z, hz, rfl⟩ := hy
   rw [(List.getElem?_eq_some_iff.1 hz).2]) (World.block_lt_of_cell? w _ (hc 0 (by rw [bU]; simp)).1) (by rw [List.length_map]; omega) (by rw [List.length_map]; exact h4) (by rw [hm]; exact Nat.le_trans hlen (by omega))
  rw [hm, List.length_map] at hj
  exact hj
def xN (d : Nat) : Prop := ∀ (S : Nat → Prop) (own : Bool) (e : Ex) (v : Value) (w : World), e.depth ≤ d → d ≤ 1000 → e.size ≤ 1000 → e.okR = true → av w S own e v → Lv w.heap.size w →
  Calls Tryz.prog 166 #[v] w fun r w' => r = .returned (.string ⟨e.told.toArray⟩) ∧ Below w.heap.size w w'
theorem og (d : Nat) : xN d := by
 obtain ⟨i0, hi0, hz0, hz1, hz2⟩ := info_parts nZ
 induction d with
 | zero => intro S own e v w hd; cases e; simp [Ex.depth] at hd
 | succ d ih =>
  intro S own e v w hd hd2 hsz hok hrep hL
  obtain ⟨k, a, b, ps⟩ := e
  simp only [av] at hrep
  obtain ⟨s, xs, rfl, hk1, hk2, ha, hb, hs, hes⟩ := hrep
  obtain ⟨hxl, hlen, ad, cap, rfl, hcap⟩ := hs.shape
  simp only [Ex.depth, Ex.size] at hd hsz
  simp only [Ex.okR, Bool.and_eq_true] at hok
  simp only [Ex.told]
  have IH := hid ih
  have HL := hid hL
  have hpl := Ex.length_le_sizes ps
  have HN := hid (au.nums hes)
  have HOK := hid hok
  clear ih hL hxl hok
  go_enter Tryz.func166, Tryz.ntmps166
  go_wp2_with fail
  go_loopw [3, 10] (fun sv i wr => ∃ j : Nat, j ≤ ps.length ∧ i = .int .i64 j ∧ Below w.heap.size w wr ∧ wr.heap[w.heap.size]? = some (.cells #[.int .i64 k, .int .u64 a, .int .u64 b, .slice ad ps.length cap] 44) ∧ wr.ownsRow (w.heap.size + 1) 9 1 sv j (strs (Ex.tolds (ps.take j)))) (fun _ i _ => ps.length - (intOf i).toNat)
  case atStart => exact ⟨0, by omega, rfl, br.alloc nl _, aa _ _ _ rfl, World.ownsRow_nil _ _ _ _⟩
  case round =>
   obtain ⟨j, hj, rfl, hbel, hbx, hown⟩ := hrel
   have hzr : w.heap.size < wr.heap.size := (Array.getElem?_eq_some_iff.1 hbx).1
   by_cases hlt : j < ps.length
   ·obtain ⟨bl, off, k', a', b', ad', n', cap', rfl, _, g0, g1, g2, g3, _, ge⟩ := (hes.below hbel nl).part (hs.below (by omega) hbel nl) j hlt
    have hdj := Ex.depths_ge ps j hlt
    have hsj := Ex.sizes_ge ps j hlt
    have hokj := Ex.okRs_get ps j hlt HOK.out.1
    have hol := Ex.told_len _ ge.nums
    have HK := hid (Ex.tolds_take ps j hlt)
    have hob := hown.lt
    obtain ⟨sa, sc, rfl⟩ := ag hown
    have HH := hid (And.intro hbx (And.intro hown (And.intro hbel ge)))
    have l1 : bl < wr.heap.size := World.block_lt_of_cell? wr _ g0
    clear hbx hown hbel
    go_wp2_with fail
    have hbq : Below wr.heap.size wr (wr.alloc (.cells #[.int .i64 k', .int .u64 a', .int .u64 b', .slice ad' n' cap'] 44)) := br.alloc nl _
    refine (IH.out _ _ ps[j] _ _ (by omega) (by omega) (by omega) hokj (ge.below hbq nl) (((HL.out.below (HH.out.2.2.1)).mono HH.out.2.2.1.size |>.below hbq).mono hbq.size)).mono ?_
    rintro e w1 ⟨rfl, hb1⟩
    have hb2 : Below wr.heap.size wr w1 := hbq.trans (hb1.mono hbq.size)
    have hz1' := hb2.size
    have HB := hid hb2
    clear hb1 hb2 hbq g0 g1 g2 g3 ge
    go_wp2_with (at_builtin; go_loud (refine wpList_append_lies _ rfl (.tmp 14) (.tmp 17) 76 rfl (w.heap.size + 1) 9 i0 _ 1 16 Tryz.underlying76 hi0 hz0 hz1 hz2 rfl (by omega) (.slice sa j sc) j (strs (Ex.tolds (ps.take j))) rfl ((ownsRow_below HH.out.2.1 HB.out nl).alloc _) ⟨w1.heap.size, 0, none⟩ 1 1 [.string ⟨ps[j].told.toArray⟩] rfl rfl (World.news_of_block (cs := #[.string ⟨ps[j].told.toArray⟩]) (t := 9) (fr := (0, 0)) (aa _ _ _ rfl)) (by simp [Value.oneCell']) (by omega) (by unfold maxLen; omega) (by omega) (by simp; omega) (w1.heap.size + 1) (by simp) ?_); intro gg gcap w3 hown2 hgrow hat hlt2)
    have HR : Hid (Below w.heap.size w w3 ∧ w3.heap[w.heap.size]? = some (.cells #[.int .i64 k, .int .u64 a, .int .u64 b, .slice (some ⟨bl, off, none⟩) ps.length cap] 44)) := by
     refine hid ⟨Below.grown' (base := w.heap.size + 1) (HH.out.2.2.1.trans (HB.out.mono (by omega))) hgrow (fun k hk => by have := hob k hk; omega) (by omega) (by omega), ?_⟩
     rw [jo HB.out (by omega) (by omega) hgrow (fun e => by have := hob _ e.symm; omega)]; exact HH.out.1
    have HO := hid hown2
    clear hown2 hgrow hat
    go_roundw
    case rel =>
     refine ⟨j + 1, by omega, by go_num, HR.out.1, HR.out.2, ?_⟩
     rw [HK.out, iA]; exact HO.out
    case measure => simp [intOf]; omega
   ·have hj2 : j = ps.length := by omega
    subst hj2
    rw [List.take_length] at hown
    have htl := Ex.tolds_len ps HN.out
    have hcl := jd (Ex.tolds ps)
    have hll := Ex.tolds_length ps
    have hla := ak a ha
    have hlb := ak b hb
    obtain ⟨sa, sc, rfl⟩ := ag hown
    have hown' : wr.ownsRow (w.heap.size + 1) 9 1 (.slice sa ps.length sc) (Ex.tolds ps).length (strs (Ex.tolds ps)) := by rw [hll]; exact hown
    have HH := hid (And.intro hbx (And.intro hown' hbel))
    have hlcm : (commas (Ex.tolds ps)).length ≤ 50000 := by omega
    have HJ := hid (vN (Ex.tolds ps) _ _ wr HH.out.2.1 (by omega) (by omega))
    clear hbx hown hown' hbel htl
    go_wp2_with fail
    refine HJ.out.mono ?_
    rintro e w1 ⟨rfl, hb1⟩
    obtain ⟨J, hJ⟩ : ∃ J : ByteArray, J = ⟨(commas (Ex.tolds ps)).toArray⟩ := ⟨_, rfl⟩
    have hJs : J.size ≤ 50000 := by rw [hJ]; simpa [ByteArray.size] using hlcm
    have hbw : Below w.heap.size w w1 := HH.out.2.2.trans (hb1.mono (by omega))
    have hx1 : w1.heap[w.heap.size]? = some (.cells #[.int .i64 k, .int .u64 a, .int .u64 b, .slice ad ps.length cap] 44) := (hb1.block _ hzr).trans HH.out.1
    have e0 : w1.cell? ⟨w.heap.size, 0, none⟩ = some (.int .i64 k) := by rw [cell_of_row w1 _ 0 _ _ _ hx1]; rfl
    have e1 : w1.cell? ⟨w.heap.size, 1, none⟩ = some (.int .u64 a) := by rw [cell_of_row w1 _ 1 _ _ _ hx1]; rfl
    have e2 : w1.cell? ⟨w.heap.size, 2, none⟩ = some (.int .u64 b) := by rw [cell_of_row w1 _ 2 _ _ _ hx1]; rfl
    have l1 : w.heap.size < w1.heap.size := (Array.getElem?_eq_some_iff.1 hx1).1
    have hz2' := hbw.size
    have HT := hid ((HL.out.below hbw).mono hbw.size)
    have HW := hid hbw
    rw [← hJ]
    have HJJ := hid hJ
    have hkd := qd HOK.out.2
    clear hb1 hx1 hbw hJ
    rcases hkd with rfl | rfl | rfl | rfl | ⟨rfl, h1⟩ | rfl | rfl
    ·go_wp2_with fail
     go_ret
     exact ⟨bz (by simp [bN]), HW.out⟩
    ·go_wp2_with fail
     refine (dX _ _ (by assumption) HT.out.tab).mono ?_
     rintro e w2 ⟨rfl, hb2⟩
     go_wp2_with fail
     go_ret
     exact ⟨bz (by simp [bN]), HW.out.trans (hb2.mono (by omega))⟩
    ·go_wp2_with fail
     refine (dX _ _ (by assumption) HT.out.tab).mono ?_
     rintro e w2 ⟨rfl, hb2⟩
     go_wp2_with fail
     go_ret
     exact ⟨bz (by simp [bN]), HW.out.trans (hb2.mono (by omega))⟩
    ·go_wp2_with fail
     have z1 : ¬ 9223372036854775807 < 2 + (Lib.decDigits a).length := by omega
     have z2 : ¬ 9223372036854775807 < 2 + (Lib.decDigits a).length + 1 := by omega
     have z3 : ¬ 9223372036854775807 < 2 + (Lib.decDigits a).length + 1 + (Lib.decDigits b).length := by omega
     have hbW : Below w1.heap.size w1 w1 := br
     go_region_held3 (fun w' => w'.cell? ⟨w.heap.size, 1, none⟩ = some (.int .u64 a) ∧ w'.cell? ⟨w.heap.size, 2, none⟩ = some (.int .u64 b))
      (first
       | exact ⟨(hbW.cell l1).trans e1, (hbW.cell l1).trans e2⟩
       | go_keep)
      (first
       | (go_at_call 192; refine (dX _ _ (by assumption) (by first | exact (HT.out.below hbW).tab | exact (HT.out.below hbW.drew).tab)).mono ?_; rintro e w2 ⟨rfl, hb2⟩; replace hbW := (by first | exact hbW.trans (hb2.mono hbW.size) | exact hbW.drew.trans (hb2.mono hbW.size)); clear hb2))
     go_wp2_with fail
     go_ret
     exact ⟨bz (by simp [bN]), HW.out.trans (hbW.mono (by omega))⟩
    ·go_wp2_with fail
     go_ret
     exact ⟨bz (by simp [bN, HJJ.out]), HW.out⟩
    ·go_wp2_with fail
     go_ret
     exact ⟨bz (by simp [bN, HJJ.out]), HW.out⟩
    ·go_wp2_with fail
     go_ret
     exact ⟨bz (by simp [bN, HJJ.out]), HW.out⟩
theorem oh (S : Nat → Prop) (own : Bool) (e : Ex) (v : Value) (w : World) (hsz : e.size ≤ 900) (hrep : av w S own e v) (hL : Lv w.heap.size w) :
  Calls Tryz.prog 141 #[v] w fun r w' => r = .returned (.string ⟨e.text.toArray⟩) ∧ Below w.heap.size w w' := by
 have hd := e.depth_le_size
 obtain ⟨k', a', b', ad', n', cap', rfl⟩ := hrep.conc
 have hb0 : Below w.heap.size w (w.alloc (.cells #[.int .i64 k', .int .u64 a', .int .u64 b', .slice ad' n' cap'] 44)) := br.alloc nl _
 have HR := hid (hrep.below hb0 nl)
 have HL := hid ((hL.below hb0).mono hb0.size)
 clear hrep hL
 cases hr : e.right with
 | false =>
  go_enter Tryz.func141, Tryz.ntmps141
  go_wp2_with fail
  refine (dD _ _ e _ _ (by omega) HR.out).mono ?_
  rintro e1 w1 ⟨rfl, hb1⟩
  rw [hr]
  go_wp2_with fail
  go_ret
  exact ⟨by simp [Ex.text, hr], hb0.trans (hb1.mono (by simp))⟩
 | true =>
  have hok : e.okR = true := by simp [Ex.right] at hr; exact hr.1.1
  go_enter Tryz.func141, Tryz.ntmps141
  go_wp2_with fail
  refine (dD _ _ e _ _ (by omega) HR.out).mono ?_
  rintro e1 w1 ⟨rfl, hb1⟩
  have c0 : ∀ o, w1.cell? ⟨w.heap.size, o, none⟩ = (w.alloc (.cells #[.int .i64 k', .int .u64 a', .int .u64 b', .slice ad' n' cap'] 44)).cell? ⟨w.heap.size, o, none⟩ := fun o => hb1.cell (by simp)
  rw [hr]
  go_wp2_with fail
  refine (og e.depth _ _ e _ _ nl (by omega) (by omega) hok (HR.out.below hb1 nl) ((HL.out.below hb1).mono hb1.size)).mono ?_
  rintro e2 w2 ⟨rfl, hb2⟩
  have hsz2 := hb1.size
  simp at hsz2
  go_wp2_with fail
  go_ret
  exact ⟨by simp [Ex.text, hr], hb0.trans ((hb1.mono (by simp)).trans (hb2.mono (by omega)))⟩
end Go.Proofs.YtmgbhhmipmgcpaaGreatDoor
