/- Walks. -/
import Derived.Test.YtlpgokcapdjgjaaGreatDoorY9
import Derived.Test.YtlpgokcapdjgjaaGreatDoorY11
import Derived.Deep.DeepFit
set_option maxHeartbeats 1000000
set_option maxRecDepth 100000
namespace Go.Proofs.YtlpgokcapdjgjaaGreatDoor
open Go.RowKit Go
set_option linter.unusedVariables false
set_option linter.unusedSimpArgs false
theorem dQ {a b : ByteArray} (h : a.data.toList = b.data.toList) : Ending.returned (.string a) = .returned (.string b) := by rw [Bp h]
theorem BH {k : Int} {a b n : Nat} (h : fU k a b n = true) : k = 1 ∨ k = 2 ∨ k = 3 ∨ k = 4 ∨ (k = 5 ∧ n = 1) ∨ k = 6 ∨ k = 7 := by
 unfold fU at h
 by_cases h1 : k = 1
 ·exact .inl h1
 rw [if_neg h1] at h
 by_cases h2 : k = 2 ∨ k = 3
 ·omega
 rw [if_neg h2] at h
 by_cases h4 : k = 4
 ·omega
 rw [if_neg h4] at h
 by_cases h5 : k = 5
 ·rw [if_pos h5] at h
  simp at h
  exact .inr (.inr (.inr (.inr (.inl ⟨h5, h.2⟩))))
 rw [if_neg h5] at h
 by_cases h6 : k = 6 ∨ k = 7
 ·omega
 rw [if_neg h6] at h
 cases h
def jM (d : Nat) : Prop := ∀ (S : Nat → Prop) (own : Bool) (e : Ex) (v : Value) (w : World), e.depth ≤ d → d ≤ 1000 → e.size ≤ 1000 → e.okR = true → ax w S own e v →
  Calls Tryz.prog 123 #[v] w fun r w' => r = .returned (.string ⟨e.told.toArray⟩) ∧ Below w.heap.size w w'
theorem Eo (d : Nat) (IH : Hid (jM d)) (S : Nat → Prop) (own : Bool) (a b : Nat) (ps : List Ex) (xs : List Value) (ad : Option Addr) (cap : Nat) (w : World) (hd : Ex.depths ps ≤ d) (hd2 : d ≤ 1000) (hsz : Ex.sizes ps + 1 ≤ 1000) (HOK : Hid (Ex.okRs ps = true))
  (ha : a < 18446744073709551616) (hb : b < 18446744073709551616) (HS : Hid (Sl w S own 4 ps.length xs (.slice ad ps.length cap) ∧ az w S own ps xs)) :
  Calls Tryz.prog 123 #[.agg #[.int .i64 1, .int .u64 a, .int .u64 b, .slice ad ps.length cap]] w fun r w' => r = .returned (.string ⟨(cO 1 a b (Ex.tolds ps)).toArray⟩) ∧ Below w.heap.size w w' := by
 go_enter Tryz.func123, Tryz.ntmps123
 go_wp2_with fail
 go_ret
 exact ⟨rfl, br.alloc nl _⟩
theorem Ep (d : Nat) (IH : Hid (jM d)) (S : Nat → Prop) (own : Bool) (a b : Nat) (ps : List Ex) (xs : List Value) (ad : Option Addr) (cap : Nat) (w : World) (hd : Ex.depths ps ≤ d) (hd2 : d ≤ 1000) (hsz : Ex.sizes ps + 1 ≤ 1000) (HOK : Hid (Ex.okRs ps = true))
  (ha : a < 18446744073709551616) (hb : b < 18446744073709551616) (HS : Hid (Sl w S own 4 ps.length xs (.slice ad ps.length cap) ∧ az w S own ps xs)) :
  Calls Tryz.prog 123 #[.agg #[.int .i64 2, .int .u64 a, .int .u64 b, .slice ad ps.length cap]] w fun r w' => r = .returned (.string ⟨(cO 2 a b (Ex.tolds ps)).toArray⟩) ∧ Below w.heap.size w w' := by
 have hl := aJ a ha
 go_enter Tryz.func123, Tryz.ntmps123
 go_wp2_with fail
 refine (dB a _ ha).mono ?_
 rintro e w1 ⟨rfl, rfl⟩
 go_wp2_with fail
 go_ret
 exact ⟨dQ (by simp [cO]), br.alloc nl _⟩
theorem Er (d : Nat) (IH : Hid (jM d)) (S : Nat → Prop) (own : Bool) (a b : Nat) (ps : List Ex) (xs : List Value) (ad : Option Addr) (cap : Nat) (w : World) (hd : Ex.depths ps ≤ d) (hd2 : d ≤ 1000) (hsz : Ex.sizes ps + 1 ≤ 1000) (HOK : Hid (Ex.okRs ps = true))
  (ha : a < 18446744073709551616) (hb : b < 18446744073709551616) (HS : Hid (Sl w S own 4 ps.length xs (.slice ad ps.length cap) ∧ az w S own ps xs)) :
  Calls Tryz.prog 123 #[.agg #[.int .i64 3, .int .u64 a, .int .u64 b, .slice ad ps.length cap]] w fun r w' => r = .returned (.string ⟨(cO 3 a b (Ex.tolds ps)).toArray⟩) ∧ Below w.heap.size w w' := by
 have hl := aJ a ha
 go_enter Tryz.func123, Tryz.ntmps123
 go_wp2_with fail
 refine (dB a _ ha).mono ?_
 rintro e w1 ⟨rfl, rfl⟩
 go_wp2_with fail
 go_ret
 exact ⟨dQ (by simp [cO]), br.alloc nl _⟩
theorem Es (d : Nat) (IH : Hid (jM d)) (S : Nat → Prop) (own : Bool) (a b : Nat) (ps : List Ex) (xs : List Value) (ad : Option Addr) (cap : Nat) (w : World) (hd : Ex.depths ps ≤ d) (hd2 : d ≤ 1000) (hsz : Ex.sizes ps + 1 ≤ 1000) (HOK : Hid (Ex.okRs ps = true))
  (ha : a < 18446744073709551616) (hb : b < 18446744073709551616) (HS : Hid (Sl w S own 4 ps.length xs (.slice ad ps.length cap) ∧ az w S own ps xs)) :
  Calls Tryz.prog 123 #[.agg #[.int .i64 4, .int .u64 a, .int .u64 b, .slice ad ps.length cap]] w fun r w' => r = .returned (.string ⟨(cO 4 a b (Ex.tolds ps)).toArray⟩) ∧ Below w.heap.size w w' := by
 have hl := aJ a ha
 have hl2 := aJ b hb
 go_enter Tryz.func123, Tryz.ntmps123
 go_wp2_with fail
 go_quiet ((go_at_call 80; exact Calls.quiet_of_same (dB _ _ (by assumption))))
 go_wp2_with fail
 go_ret
 exact ⟨dQ (by simp [cO]), below_drewN (br.alloc nl _) _⟩
theorem Et (d : Nat) (IH : Hid (jM d)) (S : Nat → Prop) (own : Bool) (a b : Nat) (ps : List Ex) (xs : List Value) (ad : Option Addr) (cap : Nat) (w : World) (hd : Ex.depths ps ≤ d) (hd2 : d ≤ 1000) (hsz : Ex.sizes ps + 1 ≤ 1000) (HOK : Hid (Ex.okRs ps = true))
  (ha : a < 18446744073709551616) (hb : b < 18446744073709551616) (HS : Hid (Sl w S own 4 ps.length xs (.slice ad ps.length cap) ∧ az w S own ps xs)) (h1 : ps.length = 1) :
  Calls Tryz.prog 123 #[.agg #[.int .i64 5, .int .u64 a, .int .u64 b, .slice ad ps.length cap]] w fun r w' => r = .returned (.string ⟨(cO 5 a b (Ex.tolds ps)).toArray⟩) ∧ Below w.heap.size w w' := by
 obtain ⟨e0, rfl⟩ := List.length_eq_one_iff.1 h1
 obtain ⟨hxl, hlen, _, _, _, hcap⟩ := HS.out.1.shape
 have hb0 : Below w.heap.size w (w.alloc (.cells #[.int .i64 5, .int .u64 a, .int .u64 b, .slice ad [e0].length cap] 62)) := br.alloc nl _
 obtain ⟨bl, off, k', a', b', ad', n', cap', rfl, _, g0, g1, g2, g3, _, ge⟩ := (HS.out.2.below hb0 nl).part (HS.out.1.below (by omega) hb0 nl) 0 (by simp)
 have hdj := Ex.depths_ge [e0] 0 (by simp)
 have hsj := Ex.sizes_ge [e0] 0 (by simp)
 have hok := Ex.okRs_get [e0] 0 (by simp) HOK.out
 have htl := Ex.told_len _ ge.nums
 have hsk := Ex.size_pos e0
 simp only [List.length_cons, List.length_nil, Nat.zero_add, List.getElem_cons_zero, Nat.zero_mul, Nat.mul_zero, Nat.add_zero] at hcap hb0 hdj hsj hok htl g0 g1 g2 g3 ge ⊢
 clear hxl
 go_enter Tryz.func123, Tryz.ntmps123
 go_wp2_with fail
 refine (IH.out _ _ e0 _ _ (by omega) (by omega) (by omega) hok ge).mono ?_
 rintro e w1 ⟨rfl, hb2⟩
 go_wp2_with fail
 go_ret
 exact ⟨dQ (by simp [cO, commas, Ex.tolds, Lib.join_one]), hb0.trans (hb2.mono (by simp))⟩
theorem Eu (d : Nat) (IH : Hid (jM d)) (S : Nat → Prop) (own : Bool) (a b : Nat) (ps : List Ex) (xs : List Value) (ad : Option Addr) (cap : Nat) (w : World) (hd : Ex.depths ps ≤ d) (hd2 : d ≤ 1000) (hsz : Ex.sizes ps + 1 ≤ 1000) (HOK : Hid (Ex.okRs ps = true))
  (ha : a < 18446744073709551616) (hb : b < 18446744073709551616) (HS : Hid (Sl w S own 4 ps.length xs (.slice ad ps.length cap) ∧ az w S own ps xs)) :
  Calls Tryz.prog 123 #[.agg #[.int .i64 6, .int .u64 a, .int .u64 b, .slice ad ps.length cap]] w fun r w' => r = .returned (.string ⟨(cO 6 a b (Ex.tolds ps)).toArray⟩) ∧ Below w.heap.size w w' := by
 obtain ⟨hxl, hlen, _, _, _, hcap⟩ := HS.out.1.shape
 clear hxl
 have hpl := Ex.length_le_sizes ps
 have HN := hid (az.nums HS.out.2)
 go_enter Tryz.func123, Tryz.ntmps123
 go_wp2_with fail
 go_loopw [3, 4] (fun o i wr => ∃ (j : Nat) (t : ByteArray), j ≤ ps.length ∧ i = .int .i64 j ∧ o = .string t ∧ t.data.toList = [38, 40] ++ commas (Ex.tolds (ps.take j)) ∧ Below (w.heap.size + 1) (w.alloc (.cells #[.int .i64 6, .int .u64 a, .int .u64 b, .slice ad ps.length cap] 62)) wr) (fun _ i _ => ps.length - (intOf i).toNat)
 case atStart => exact ⟨0, _, by omega, rfl, rfl, by simp [Ex.tolds, commas, Lib.join_nil], br⟩
 case round =>
  obtain ⟨j, t, hj, rfl, rfl, ht, hbel⟩ := hrel
  have hbox : ∀ o, wr.cell? ⟨w.heap.size, o, none⟩ = (w.alloc (.cells #[.int .i64 6, .int .u64 a, .int .u64 b, .slice ad ps.length cap] 62)).cell? ⟨w.heap.size, o, none⟩ := fun o => hbel.cell (by simp)
  have hsz : w.heap.size + 1 ≤ wr.heap.size := by have := hbel.size; simpa using this
  have hb0 : Below w.heap.size w wr := (br.alloc nl _).trans (hbel.mono (by simp))
  have htl := Ex.tolds_take_len ps HN.out j
  have hts : t.size ≤ 50002 := by rw [← af, ht]; simp; omega
  clear htl
  have HT := hid ht
  clear ht
  by_cases hlt : j < ps.length
  ·obtain ⟨bl, off, k', a', b', ad', n', cap', rfl, _, g0, g1, g2, g3, _, ge⟩ := (HS.out.2.below hb0 nl).part (HS.out.1.below (by omega) hb0 nl) j hlt
   have hdj := Ex.depths_ge ps j hlt
   have hsj := Ex.sizes_ge ps j hlt
   have hol := Ex.told_len _ ge.nums
   have hok := Ex.okRs_get ps j hlt HOK.out
   have HK := hid (Ex.tolds_take ps j hlt)
   by_cases hj0 : j = 0
   ·have tj : decide ((0 : Int) < (j : Int)) = false := by simp; omega
    have HJ0 := hid hj0
    have hj1 : j < 1 := by omega
    clear hj0
    go_wp2_with (go_at_call 123; refine (IH.out _ _ ps[j] _ _ (by omega) (by omega) (by omega) hok ge).mono ?_; rintro e w' ⟨rfl, hb1⟩)
    go_roundw
    case rel =>
     refine ⟨j + 1, _, by omega, by go_num, rfl, ?_, hbel.trans (hb1.mono (by omega))⟩
     rw [HK.out, iJ, if_pos (by rw [HJ0.out]; simp [Ex.tolds])]
     have := HT.out
     rw [HJ0.out] at this
     simp [Ex.tolds, commas, Lib.join_nil] at this
     simp [this]
    case measure => simp [intOf]; omega
   ·have tj : decide ((0 : Int) < (j : Int)) = true := by simp; omega
    go_wp2_with (go_at_call 123; refine (IH.out _ _ ps[j] _ _ (by omega) (by omega) (by omega) hok ge).mono ?_; rintro e w' ⟨rfl, hb1⟩)
    go_roundw
    case rel =>
     refine ⟨j + 1, _, by omega, by go_num, rfl, ?_, hbel.trans (hb1.mono (by omega))⟩
     rw [HK.out, iJ, if_neg (by intro h; have := congrArg List.length h; rw [Ex.tolds_length, List.length_take, List.length_nil] at this; omega)]
     simp [HT.out]
    case measure => simp [intOf]; omega
  ·have hj2 : j = ps.length := by omega
   subst hj2
   go_wp2_with fail
   go_ret
   exact ⟨dQ (by have := HT.out; rw [List.take_length] at this; simp [cO, this]), hb0⟩
theorem Ev (d : Nat) (IH : Hid (jM d)) (S : Nat → Prop) (own : Bool) (a b : Nat) (ps : List Ex) (xs : List Value) (ad : Option Addr) (cap : Nat) (w : World) (hd : Ex.depths ps ≤ d) (hd2 : d ≤ 1000) (hsz : Ex.sizes ps + 1 ≤ 1000) (HOK : Hid (Ex.okRs ps = true))
  (ha : a < 18446744073709551616) (hb : b < 18446744073709551616) (HS : Hid (Sl w S own 4 ps.length xs (.slice ad ps.length cap) ∧ az w S own ps xs)) :
  Calls Tryz.prog 123 #[.agg #[.int .i64 7, .int .u64 a, .int .u64 b, .slice ad ps.length cap]] w fun r w' => r = .returned (.string ⟨(cO 7 a b (Ex.tolds ps)).toArray⟩) ∧ Below w.heap.size w w' := by
 obtain ⟨hxl, hlen, _, _, _, hcap⟩ := HS.out.1.shape
 clear hxl
 have hpl := Ex.length_le_sizes ps
 have HN := hid (az.nums HS.out.2)
 go_enter Tryz.func123, Tryz.ntmps123
 go_wp2_with fail
 go_loopw [3, 4] (fun o i wr => ∃ (j : Nat) (t : ByteArray), j ≤ ps.length ∧ i = .int .i64 j ∧ o = .string t ∧ t.data.toList = [124, 40] ++ commas (Ex.tolds (ps.take j)) ∧ Below (w.heap.size + 1) (w.alloc (.cells #[.int .i64 7, .int .u64 a, .int .u64 b, .slice ad ps.length cap] 62)) wr) (fun _ i _ => ps.length - (intOf i).toNat)
 case atStart => exact ⟨0, _, by omega, rfl, rfl, by simp [Ex.tolds, commas, Lib.join_nil], br⟩
 case round =>
  obtain ⟨j, t, hj, rfl, rfl, ht, hbel⟩ := hrel
  have hbox : ∀ o, wr.cell? ⟨w.heap.size, o, none⟩ = (w.alloc (.cells #[.int .i64 7, .int .u64 a, .int .u64 b, .slice ad ps.length cap] 62)).cell? ⟨w.heap.size, o, none⟩ := fun o => hbel.cell (by simp)
  have hsz : w.heap.size + 1 ≤ wr.heap.size := by have := hbel.size; simpa using this
  have hb0 : Below w.heap.size w wr := (br.alloc nl _).trans (hbel.mono (by simp))
  have htl := Ex.tolds_take_len ps HN.out j
  have hts : t.size ≤ 50002 := by rw [← af, ht]; simp; omega
  clear htl
  have HT := hid ht
  clear ht
  by_cases hlt : j < ps.length
  ·obtain ⟨bl, off, k', a', b', ad', n', cap', rfl, _, g0, g1, g2, g3, _, ge⟩ := (HS.out.2.below hb0 nl).part (HS.out.1.below (by omega) hb0 nl) j hlt
   have hdj := Ex.depths_ge ps j hlt
   have hsj := Ex.sizes_ge ps j hlt
   have hol := Ex.told_len _ ge.nums
   have hok := Ex.okRs_get ps j hlt HOK.out
   have HK := hid (Ex.tolds_take ps j hlt)
   by_cases hj0 : j = 0
   ·have tj : decide ((0 : Int) < (j : Int)) = false := by simp; omega
    have HJ0 := hid hj0
    have hj1 : j < 1 := by omega
    clear hj0
    go_wp2_with (go_at_call 123; refine (IH.out _ _ ps[j] _ _ (by omega) (by omega) (by omega) hok ge).mono ?_; rintro e w' ⟨rfl, hb1⟩)
    go_roundw
    case rel =>
     refine ⟨j + 1, _, by omega, by go_num, rfl, ?_, hbel.trans (hb1.mono (by omega))⟩
     rw [HK.out, iJ, if_pos (by rw [HJ0.out]; simp [Ex.tolds])]
     have := HT.out
     rw [HJ0.out] at this
     simp [Ex.tolds, commas, Lib.join_nil] at this
     simp [this]
    case measure => simp [intOf]; omega
   ·have tj : decide ((0 : Int) < (j : Int)) = true := by simp; omega
    go_wp2_with (go_at_call 123; refine (IH.out _ _ ps[j] _ _ (by omega) (by omega) (by omega) hok ge).mono ?_; rintro e w' ⟨rfl, hb1⟩)
    go_roundw
    case rel =>
     refine ⟨j + 1, _, by omega, by go_num, rfl, ?_, hbel.trans (hb1.mono (by omega))⟩
     rw [HK.out, iJ, if_neg (by intro h; have := congrArg List.length h; rw [Ex.tolds_length, List.length_take, List.length_nil] at this; omega)]
     simp [HT.out]
    case measure => simp [intOf]; omega
  ·have hj2 : j = ps.length := by omega
   subst hj2
   go_wp2_with fail
   go_ret
   exact ⟨dQ (by have := HT.out; rw [List.take_length] at this; simp [cO, this]), hb0⟩
theorem vT (d : Nat) : jM d := by
 induction d with
 | zero => intro S own e v w hd; cases e; simp [Ex.depth] at hd
 | succ d ih =>
  intro S own e v w hd hd2 hsz hok hrep
  obtain ⟨k, a, b, ps⟩ := e
  simp only [ax] at hrep
  obtain ⟨s, xs, rfl, hk1, hk2, ha, hb, hs, hes⟩ := hrep
  obtain ⟨hxl, hlen, ad, cap, rfl, hcap⟩ := hs.shape
  simp only [Ex.depth, Ex.size] at hd hsz
  simp only [Ex.okR, Bool.and_eq_true] at hok
  have hd' : Ex.depths ps ≤ d := by omega
  have hd2' : d ≤ 1000 := by omega
  simp only [Ex.told]
  rcases BH hok.2 with rfl | rfl | rfl | rfl | ⟨rfl, h1⟩ | rfl | rfl
  ·exact Eo d (hid ih) S own a b ps xs ad cap w hd' hd2' hsz (hid hok.1) ha hb (hid ⟨hs, hes⟩)
  ·exact Ep d (hid ih) S own a b ps xs ad cap w hd' hd2' hsz (hid hok.1) ha hb (hid ⟨hs, hes⟩)
  ·exact Er d (hid ih) S own a b ps xs ad cap w hd' hd2' hsz (hid hok.1) ha hb (hid ⟨hs, hes⟩)
  ·exact Es d (hid ih) S own a b ps xs ad cap w hd' hd2' hsz (hid hok.1) ha hb (hid ⟨hs, hes⟩)
  ·exact Et d (hid ih) S own a b ps xs ad cap w hd' hd2' hsz (hid hok.1) ha hb (hid ⟨hs, hes⟩) h1
  ·exact Eu d (hid ih) S own a b ps xs ad cap w hd' hd2' hsz (hid hok.1) ha hb (hid ⟨hs, hes⟩)
  ·exact Ev d (hid ih) S own a b ps xs ad cap w hd' hd2' hsz (hid hok.1) ha hb (hid ⟨hs, hes⟩)
def Ex.text (e : Ex) : List UInt8 := if e.right then e.told else []
theorem vU (S : Nat → Prop) (own : Bool) (e : Ex) (v : Value) (w : World) (hsz : e.size ≤ 900) (hrep : ax w S own e v) :
  Calls Tryz.prog 82 #[v] w fun r w' => r = .returned (.string ⟨e.text.toArray⟩) ∧ Below w.heap.size w w' := by
 have hd := e.depth_le_size
 obtain ⟨k', a', b', ad', n', cap', rfl⟩ := hrep.conc
 have hb0 : Below w.heap.size w (w.alloc (.cells #[.int .i64 k', .int .u64 a', .int .u64 b', .slice ad' n' cap'] 62)) := br.alloc nl _
 have HR := hid (hrep.below hb0 nl)
 clear hrep
 cases hr : e.right with
 | false =>
  go_enter Tryz.func82, Tryz.ntmps82
  go_wp2_with fail
  refine (fJ _ _ e _ _ (by omega) HR.out).mono ?_
  rintro e1 w1 ⟨rfl, hb1⟩
  rw [hr]
  go_wp2_with fail
  go_ret
  exact ⟨by simp [Ex.text, hr], hb0.trans (hb1.mono (by simp))⟩
 | true =>
  have hok : e.okR = true := by simp [Ex.right] at hr; exact hr.1.1
  go_enter Tryz.func82, Tryz.ntmps82
  go_wp2_with fail
  refine (fJ _ _ e _ _ (by omega) HR.out).mono ?_
  rintro e1 w1 ⟨rfl, hb1⟩
  have c0 : ∀ o, w1.cell? ⟨w.heap.size, o, none⟩ = (w.alloc (.cells #[.int .i64 k', .int .u64 a', .int .u64 b', .slice ad' n' cap'] 62)).cell? ⟨w.heap.size, o, none⟩ := fun o => hb1.cell (by simp)
  rw [hr]
  go_wp2_with fail
  refine (vT e.depth _ _ e _ _ nl (by omega) (by omega) hok (HR.out.below hb1 nl)).mono ?_
  rintro e2 w2 ⟨rfl, hb2⟩
  have hsz2 := hb1.size
  simp at hsz2
  go_wp2_with fail
  go_ret
  exact ⟨by simp [Ex.text, hr], hb0.trans ((hb1.mono (by simp)).trans (hb2.mono (by omega)))⟩
def strs (l : List (List UInt8)) : List Value := l.map fun x => .string ⟨x.toArray⟩
theorem dh (l : List (List UInt8)) : (strs l).length = l.length := by simp [strs]
theorem jN (a b : List (List UInt8)) : strs (a ++ b) = strs a ++ strs b := by simp [strs]
theorem CV : (Tryz.prog.info? 9).map (fun i => (i.zero, i.size, i.bytes)) = some (some (.string ⟨#[]⟩), 1, 16) := by kernel_rfl
end Go.Proofs.YtlpgokcapdjgjaaGreatDoor
