/- Walks. -/
import Derived.Test.YtlpgokcapdjgjaaGreatDoorY1
import Derived.IntWalk
import Derived.Deep.RegionWith
import Derived.Laws.Bits64b
import Derived.Deep.DeepFit
import Derived.Deep.CutRange
set_option maxHeartbeats 2000000
set_option maxRecDepth 100000
namespace Go.Proofs.YtlpgokcapdjgjaaGreatDoor
open Go.RowKit Go
set_option linter.unusedVariables false
set_option linter.unusedSimpArgs false
def yA (a : Nat) (l : List UInt8) : Value := .tuple #[.int .u64 (uj l : Nat), .int .i64 (iQ a l : Nat), .int .i64 (fO l)]
theorem uW {a : Nat} {l : List UInt8} {c : Int} (h : fO l = c ∧ bB l = none) : Value.tuple #[.int .u64 0, .int .i64 0, .int .i64 c] = yA a l := by
 obtain ⟨h1, h2⟩ := El a h.2
 unfold yA; rw [h1, h2, h.1]; rfl
theorem Cq {a : Nat} {l : List UInt8} {v n : Int} (h1 : bz l < 10) (h2 : bz l < l.length) (h3 : dA (valOf (l.take (bz l + 1))) = l.take (bz l + 1)) (hv : v = (valOf (l.take (bz l + 1)) : Nat)) (hn : n = (a : Int) + (bz l : Int) + 1) :
  Value.tuple #[.int .u64 v, .int .i64 n, .int .i64 0] = yA a l := by
 obtain ⟨e1, e2, e3⟩ := CR a h1 h2 h3
 unfold yA; rw [e1, e2, e3, hv, hn]; simp
theorem uX {x y : Nat} (h : x = y) : ((x : Int) != (y : Int)) = false := by subst h; simp
theorem wO {x y : Nat} (h : ¬ x = y) : ((x : Int) != (y : Int)) = true := by simp; omega
theorem om (c : Nat) (w : World) : Calls Tryz.prog 181 #[.int .u8 c] w fun e w' => e = .returned (.bool (decide (c < 128))) ∧ w = w' := by
 go_enter Tryz.func181, Tryz.ntmps181
 go_wp2_with fail
 go_ret
 exact ⟨ah (by rw [Bool.eq_iff_iff]; simp; omega), rfl⟩
def gM (l : List UInt8) : Int := if (l.takeWhile iB).length < l.length then ((l.takeWhile iB).length : Nat) else -1
theorem rO (S : Nat → Prop) (own : Bool) (l : List UInt8) (v : Value) (w : World) (hr : aF w S own l v) :
  Calls Tryz.prog 180 #[v, .func (.func 181) #[] #[]] w fun e w' => e = .returned (.int .i64 (gM l)) ∧ w = w' := by
 obtain ⟨_, ad, cap, rfl, hc⟩ := hr.shape
 have h63 := hr.2.1
 have HR := hid hr
 clear hr
 go_enter Tryz.func180, Tryz.ntmps180
 go_wp2_with fail
 go_loop [8] (fun i => ∃ j : Nat, j ≤ l.length ∧ i = .int .i64 j ∧ j ≤ (l.takeWhile iB).length) (fun i => l.length - (intOf i).toNat)
 case atStart => exact ⟨0, by omega, rfl, by omega⟩
 case round =>
  obtain ⟨j, hj, rfl, hjm⟩ := hrel
  by_cases hlt : j < l.length
  ·obtain ⟨bl, off, rfl, _, g⟩ := aF.at8 HR.out hlt
   by_cases hjl : j < (l.takeWhile iB).length
   ·have hm : 128 ≤ at8 l j := by rw [kZ l j hlt]; simpa [iB] using ma l j hjl hlt
    have hc : decide (at8 l j < 128) = false := by simp; omega
    go_wp2_with (go_at_call 181; refine (om _ _).mono ?_; rintro e w' ⟨rfl, rfl⟩)
    go_round
    case rel => exact ⟨j + 1, by omega, by go_num, by omega⟩
    case measure => simp [intOf]; omega
   ·have hje : j = (l.takeWhile iB).length := by omega
    have hm : at8 l j < 128 := by
     have h1 := jL (p := iB) l (by omega)
     have h2 : iB (l[j]'hlt) = false := by simpa [← hje] using h1
     rw [kZ l j hlt]; simpa [iB] using h2
    have hc : decide (at8 l j < 128) = true := by simp; omega
    have HE : Hid (gM l = (j : Int)) := hid (by unfold gM; rw [← hje, if_pos hlt])
    clear hje hjl
    go_wp2_with (go_at_call 181; refine (om _ _).mono ?_; rintro e w' ⟨rfl, rfl⟩)
    go_ret
    exact ⟨tQ HE.out.symm, rfl⟩
  ·have HE : Hid (gM l = -1) := hid (by unfold gM; rw [if_neg (by omega)])
   go_wp2_with fail
   go_ret
   exact ⟨tQ HE.out.symm, rfl⟩
theorem kw (S S' : Nat → Prop) (own own' : Bool) (l l' : List UInt8) (v v' : Value) (w : World) (hr : aF w S own l v) (hr' : aF w S' own' l' v') :
  Calls Tryz.prog 182 #[v, v'] w fun e w' => e = .returned (.bool (decide (l = l'))) ∧ ∃ n, w' = w.drewN n := by
 obtain ⟨hl, ad, cap, rfl, hc⟩ := hr.shape
 obtain ⟨hl', ad', cap', rfl, hc'⟩ := hr'.shape
 by_cases hlen : l.length = l'.length
 ·have t1 : ((l.length : Int) != (l'.length : Int)) = false := by simp; omega
  have h1 : l.length ≤ l'.length := by omega
  have h2 : l'.length ≤ l.length := by omega
  have HL := hid hlen
  clear hlen
  go_enter Tryz.func182, Tryz.ntmps182
  go_wp2_with fail
  go_loopw [13] (fun i wr => ∃ j : Nat, j ≤ l.length ∧ i = .int .i64 j ∧ Hid (l.take j = l'.take j) ∧ ∃ mq, wr = w.drewN mq) (fun i _ => l.length - (intOf i).toNat)
  case atStart => exact ⟨0, by omega, rfl, hid (by simp), 0, rfl⟩
  case round =>
   obtain ⟨j, hj, rfl, heq, mq, rfl⟩ := hrel
   by_cases hlt : j < l.length
   ·obtain ⟨bl, off, rfl, _, g⟩ := aF.at8 hr hlt
    obtain ⟨bl', off', rfl, _, g'⟩ := aF.at8 (j := j) hr' (by omega)
    have x1 : (0 : Int) ≤ (j : Int) := by omega
    have x2 : (j : Int) < (l.length : Int) := by omega
    have x3 : (j : Int) < (l'.length : Int) := by omega
    by_cases he : at8 l j = at8 l' j
    ·have HT := hid (CU j hlt (by omega) heq.out he)
     have hb := uX he
     clear he
     go_wp2_with fail
     go_quiet (fail)
     go_wp2_with fail
     go_roundw
     case rel => exact ⟨j + 1, by omega, by go_num, HT, mq + nq, by simp⟩
     case measure => simp [intOf]; omega
    ·have hb := wO he
     have HF : Hid (l ≠ l') := hid (En j hlt (by omega) he)
     clear he
     go_wp2_with fail
     go_quiet (fail)
     go_wp2_with fail
     go_ret
     exact ⟨ah (by simpa using HF.out), mq + nq, by simp⟩
   ·have hj2 : j = l.length := by omega
    subst hj2
    go_wp2_with fail
    go_ret
    exact ⟨ah (by have h := heq.out; rw [List.take_length, HL.out, List.take_length] at h; simp [h]), mq, rfl⟩
 ·have t1 : ((l.length : Int) != (l'.length : Int)) = true := by simp; omega
  have HF : Hid (l ≠ l') := hid (fun e => hlen (by rw [e]))
  clear hlen
  go_enter Tryz.func182, Tryz.ntmps182
  go_wp2_with fail
  go_ret
  exact ⟨ah (by simpa using HF.out), 0, rfl⟩
theorem Dz : ∀ x : Fin 256, bits BinOp.and IntKind.u8 (x.val : Int) 127 = ((x.val % 128 : Nat) : Int) := by decide +kernel
theorem EI (c : Nat) (h : c < 256) : bits BinOp.and IntKind.u8 (c : Int) 127 = ((c % 128 : Nat) : Int) := Dz ⟨c, h⟩
theorem Cr (V c n : Nat) (hV : V < 18446744073709551616) (hc : c < 256) (h : n = (V * 128 + c % 128) % 18446744073709551616) :
  Value.int .u64 (bits BinOp.or IntKind.u64 (IntKind.u64.wrap ((V : Int) * 128)) (IntKind.u64.wrap (bits BinOp.and IntKind.u8 (c : Int) 127))) = .int .u64 (n : Int) := by
 have e1 : IntKind.u64.wrap ((V : Int) * 128) = ((128 * (V % 144115188075855872) : Nat) : Int) := by rw [IntKind.wrap_u64]; omega
 have e2 : IntKind.u64.wrap ((c % 128 : Nat) : Int) = ((c % 128 : Nat) : Int) := by rw [IntKind.wrap_u64]; omega
 have e3 : (128 * (V % 144115188075855872)) ||| (c % 128) = 128 * (V % 144115188075855872) + c % 128 := (Nat.two_pow_add_eq_or_of_lt (i := 7) (by omega) _).symm
 rw [EI c hc, e1, e2, bits_or_u64_nat _ _ (by omega) (by omega), e3]
 congr 1
 omega
theorem qH (S : Nat → Prop) (own : Bool) (b : List UInt8) (v : Value) (a : Nat) (w : World) (hr : aF w S own b v) (ha : a ≤ b.length) (hb : b.length ≤ 1000000) :
  Calls Tryz.prog 117 #[v, .int .i64 a] w fun e w' => e = .returned (yA a (b.drop a)) ∧ Below w.heap.size w w' := by
 obtain ⟨_, ad, cap, rfl, hc⟩ := hr.shape
 have HR := hid hr
 clear hr
 go_enter Tryz.func117, Tryz.ntmps117
 go_upto_region 3 with (fail)
 go_cut [0] from 9 to 29 (fun bv wx => wx = w ∧ aF w S own ((b.drop a).take 10) bv)
 case first =>
  go_wp2_with fail
  all_goals go_meet
  ·exact ⟨rfl, by rw [show b.length - a = 0 from by omega, List.drop_of_length_le (by omega)]; exact aF.none⟩
  ·have h := aF.cut HR.out a 10 (cap - a) (by omega) (by omega)
   rw [show ((a : Int) + 10).toNat - a = 10 from by omega]
   exact ⟨rfl, h⟩
  ·have h := aF.cut HR.out a (b.length - a) (cap - a) (by omega) (by omega)
   rw [show ((b.drop a).take (b.length - a)) = (b.drop a).take 10 from by rw [List.take_of_length_le (by simp), List.take_of_length_le (by simp; omega)]] at h
   exact ⟨rfl, h⟩
  ·have h := aF.cut HR.out a (b.length - a) (cap - a) (by omega) (by omega)
   rw [show ((b.drop a).take (b.length - a)) = (b.drop a).take 10 from by rw [List.take_of_length_le (by simp), List.take_of_length_le (by simp; omega)]] at h
   exact ⟨rfl, h⟩
 case rest =>
  obtain ⟨hwc, hb10⟩ := hcut
  subst hwc
  obtain ⟨_, ad1, cap1, rfl, hc1⟩ := hb10.shape
  obtain ⟨l, hl⟩ : ∃ l, l = b.drop a := ⟨_, rfl⟩
  have hll : l.length = b.length - a := by rw [hl]; simp
  have HLl := hid hl
  rw [← hl] at hb10 hc1 ⊢
  obtain ⟨q, hq⟩ : ∃ q, q = l.take 10 := ⟨_, rfl⟩
  have hql : q.length ≤ 10 ∧ q.length ≤ l.length ∧ (q.length < 10 → q.length = l.length) := by rw [hq]; simp; omega
  rw [← hq] at hb10 hc1 ⊢
  obtain ⟨m, hm⟩ : ∃ m, m = bz l := ⟨_, rfl⟩
  have hml := vO l
  rw [← hm] at hml
  have hmq : m ≤ q.length := by omega
  have HF : Hid (gM q = if m < q.length then (m : Int) else -1) := hid (by rw [hq, hm]; rfl)
  have HI := hid (rO S own q _ wc hb10)
  have HM := hid hm
  have HQ := hid hq
  have HB := hid hb10
  clear hm hq hb10 hl
  by_cases hlt : m < q.length
  ·have HF1 : Hid (gM q = (m : Int)) := hid (by rw [HF.out, if_pos hlt])
   go_wp2_with fail
   refine HI.out.mono ?_
   rintro e w1 ⟨rfl, rfl⟩
   rw [HF1.out]
   go_wp2_with fail
   obtain ⟨qq, hqq⟩ : ∃ qq, qq = l.take (m + 1) := ⟨_, rfl⟩
   have hqql : qq.length = m + 1 := by rw [hqq]; simp; omega
   have HQQ := hid hqq
   clear hqq
   go_loop [4, 8] (fun v i => ∃ j : Nat, j ≤ m + 1 ∧ i = .int .i64 ((j : Int) - 1) ∧ v = .int .u64 (valOf (qq.drop j) : Nat)) (fun v i => (intOf i + 1).toNat)
   case atStart => exact ⟨m + 1, by omega, by congr 1; omega, by rw [List.drop_of_length_le (by omega)]; rfl⟩
   case round =>
    obtain ⟨j, hj, rfl, rfl⟩ := hrel
    have hV := vN (qq.drop j)
    obtain ⟨V, hVe⟩ : ∃ V, V = valOf (qq.drop j) := ⟨_, rfl⟩
    rw [← hVe] at hV ⊢
    have HV := hid hVe
    clear hVe
    cases j with
    | zero =>
     have HV0 : Hid (V = valOf qq) := hid HV.out
     have HH : Hid (aF wc S own qq (.slice ad1 (m + 1) cap1)) := hid (by
      have h := aF.head HB.out (m + 1) cap1 (by omega) (by omega)
      rw [HQ.out, List.take_take, Nat.min_eq_left (by omega), ← HQQ.out] at h
      exact h)
     have hpl := dF V
     have x1 : IntKind.i64.wrap ((m : Int) + 1) = (m : Int) + 1 := IntWalk.i64_in _ (by omega)
     have x2 : (0 : Int) ≤ (m : Int) + 1 := by omega
     have x3 : (m : Int) + 1 ≤ (cap1 : Int) := by omega
     have x4 : ((m : Int) + 1).toNat = m + 1 := by omega
     by_cases he : dA V = qq
     ·have hd : decide (dA V = qq) = true := by simpa using he
      have HE := hid (Cq (a := a) (l := l) (v := (V : Nat)) (n := (a : Int) + (m : Int) + 1) (by rw [← HM.out]; omega) (by rw [← HM.out]; omega) (by rw [← HM.out, ← HQQ.out, ← HV0.out]; exact he) (by rw [← HM.out, ← HQQ.out, ← HV0.out]) (by rw [← HM.out]))
      clear he
      go_wp2_with fail
      go_region_with (first
       | (go_at_call 124; go_fit (kX V _ hV); rintro e w1 ⟨v1, rfl, hown1, hb1⟩; obtain ⟨sa1, sc1, rfl⟩ := au hown1)
       | (go_at_call 182; go_fit (kw _ _ _ _ (dA V) qq _ _ _ (aF.of_owns hown1) (HH.out.below (br.drew.trans hb1) nl)); rintro e w2 ⟨rfl, nq, rfl⟩))
      go_wp2_with fail
      go_ret3
      exact ⟨by rw [← HLl.out, ← HE.out]; rfl, below_drewN (br.drew.trans hb1) _⟩
     ·have hd : decide (dA V = qq) = false := by simpa using he
      have HE := hid (uW (a := a) (BG (l := l) (by rw [← HM.out]; omega) (by rw [← HM.out]; omega) (by rw [← HM.out, ← HQQ.out, ← HV0.out]; exact he)))
      clear he
      go_wp2_with fail
      go_region_with (first
       | (go_at_call 124; go_fit (kX V _ hV); rintro e w1 ⟨v1, rfl, hown1, hb1⟩; obtain ⟨sa1, sc1, rfl⟩ := au hown1)
       | (go_at_call 182; go_fit (kw _ _ _ _ (dA V) qq _ _ _ (aF.of_owns hown1) (HH.out.below (br.drew.trans hb1) nl)); rintro e w2 ⟨rfl, nq, rfl⟩))
      go_wp2_with fail
      go_ret3
      exact ⟨by rw [← HLl.out, ← HE.out]; rfl, below_drewN (br.drew.trans hb1) _⟩
    | succ j =>
     obtain ⟨bl, off, rfl, _, g⟩ := aF.at8 (j := j) HB.out (by omega)
     have h256 := Em q j
     rw [show (((j + 1 : Nat) : Int) - 1) = (j : Int) from by omega]
     go_wp2_with fail
     go_round
     case rel =>
      refine ⟨j, by omega, rfl, ?_⟩
      exact Cr _ _ _ hV h256 (by rw [HV.out, vQ qq j (by omega), HQQ.out, vP _ _ _ (by omega), HQ.out, vP _ _ _ (by omega)])
     case measure => simp [intOf]
  ·have HF1 : Hid (gM q = -1) := hid (by rw [HF.out, if_neg hlt])
   by_cases h10 : m = 10
   ·have HE := hid (uW (a := a) (BF (HM.out ▸ h10)))
    have t3 : ((q.length : Int) == 10) = true := by simp; omega
    clear h10
    go_wp2_with fail
    refine HI.out.mono ?_
    rintro e w1 ⟨rfl, rfl⟩
    rw [HF1.out]
    go_wp2_with fail
    go_ret3
    exact ⟨by rw [← HLl.out, ← HE.out]; rfl, br⟩
   ·have HE := hid (uW (a := a) (xJ (l := l) (by rw [← HM.out]; omega) (by rw [← HM.out]; omega)))
    have t3 : ((q.length : Int) == 10) = false := by simp; omega
    clear h10
    go_wp2_with fail
    refine HI.out.mono ?_
    rintro e w1 ⟨rfl, rfl⟩
    rw [HF1.out]
    go_wp2_with fail
    go_ret3
    exact ⟨by rw [← HLl.out, ← HE.out]; rfl, br⟩
end Go.Proofs.YtlpgokcapdjgjaaGreatDoor
