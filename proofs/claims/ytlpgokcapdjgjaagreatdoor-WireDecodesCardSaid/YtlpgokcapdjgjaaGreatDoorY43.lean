/- Walks. -/
import Derived.Test.YtlpgokcapdjgjaaGreatDoorY1
import Derived.IntWalk
import Derived.Deep.RegionWith
import Derived.Laws.Bits64b
import Derived.Deep.DeepFit
import Derived.Deep.CutRange
set_option maxHeartbeats 2000000
set_option maxRecDepth 100000
namespace Go.Proofs.YtlpgokcapdjgjaaGreatDoor
open Go.RowKit Go
set_option linter.unusedVariables false
set_option linter.unusedSimpArgs false
def pG (a : Nat) (l : List UInt8) : Value := .tuple #[.int .u64 (kK l : Nat), .int .i64 (fI a l : Nat), .int .i64 (dJ l)]
theorem ku {a : Nat} {l : List UInt8} {c : Int} (h : dJ l = c ∧ bf l = none) : Value.tuple #[.int .u64 0, .int .i64 0, .int .i64 c] = pG a l := by
 obtain ⟨h1, h2⟩ := wm a h.2;unfold pG; rw [h1, h2, h.1]; rfl
theorem yI {a : Nat} {l : List UInt8} {v n : Int} (h1 : bz l < 10) (h2 : bz l < l.length) (h3 : dw (valOf (l.take (bz l + 1))) = l.take (bz l + 1)) (hv : v = (valOf (l.take (bz l + 1)) : Nat)) (hn : n = (a : Int) + (bz l : Int) + 1) :
  Value.tuple #[.int .u64 v, .int .i64 n, .int .i64 0] = pG a l := by
 obtain ⟨e1, e2, e3⟩ := Fe a h1 h2 h3;unfold pG; rw [e1, e2, e3, hv, hn]; simp
theorem ou {x y : Nat} (h : x = y) : ((x : Int) != (y : Int)) = false := by subst h; simp
theorem qp {x y : Nat} (h : ¬ x = y) : ((x : Int) != (y : Int)) = true := by simp; omega
theorem Au (v : Value) (n cap : Nat) (ad : Option Addr) (i : Int) (w : World) (hn : n ≤ 1000000) (hi : i < 0 ∨ (n : Int) < i) :
  Calls Tryz.prog 109 #[.slice ad n cap, .int .i64 i] w fun e w' => e = .returned (.tuple #[.int .u64 0, .int .i64 0, .int .i64 2]) ∧ w = w' := by
 by_cases h0 : i < 0
 ·go_enter Tryz.func109, Tryz.ntmps109
  go_wp2_with fail;go_ret3
  exact ⟨rfl, rfl⟩
 ·have h1 : (n : Int) < i := by omega
  go_enter Tryz.func109, Tryz.ntmps109
  go_wp2_with fail;go_ret3
  exact ⟨rfl, rfl⟩
theorem nk (S : Nat → Prop) (own : Bool) (b : List UInt8) (v : Value) (a : Nat) (w : World) (hr : aO w S own b v) (ha : a ≤ b.length) (hb : b.length ≤ 1000000) :
  Calls Tryz.prog 109 #[v, .int .i64 a] w fun e w' => e = .returned (pG a (b.drop a)) ∧ Below w.1.size w w' := by
 obtain ⟨_, ad, cap, rfl, hc⟩ := hr.shape;obtain ⟨l, hl⟩ : ∃ l, l = b.drop a := ⟨_, rfl⟩;obtain ⟨m, hm⟩ : ∃ m, m = bz l := ⟨_, rfl⟩;have hll : l.length = b.length - a := by rw [hl]; simp
 have hml := kJ l;rw [← hm] at hml;have hcell : ∀ j, j < l.length → ∃ bl off, ad = some ⟨bl, off, none⟩ ∧ w.cell? ⟨bl, off + (a + j), none⟩ = some (.int .u8 (at8 l j : Nat)) := by
  intro j hj;obtain ⟨bl, off, h1, _, h3⟩ := aO.at8 (j := a + j) hr (by omega);exact ⟨bl, off, h1, by rw [h3, hl, xL]⟩
 have hat : ∀ j, j < m → 128 ≤ at8 l j := fun j hj => BX l j (by omega)
 have hst : m < 10 → m < l.length → at8 l m < 128 := fun h1 h2 => by rw [hm] at h1 h2 ⊢; exact xM l h1 h2
 rw [← hl];have HR := hid hr;have HL := hid hl;have HM := hid hm;have HC := hid hcell;have HA := hid hat;have HS := hid hst;clear hr hl hm hcell hat hst
 go_enter Tryz.func109, Tryz.ntmps109
 go_wp2_with fail
 go_loop [7] (fun n => ∃ k : Nat, k ≤ m ∧ n = .int .i64 k) (fun n => m - (intOf n).toNat)
 case atStart => exact ⟨0, by omega, rfl⟩
 case round =>
  obtain ⟨k, hk, rfl⟩ := hrel;by_cases hlt : k < m
  ·obtain ⟨bl, off, rfl, g⟩ := HC.out k (by omega)
   have t := HA.out k hlt;have x1 : (a : Int) + (k : Int) < (b.length : Int) := (by omega);have x2 : (k : Int) < 10 := (by omega);go_wp2_with fail
   go_round
   case rel => exact ⟨k + 1, by omega, by go_num⟩
   case measure => simp [intOf]; omega
  ·have hkm : k = m := by omega
   subst hkm;clear hlt hk;by_cases h10 : k = 10
   ·have HE := hid (ku (a := a) (xK (HM.out ▸ h10)))
    have t1 : decide ((k : Int) < 10) = false := (by simp; omega);have t2 : ((k : Int) == 10) = true := (by simp; omega);clear h10;go_wp2_with fail;go_ret3
    exact ⟨congrArg Ending.returned HE.out, br⟩
   ·have hk10 : k < 10 := by omega
    have t1 : decide ((k : Int) < 10) = true := (by simp; omega);have t2 : ((k : Int) == 10) = false := (by simp; omega);by_cases hsh : l.length ≤ k
    ·have HE := hid (ku (a := a) (qW (l := l) (by rw [← HM.out]; omega) (by rw [← HM.out]; omega)))
     have t3 : decide ((a : Int) + (k : Int) < (b.length : Int)) = false := (by simp; omega);clear h10;go_wp2_with fail;go_ret3
     exact ⟨congrArg Ending.returned HE.out, br⟩
    ·obtain ⟨bl, off, rfl, g⟩ := HC.out k (by omega)
     have t := HS.out (by omega) (by omega);have t3 : decide ((a : Int) + (k : Int) < (b.length : Int)) = true := (by simp; omega);clear h10;obtain ⟨q, hq⟩ : ∃ q, q = l.take (k + 1) := ⟨_, rfl⟩;have hql : q.length = k + 1 := (by rw [hq]; simp; omega);have HQ := hid hq;clear hq;go_wp2_with fail
     go_loop [8, 9] (fun v i => ∃ j : Nat, j ≤ k + 1 ∧ i = .int .i64 ((j : Int) - 1) ∧ v = .int .u64 (valOf (q.drop j) : Nat)) (fun v i => (intOf i + 1).toNat)
     case atStart => exact ⟨k + 1, by omega, by congr 1; omega, by rw [List.drop_of_length_le (by omega)]; rfl⟩
     case round =>
      obtain ⟨j, hj, rfl, rfl⟩ := hrel;have hV := qQ (q.drop j);obtain ⟨V, hVe⟩ : ∃ V, V = valOf (q.drop j) := ⟨_, rfl⟩;rw [← hVe] at hV ⊢;have HV := hid hVe;clear hVe;cases j with
      | zero =>
       have HV0 : Hid (V = valOf q) := hid HV.out;have hpq : ∀ (p : List UInt8), p.length = k + 1 → p.take (k + 1) = q.take (k + 1) → p = q := by
        intro p h1 h2
        rwa [ah (by omega), ah (by omega)] at h2
       have HPQ := hid hpq;clear hpq;have HP := hid (pX 9 V w (Nat.lt_of_lt_of_le hV (by decide)) hV);go_wp2_with fail;refine HP.out.mono ?_;rintro e w1 ⟨pv, rfl, hown, hb1⟩;have hpl := cB V;obtain ⟨p, hp⟩ : ∃ p, p = dw V := ⟨_, rfl⟩;rw [← hp] at hown hpl;have HPV := hid hp;obtain ⟨pa, pc, rfl⟩ := aQ hown;have HO := hid (au hown hb1);clear hp hown hb1;by_cases hpk : p.length = k + 1
       ·have t4 : ((p.length : Int) != (k : Int) + 1) = false := by simp; omega
        go_wp2_with fail
        go_loopw [11] (fun i wr => ∃ j : Nat, j ≤ k + 1 ∧ i = .int .i64 j ∧ Hid (p.take j = q.take j) ∧ Below w1.1.size w1 wr) (fun i _ => k + 1 - (intOf i).toNat)
        case atStart => exact ⟨0, by omega, rfl, hid (by simp), br⟩
        case round =>
         obtain ⟨j, hj, rfl, heq, hbr⟩ := hrel;by_cases hjk : j < k + 1
         ·obtain ⟨bl', off', e1, g'⟩ := HC.out j (by omega)
          injection e1 with e1
          injection e1 with e1 e2
          subst e1 e2;obtain ⟨bp, op, rfl, _, gp⟩ := aO.at8 (j := j) (aO.of_owns HO.out.1) (by omega);have e0 : w1.cell? ⟨bl, off + (a + j), none⟩ = some (.int .u8 (at8 l j : Nat)) := (HO.out.2.cell (aG w _ g')).trans g';have q1 : wr.cell? ⟨bl, off + (a + j), none⟩ = some (.int .u8 (at8 l j : Nat)) := (hbr.cell (aG w1 _ e0)).trans e0;have q2 : wr.cell? ⟨bp, op + j, none⟩ = some (.int .u8 (at8 p j : Nat)) := (hbr.cell (aG w1 _ gp)).trans gp;have x1 : (0 : Int) ≤ (j : Int) := (by omega);have x2 : (j : Int) < (k : Int) + 1 := (by omega);have x3 : (a : Int) + (j : Int) < (b.length : Int) := (by omega);have x4 : (0 : Int) ≤ (a : Int) + (j : Int) := (by omega);have x5 : IntKind.i64.wrap ((a : Int) + (j : Int)) = (a : Int) + (j : Int) := IntWalk.i64_in _ (by omega);have x6 : ((a : Int) + (j : Int)).toNat = a + j := (by omega);clear e0 g' gp g t;by_cases he : at8 p j = at8 l j
          ·have hb := ou he
           have HT := hid (Bn (p := p) (q := q) j (by omega) (by omega) heq.out (by rw [he, HQ.out, kL _ _ _ (by omega)]));clear he;go_wp2_with fail
           go_quiet (fail)
           go_wp2_with fail;go_roundw
           case rel => exact ⟨j + 1, by omega, by go_num, HT, below_drewN hbr _⟩
           case measure => simp [intOf]; omega
          ·have hb := qp he
           have HNE := hid (Dx (p := p) (q := q) j (by omega) (by omega) (by rw [HQ.out, kL _ _ _ (by omega)]; exact he));have HE := hid (ku (a := a) (qX (l := l) (by rw [← HM.out]; omega) (by rw [← HM.out]; omega) (by rw [← HM.out, ← HQ.out, ← HV0.out, ← HPV.out]; exact HNE.out)));clear he;go_wp2_with fail
           go_quiet (fail)
           go_wp2_with fail;go_ret3
           exact ⟨congrArg Ending.returned HE.out, HO.out.2.trans ((below_drewN hbr _).mono (HO.out.2.size))⟩
         ·have hjk2 : j = k + 1 := by omega
          subst hjk2;clear hj hjk;have HE := hid (yI (a := a) (l := l) (v := (V : Nat)) (n := (a : Int) + (k : Int) + 1) (by rw [← HM.out]; omega) (by rw [← HM.out]; omega) (by rw [← HM.out, ← HQ.out, ← HV0.out, ← HPV.out]; exact HPQ.out _ hpk heq.out) (by rw [← HM.out, ← HQ.out, ← HV0.out]) (by rw [← HM.out]));go_wp2_with fail;go_ret3
          exact ⟨congrArg Ending.returned HE.out, HO.out.2.trans (hbr.mono (HO.out.2.size))⟩
       ·have t4 : ((p.length : Int) != (k : Int) + 1) = true := by simp; omega
        have HE := hid (ku (a := a) (qX (l := l) (by rw [← HM.out]; omega) (by rw [← HM.out]; omega) (by rw [← HM.out, ← HQ.out, ← HV0.out, ← HPV.out]; intro e; exact hpk (by rw [e, hql]))));clear hpk;go_wp2_with fail;go_ret3
        exact ⟨congrArg Ending.returned HE.out, HO.out.2⟩
      | succ j =>
       obtain ⟨bl', off', e1, g'⟩ := HC.out j (by omega);injection e1 with e1
       injection e1 with e1 e2
       subst e1 e2;have h256 := zK l j;rw [show (((j + 1 : Nat) : Int) - 1) = (j : Int) from by omega];go_wp2_with fail
       go_round
       case rel =>
        refine ⟨j, by omega, rfl, ?_⟩;exact Dy _ _ _ (by rw [HV.out, qb q j (by omega), HQ.out, kL _ _ _ (by omega)])
       case measure => simp [intOf]
def sO (a : Nat) (l : List UInt8) : Int := if (bf l).isSome then (fI a l : Nat) else -1
theorem xe (S : Nat → Prop) (own : Bool) (b : List UInt8) (v : Value) (a : Nat) (w : World) (hr : aO w S own b v) (ha : a ≤ b.length) (hb : b.length ≤ 1000000) :
  Calls Tryz.prog 231 #[v, .int .i64 a] w fun e w' => e = .returned (.tuple #[.int .u64 (kK (b.drop a) : Nat), .int .i64 (sO a (b.drop a))]) ∧ Below w.1.size w w' := by
 obtain ⟨_, ad, cap, rfl, hc⟩ := hr.shape;have H := hid (nk S own b _ a w hr ha hb);clear hr;have hz := dG (b.drop a);obtain ⟨l, hl⟩ : ∃ l, l = b.drop a := ⟨_, rfl⟩;rw [← hl] at H hz ⊢;clear hl;by_cases h0 : dJ l = 0
 ·have t1 : (dJ l != 0) = false := by simp [h0]
  have HE : Hid (sO a l = (fI a l : Nat)) := hid (by unfold sO; rw [if_pos (hz.1 h0)]);clear h0 hz
  go_enter Tryz.func231, Tryz.ntmps231
  go_wp2_with fail;refine H.out.mono ?_;rintro e w1 ⟨rfl, hb1⟩;unfold pG;go_wp2_with fail
  go_ret2
  exact ⟨by rw [HE.out]; rfl, hb1⟩
 ·have t1 : (dJ l != 0) = true := by simp [h0]
  have hn : bf l = none := by
   cases hv : bf l with
   | none => rfl
   | some x => exact absurd (hz.2 (by rw [hv]; rfl)) h0
  have HE : Hid (sO a l = -1 ∧ kK l = 0) := hid ⟨by unfold sO; rw [hn]; rfl, (wm a hn).1⟩;clear h0 hz hn
  go_enter Tryz.func231, Tryz.ntmps231
  go_wp2_with fail;refine H.out.mono ?_;rintro e w1 ⟨rfl, hb1⟩;unfold pG;go_wp2_with fail
  go_ret2
  exact ⟨by rw [HE.out.1, HE.out.2]; rfl, hb1⟩
theorem uF (ad : Option Addr) (n cap : Nat) (i : Int) (hi : i < 0) (hn : n ≤ 1000000) (w : World) :
  Calls Tryz.prog 231 #[.slice ad n cap, .int .i64 i] w fun e w' => e = .returned (.tuple #[.int .u64 0, .int .i64 (-1)]) ∧ w = w' := by
 have H := hid (Au (.bool true) n cap ad i w hn (Or.inl hi))
 go_enter Tryz.func231, Tryz.ntmps231
 go_wp2_with fail;refine H.out.mono ?_;rintro e w1 ⟨rfl, rfl⟩;go_wp2_with fail
 go_ret2
 exact ⟨rfl, rfl⟩
theorem qw (c : Nat) (w : World) : Calls Tryz.prog 181 #[.int .u8 c] w fun e w' => e = .returned (.bool (decide (c < 128))) ∧ w = w' := by
 go_enter Tryz.func181, Tryz.ntmps181
 go_wp2_with fail;go_ret
 exact ⟨aR (by rw [Bool.eq_iff_iff]; simp; omega), rfl⟩
def iq (l : List UInt8) : Int := if (l.takeWhile fE).length < l.length then ((l.takeWhile fE).length : Nat) else -1
theorem uG (S : Nat → Prop) (own : Bool) (l : List UInt8) (v : Value) (w : World) (hr : aO w S own l v) :
  Calls Tryz.prog 180 #[v, .func (.func 181) #[] #[]] w fun e w' => e = .returned (.int .i64 (iq l)) ∧ w = w' := by
 obtain ⟨_, ad, cap, rfl, hc⟩ := hr.shape;have h63 := hr.2.1;have HR := hid hr;clear hr
 go_enter Tryz.func180, Tryz.ntmps180
 go_wp2_with fail
 go_loop [8] (fun i => ∃ j : Nat, j ≤ l.length ∧ i = .int .i64 j ∧ j ≤ (l.takeWhile fE).length) (fun i => l.length - (intOf i).toNat)
 case atStart => exact ⟨0, by omega, rfl, by omega⟩
 case round =>
  obtain ⟨j, hj, rfl, hjm⟩ := hrel;by_cases hlt : j < l.length
  ·obtain ⟨bl, off, rfl, _, g⟩ := aO.at8 HR.out hlt
   by_cases hjl : j < (l.takeWhile fE).length
   ·have hm : 128 ≤ at8 l j := by rw [dB l j hlt]; simpa [fE] using jR l j hjl hlt
    have hc : decide (at8 l j < 128) = false := by simp; omega
    go_wp2_with (go_at_call 181; refine (qw _ _).mono ?_; rintro e w' ⟨rfl, rfl⟩)
    go_round
    case rel => exact ⟨j + 1, by omega, by go_num, by omega⟩
    case measure => simp [intOf]; omega
   ·have hje : j = (l.takeWhile fE).length := by omega
    have hm : at8 l j < 128 := by
     have h1 := iV (p := fE) l (by omega);have h2 : fE (l[j]'hlt) = false := (by simpa [← hje] using h1);rw [dB l j hlt]; simpa [fE] using h2
    have hc : decide (at8 l j < 128) = true := (by simp; omega);have HE : Hid (iq l = (j : Int)) := hid (by unfold iq; rw [← hje, if_pos hlt]);clear hje hjl
    go_wp2_with (go_at_call 181; refine (qw _ _).mono ?_; rintro e w' ⟨rfl, rfl⟩)
    go_ret
    exact ⟨vX HE.out.symm, rfl⟩
  ·have HE : Hid (iq l = -1) := hid (by unfold iq; rw [if_neg (by omega)])
   go_wp2_with fail;go_ret
   exact ⟨vX HE.out.symm, rfl⟩
theorem lF (S S' : Nat → Prop) (own own' : Bool) (l l' : List UInt8) (v v' : Value) (w : World) (hr : aO w S own l v) (hr' : aO w S' own' l' v') :
  Calls Tryz.prog 182 #[v, v'] w fun e w' => e = .returned (.bool (decide (l = l'))) ∧ ∃ n, w' = w.drewN n := by
 obtain ⟨hl, ad, cap, rfl, hc⟩ := hr.shape;obtain ⟨hl', ad', cap', rfl, hc'⟩ := hr'.shape;by_cases hlen : l.length = l'.length
 ·have t1 : ((l.length : Int) != (l'.length : Int)) = false := by simp; omega
  have h1 : l.length ≤ l'.length := by omega
  have h2 : l'.length ≤ l.length := by omega
  have HL := hid hlen;clear hlen
  go_enter Tryz.func182, Tryz.ntmps182
  go_wp2_with fail
  go_loopw [13] (fun i wr => ∃ j : Nat, j ≤ l.length ∧ i = .int .i64 j ∧ Hid (l.take j = l'.take j) ∧ ∃ mq, wr = w.drewN mq) (fun i _ => l.length - (intOf i).toNat)
  case atStart => exact ⟨0, by omega, rfl, hid (by simp), 0, rfl⟩
  case round =>
   obtain ⟨j, hj, rfl, heq, mq, rfl⟩ := hrel;by_cases hlt : j < l.length
   ·obtain ⟨bl, off, rfl, _, g⟩ := aO.at8 hr hlt
    obtain ⟨bl', off', rfl, _, g'⟩ := aO.at8 (j := j) hr' (by omega);have x1 : (0 : Int) ≤ (j : Int) := (by omega);have x2 : (j : Int) < (l.length : Int) := (by omega);have x3 : (j : Int) < (l'.length : Int) := (by omega);by_cases he : at8 l j = at8 l' j
    ·have HT := hid (Bn j hlt (by omega) heq.out he)
     have hb := ou he;clear he;go_wp2_with fail
     go_quiet (fail)
     go_wp2_with fail;go_roundw
     case rel => exact ⟨j + 1, by omega, by go_num, HT, mq + nq, by simp⟩
     case measure => simp [intOf]; omega
    ·have hb := qp he
     have HF : Hid (l ≠ l') := hid (Dx j hlt (by omega) he);clear he;go_wp2_with fail
     go_quiet (fail)
     go_wp2_with fail;go_ret
     exact ⟨aR (by simpa using HF.out), mq + nq, by simp⟩
   ·have hj2 : j = l.length := by omega
    subst hj2;go_wp2_with fail;go_ret
    exact ⟨aR (by have h := heq.out; rw [List.take_length, HL.out, List.take_length] at h; simp [h]), mq, rfl⟩
 ·have t1 : ((l.length : Int) != (l'.length : Int)) = true := by simp; omega
  have HF : Hid (l ≠ l') := hid (fun e => hlen (by rw [e]));clear hlen
  go_enter Tryz.func182, Tryz.ntmps182
  go_wp2_with fail;go_ret
  exact ⟨aR (by simpa using HF.out), 0, rfl⟩
theorem FI : ∀ x : Fin 256, bits BinOp.and IntKind.u8 (x.val : Int) 127 = ((x.val % 128 : Nat) : Int) := by decide +kernel
theorem GJ (c : Nat) (h : c < 256) : bits BinOp.and IntKind.u8 (c : Int) 127 = ((c % 128 : Nat) : Int) := FI ⟨c, h⟩
theorem Ej (V c n : Nat) (hV : V < 18446744073709551616) (hc : c < 256) (h : n = (V * 128 + c % 128) % 18446744073709551616) :
  Value.int .u64 (bits BinOp.or IntKind.u64 (IntKind.u64.wrap ((V : Int) * 128)) (IntKind.u64.wrap (bits BinOp.and IntKind.u8 (c : Int) 127))) = .int .u64 (n : Int) := by
 have e1 : IntKind.u64.wrap ((V : Int) * 128) = ((128 * (V % 144115188075855872) : Nat) : Int) := by rw [IntKind.wrap_u64]; omega
 have e2 : IntKind.u64.wrap ((c % 128 : Nat) : Int) = ((c % 128 : Nat) : Int) := by rw [IntKind.wrap_u64]; omega
 have e3 : (128 * (V % 144115188075855872)) ||| (c % 128) = 128 * (V % 144115188075855872) + c % 128 := (Nat.two_pow_add_eq_or_of_lt (i := 7) (by omega) _).symm
 rw [GJ c hc, e1, e2, bits_or_u64_nat _ _ (by omega) (by omega), e3]
 congr 1
 omega
theorem sP (S : Nat → Prop) (own : Bool) (b : List UInt8) (v : Value) (a : Nat) (w : World) (hr : aO w S own b v) (ha : a ≤ b.length) (hb : b.length ≤ 1000000) :
  Calls Tryz.prog 117 #[v, .int .i64 a] w fun e w' => e = .returned (pG a (b.drop a)) ∧ Below w.1.size w w' := by
 obtain ⟨_, ad, cap, rfl, hc⟩ := hr.shape;have HR := hid hr;clear hr
 go_enter Tryz.func117, Tryz.ntmps117
 go_upto_region 3 with (fail)
 go_cut [0] from 9 to 29 (fun bv wx => wx = w ∧ aO w S own ((b.drop a).take 10) bv)
 case first =>
  go_wp2_with fail
  all_goals go_meet
  ·exact ⟨rfl, by rw [show b.length - a = 0 from by omega, List.drop_of_length_le (by omega)]; exact aO.none⟩
  ·have h := aO.cut HR.out a 10 (cap - a) (by omega) (by omega)
   rw [show ((a : Int) + 10).toNat - a = 10 from by omega];exact ⟨rfl, h⟩
  ·have h := aO.cut HR.out a (b.length - a) (cap - a) (by omega) (by omega)
   rw [show ((b.drop a).take (b.length - a)) = (b.drop a).take 10 from by rw [ah (by simp), ah (by simp; omega)]] at h;exact ⟨rfl, h⟩
  ·have h := aO.cut HR.out a (b.length - a) (cap - a) (by omega) (by omega)
   rw [show ((b.drop a).take (b.length - a)) = (b.drop a).take 10 from by rw [ah (by simp), ah (by simp; omega)]] at h;exact ⟨rfl, h⟩
 case rest =>
  obtain ⟨hwc, hb10⟩ := hcut;subst hwc;obtain ⟨_, ad1, cap1, rfl, hc1⟩ := hb10.shape;obtain ⟨l, hl⟩ : ∃ l, l = b.drop a := ⟨_, rfl⟩;have hll : l.length = b.length - a := by rw [hl]; simp
  have HLl := hid hl;rw [← hl] at hb10 hc1 ⊢;obtain ⟨q, hq⟩ : ∃ q, q = l.take 10 := ⟨_, rfl⟩;have hql : q.length ≤ 10 ∧ q.length ≤ l.length ∧ (q.length < 10 → q.length = l.length) := by rw [hq]; simp; omega
  rw [← hq] at hb10 hc1 ⊢;obtain ⟨m, hm⟩ : ∃ m, m = bz l := ⟨_, rfl⟩;have hml := kJ l;rw [← hm] at hml;have hmq : m ≤ q.length := by omega
  have HF : Hid (iq q = if m < q.length then (m : Int) else -1) := hid (by rw [hq, hm]; rfl);have HI := hid (uG S own q _ wc hb10);have HM := hid hm;have HQ := hid hq;have HB := hid hb10;clear hm hq hb10 hl;by_cases hlt : m < q.length
  ·have HF1 : Hid (iq q = (m : Int)) := hid (by rw [HF.out, if_pos hlt])
   go_wp2_with fail;refine HI.out.mono ?_;rintro e w1 ⟨rfl, rfl⟩;rw [HF1.out];go_wp2_with fail;obtain ⟨qq, hqq⟩ : ∃ qq, qq = l.take (m + 1) := ⟨_, rfl⟩;have hqql : qq.length = m + 1 := (by rw [hqq]; simp; omega);have HQQ := hid hqq;clear hqq
   go_loop [4, 8] (fun v i => ∃ j : Nat, j ≤ m + 1 ∧ i = .int .i64 ((j : Int) - 1) ∧ v = .int .u64 (valOf (qq.drop j) : Nat)) (fun v i => (intOf i + 1).toNat)
   case atStart => exact ⟨m + 1, by omega, by congr 1; omega, by rw [List.drop_of_length_le (by omega)]; rfl⟩
   case round =>
    obtain ⟨j, hj, rfl, rfl⟩ := hrel;have hV := qQ (qq.drop j);obtain ⟨V, hVe⟩ : ∃ V, V = valOf (qq.drop j) := ⟨_, rfl⟩;rw [← hVe] at hV ⊢;have HV := hid hVe;clear hVe;cases j with
    | zero =>
     have HV0 : Hid (V = valOf qq) := hid HV.out;have HH : Hid (aO wc S own qq (.slice ad1 (m + 1) cap1)) := hid (by
      have h := aO.head HB.out (m + 1) cap1 (by omega) (by omega);rw [HQ.out, List.take_take, Nat.min_eq_left (by omega), ← HQQ.out] at h;exact h)
     have hpl := cB V;have x1 : IntKind.i64.wrap ((m : Int) + 1) = (m : Int) + 1 := IntWalk.i64_in _ (by omega);have x2 : (0 : Int) ≤ (m : Int) + 1 := (by omega);have x3 : (m : Int) + 1 ≤ (cap1 : Int) := (by omega);have x4 : ((m : Int) + 1).toNat = m + 1 := (by omega);by_cases he : dw V = qq
     ·have hd : decide (dw V = qq) = true := by simpa using he
      have HE := hid (yI (a := a) (l := l) (v := (V : Nat)) (n := (a : Int) + (m : Int) + 1) (by rw [← HM.out]; omega) (by rw [← HM.out]; omega) (by rw [← HM.out, ← HQQ.out, ← HV0.out]; exact he) (by rw [← HM.out, ← HQQ.out, ← HV0.out]) (by rw [← HM.out]));clear he;go_wp2_with fail
      go_region_with (first
       | (go_at_call 124; go_fit (mP V _ hV); rintro e w1 ⟨v1, rfl, hown1, hb1⟩; obtain ⟨sa1, sc1, rfl⟩ := aQ hown1)
       | (go_at_call 182; go_fit (lF _ _ _ _ (dw V) qq _ _ _ (aO.of_owns hown1) (HH.out.below (br.drew.trans hb1) nl)); rintro e w2 ⟨rfl, nq, rfl⟩))
      go_wp2_with fail;go_ret3
      exact ⟨by rw [← HLl.out, ← HE.out]; rfl, below_drewN (br.drew.trans hb1) _⟩
     ·have hd : decide (dw V = qq) = false := by simpa using he
      have HE := hid (ku (a := a) (qX (l := l) (by rw [← HM.out]; omega) (by rw [← HM.out]; omega) (by rw [← HM.out, ← HQQ.out, ← HV0.out]; exact he)));clear he;go_wp2_with fail
      go_region_with (first
       | (go_at_call 124; go_fit (mP V _ hV); rintro e w1 ⟨v1, rfl, hown1, hb1⟩; obtain ⟨sa1, sc1, rfl⟩ := aQ hown1)
       | (go_at_call 182; go_fit (lF _ _ _ _ (dw V) qq _ _ _ (aO.of_owns hown1) (HH.out.below (br.drew.trans hb1) nl)); rintro e w2 ⟨rfl, nq, rfl⟩))
      go_wp2_with fail;go_ret3
      exact ⟨by rw [← HLl.out, ← HE.out]; rfl, below_drewN (br.drew.trans hb1) _⟩
    | succ j =>
     obtain ⟨bl, off, rfl, _, g⟩ := aO.at8 (j := j) HB.out (by omega);have h256 := zK q j;rw [show (((j + 1 : Nat) : Int) - 1) = (j : Int) from by omega];go_wp2_with fail
     go_round
     case rel =>
      refine ⟨j, by omega, rfl, ?_⟩;exact Ej _ _ _ hV h256 (by rw [HV.out, qb qq j (by omega), HQQ.out, kL _ _ _ (by omega), HQ.out, kL _ _ _ (by omega)])
     case measure => simp [intOf]
  ·have HF1 : Hid (iq q = -1) := hid (by rw [HF.out, if_neg hlt])
   by_cases h10 : m = 10
   ·have HE := hid (ku (a := a) (xK (HM.out ▸ h10)))
    have t3 : ((q.length : Int) == 10) = true := (by simp; omega);clear h10;go_wp2_with fail;refine HI.out.mono ?_;rintro e w1 ⟨rfl, rfl⟩;rw [HF1.out];go_wp2_with fail;go_ret3
    exact ⟨by rw [← HLl.out, ← HE.out]; rfl, br⟩
   ·have HE := hid (ku (a := a) (qW (l := l) (by rw [← HM.out]; omega) (by rw [← HM.out]; omega)))
    have t3 : ((q.length : Int) == 10) = false := (by simp; omega);clear h10;go_wp2_with fail;refine HI.out.mono ?_;rintro e w1 ⟨rfl, rfl⟩;rw [HF1.out];go_wp2_with fail;go_ret3
    exact ⟨by rw [← HLl.out, ← HE.out]; rfl, br⟩
end Go.Proofs.YtlpgokcapdjgjaaGreatDoor
