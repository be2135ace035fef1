/- Rows of trees, where a block besides has changed. -/
import Derived.Test.YtlpgokcapdjgjaaGreatDoorY19
import Derived.Test.YtlpgokcapdjgjaaGreatDoorChecked
import Derived.BigQuiet
import Derived.Deep.QuietTactic
import Derived.WalkSpells
import Derived.WalkSmall
import Derived.Lib.ParseIntB
import Derived.Lib.ItoaNum
import Derived.Lib.SlTrimSet
import Derived.Deep.RegionLaw
import Derived.Laws.Rows
set_option maxHeartbeats 1000000
set_option maxRecDepth 100000
namespace Go.Proofs.YtlpgokcapdjgjaaGreatDoor
open Go.RowKit Go
set_option linter.unusedVariables false
set_option linter.unusedSimpArgs false
def kC : Nat → Nat → List UInt8
 | 0, n => [n.toUInt8]
 | f + 1, n => if n < 128 then [n.toUInt8] else (n % 128 + 128).toUInt8 :: kC f (n / 128)
def dw (n : Nat) : List UInt8 := kC 9 n
theorem BU (f : Nat) : ∀ n, n < 128 ^ (f + 1) → kC (f + 1) n = kC f n := by
 induction f with
 | zero => intro n h; simp at h; simp [kC, h]
 | succ f ih =>
  intro n h;rw [kC];by_cases hn : n < 128
  ·rw [if_pos hn]; simp [kC, hn]
  ·rw [if_neg hn, ih _ (by rw [Nat.pow_succ] at h; omega)]; simp [kC, hn]
theorem mO (n : Nat) (h : n < 128) : dw n = [n.toUInt8] := by simp [dw, kC, h]
theorem xG (n : Nat) (h : ¬ n < 128) (h64 : n < 18446744073709551616) : dw n = (n % 128 + 128).toUInt8 :: dw (n / 128) := by
 have e : kC 8 (n / 128) = kC 9 (n / 128) := (BU 8 _ (by omega)).symm;unfold dw;rw [show kC 9 n = (n % 128 + 128).toUInt8 :: kC 8 (n / 128) from by simp [kC, h], e]
theorem xH (f n : Nat) : (kC f n).length ≤ f + 1 ∧ 0 < (kC f n).length := by
 induction f generalizing n with
 | zero => simp [kC]
 | succ f ih =>
  rw [kC]; split
  ·simp
  ·have := ih (n / 128); simp; omega
theorem cB (n : Nat) : (dw n).length ≤ 10 ∧ 0 < (dw n).length := xH 9 n
theorem infoByte : (Tryz.prog.info? 5).map (fun i => (i.zero, i.size, i.bytes)) = some (some (.int .u8 0), 1, 1) := by kernel_rfl
theorem ownsRow_lit (w : World) (base : Nat) (cs : Array Value) (T : TypeId) (hb : base ≤ w.1.size) (hm : cs.size ≤ 1000) : (w.alloc (.cells cs T)).ownsRow base T 1 (.slice (some ⟨w.1.size, 0, none⟩) cs.size cs.size) cs.size cs.toList :=
 ⟨by simp, Or.inr ⟨w.1.size, cs.size, cs, rfl, hb, heap_alloc_new w _, Nat.le_refl _, by unfold maxLen; omega, by omega, by simp [ah]⟩⟩
theorem pX (d : Nat) : ∀ (n : Nat) (w : World), n < 128 ^ (d + 1) → n < 18446744073709551616 →
  Calls Tryz.prog 78 #[.int .u64 n] w (jN 5 w (dw n)) := by
 obtain ⟨i0, hi0, hz0, hz1, hz2⟩ := info_parts infoByte
 induction d with
 | zero =>
  intro n w hn _;have hn' : n < 128 := by simpa using hn
  clear hn
  go_enter Tryz.func78, Tryz.ntmps78
  go_wp2_with fail;go_ret
  refine ⟨_, rfl, ?_, br.alloc nl _⟩;rw [mO n hn'];simpa [bytes, fU (show n < 256 by omega)] using ownsRow_lit w w.1.size #[.int .u8 n] 5 nl (by simp)
 | succ d ih =>
  intro n w hn h64;have hdiv : n / 128 < 128 ^ (d + 1) := by rw [Nat.pow_succ] at hn; omega
  have h := ih (n / 128) (w.alloc (.cells #[.int .u8 ((n : Int) % 128 + 128)] 5)) hdiv (by omega);rw [show ((n / 128 : Nat) : Int) = (n : Int) / 128 from by simp] at h;have IH := hid h;clear h;clear ih hdiv hn;have hpl := cB (n / 128);by_cases hn' : n < 128
  ·go_enter Tryz.func78, Tryz.ntmps78
   go_wp2_with fail;go_ret
   refine ⟨_, rfl, ?_, br.alloc nl _⟩;rw [mO n hn'];simpa [bytes, fU (show n < 256 by omega)] using ownsRow_lit w w.1.size #[.int .u8 n] 5 nl (by simp)
  ·have hpb := hid (xG n hn' h64)
   go_enter Tryz.func78, Tryz.ntmps78
   go_wp2_with fail;refine IH.out.mono ?_;rintro e w1 ⟨v1, rfl, hown1, hb1⟩;have hown0 : w1.ownsRow w.1.size 5 1 (.slice (some ⟨w.1.size, 0, none⟩) 1 1) 1 [.int .u8 ((n : Int) % 128 + 128)] :=
    ownsRow_below (ownsRow_lit w w.1.size #[.int .u8 ((n : Int) % 128 + 128)] 5 nl (by simp)) hb1 nl
   have HS := hid (Sl.of_owns hown1 (by omega));have H0 := hid hown0;clear hown1 hown0;have hsz := hb1.size;simp at hsz
   go_wp2_with (at_builtin; refine bg _ rfl (.tmp 14) (.tmp 17) _ rfl w.1.size 5 i0 _ 1 1 Tryz.underlying32 hi0 hz0 hz1 hz2 rfl (by omega) _ 1 [.int .u8 ((n : Int) % 128 + 128)] rfl H0.out _ _ _ (bytes (dw (n / 128))) _ rfl HS.out (eF _) (by unfold maxLen; omega) (by omega) (by omega) ?_; intro v' w2 hown2 hgrow hat)
   go_ret
   refine ⟨v', rfl, ?_, ((br.alloc nl _).trans (hb1.mono (by simp))).grown hgrow (by omega) (fun k hk => by cases hk; exact Nat.le_refl _)⟩;rw [hpb.out];have hu : ((n % 128 + 128).toUInt8.toNat : Int) = (n : Int) % 128 + 128 := (by rw [fU (by omega)]; simp);have h := hown2;rw [show [Value.int .u8 ((n : Int) % 128 + 128)] ++ bytes (dw (n / 128)) = bytes ((n % 128 + 128).toUInt8 :: dw (n / 128)) from by rw [bytes_cons, hu]; rfl] at h;rw [aJ, Nat.add_comm];exact h
theorem Gr : ∀ x : Fin 256, bits BinOp.or IntKind.u8 (x.val : Int) 128 = ((x.val % 128 + 128 : Nat) : Int) := by decide +kernel
theorem GU (k : Nat) : bits BinOp.or IntKind.u8 ((k : Int) % 256) 128 = ((k % 128 + 128).toUInt8.toNat : Int) := by
 have h := Gr ⟨k % 256, Nat.mod_lt _ (by omega)⟩;simp only at h;rw [fU (by omega), show ((k : Int) % 256) = ((k % 256 : Nat) : Int) from by simp, h]
 congr 1; omega
theorem qP (n : Nat) (h : 128 ≤ n) (h64 : n < 18446744073709551616) : dw n = (n % 128 + 128).toUInt8 :: dw (n / 128) := xG n (by omega) h64
theorem mP (n : Nat) (w : World) (h64 : n < 18446744073709551616) :
  Calls Tryz.prog 124 #[.int .u64 n] w (jN 5 w (dw n)) := by
 obtain ⟨i0, hi0, hz0, hz1, hz2⟩ := info_parts infoByte
 go_enter Tryz.func124, Tryz.ntmps124
 go_wp2_with fail
 go_loopw [0, 2] (fun m sv wr => ∃ (k : Nat) (pre : List UInt8), m = .int .u64 k ∧ k < 18446744073709551616 ∧ Hid (pre ++ dw k = dw n) ∧ wr.ownsRow w.1.size 5 1 sv pre.length (bytes pre) ∧ Below w.1.size w wr) (fun m _ _ => (intOf m).toNat)
 case atStart => exact ⟨n, [], rfl, h64, hid (by simp), World.ownsRow_nil _ _ _ _, br⟩
 case round =>
  obtain ⟨k, pre, rfl, hk, heq, hown, hbel⟩ := hrel;have hl1 : pre.length ≤ 10 := by have h := congrArg List.length heq.out; have := cB n; simp at h; omega
  have hsz := hbel.size;have hob := hown.lt;have HOWN := hid hown;clear hown;by_cases hge : 128 ≤ k
  ·have hp := hid (qP k hge hk)
   have HBB := hid (GU k)
   go_wp2_with (at_builtin; go_loud (refine bg _ rfl (.tmp 7) (.tmp 11) _ rfl w.1.size 5 i0 _ 1 1 Tryz.underlying32 hi0 hz0 hz1 hz2 rfl (by omega) _ pre.length (bytes pre) rfl (HOWN.out.alloc _) _ _ 1 [.int .u8 (bits BinOp.or IntKind.u8 ((k : Int) % 256) 128)] _ rfl (Sl.of_owns (ownsRow_lit wr 0 #[.int .u8 (bits BinOp.or IntKind.u8 ((k : Int) % 256) 128)] 5 (Nat.zero_le _) (by simp)) (by omega)) (by simp [Value.oneCell']) (by unfold maxLen; omega) (by omega) (by simp; omega) ?_); intro v' w2 hown2 hgrow hat)
   have HO2 := hid (au hown2 (au hgrow hat));clear hown2 hgrow hat;go_wp2_with fail;go_roundw
   case rel =>
    obtain ⟨hown2, hgrow, hat⟩ := HO2.out;refine ⟨k / 128, pre ++ [(k % 128 + 128).toUInt8], ?_, by omega, hid ?_, ?_, ?_⟩
    ·go_num
    ·rw [List.append_assoc, ← heq.out, hp.out]; rfl
    ·rw [HBB.out] at hown2
     simpa [bytes] using hown2
    ·exact (hbel.alloc (by omega) _).grown hgrow (by simp; omega) (fun k hk => (hob k hk).1)
   case measure => simp [intOf]; omega
  ·have hp := hid (mO k (by omega))
   go_wp2_with (at_builtin; go_loud (refine bg _ rfl (.tmp 13) (.tmp 16) _ rfl w.1.size 5 i0 _ 1 1 Tryz.underlying32 hi0 hz0 hz1 hz2 rfl (by omega) _ pre.length (bytes pre) rfl (HOWN.out.alloc _) _ _ 1 [.int .u8 (k : Int)] _ rfl (Sl.of_owns (ownsRow_lit wr 0 #[.int .u8 (k : Int)] 5 (Nat.zero_le _) (by simp)) (by omega)) (by simp [Value.oneCell']) (by unfold maxLen; omega) (by omega) (by simp; omega) ?_); intro v' w2 hown2 hgrow hat)
   go_ret
   refine ⟨v', rfl, ?_, (hbel.alloc (by omega) _).grown hgrow (by simp; omega) (fun k hk => (hob k hk).1)⟩;rw [← heq.out, hp.out];simpa [bytes, fU (show k < 256 by omega)] using hown2
theorem nG {α : Type} (l l' : List α) (k : Nat) (h : k < l.length) (h' : k < l'.length) (h0 : l.take k = l'.take k) (h1 : l[k] = l'[k]) : l.take (k + 1) = l'.take (k + 1) := by
 rw [List.take_succ_eq_append_getElem h, List.take_succ_eq_append_getElem h', h0, h1]
theorem EZ {a b : UInt8} (h : a ≠ b) : ((a.toNat : Int) != (b.toNat : Int)) = true := by
 simp; intro h2; exact h (UInt8.toNat_inj.1 (by omega))
theorem Fa {a b : UInt8} (h : a = b) : ((a.toNat : Int) != (b.toNat : Int)) = false := by subst h; simp
theorem uj (S S' : Nat → Prop) (own own' : Bool) (l l' : List UInt8) (v v' : Value) (w : World) (hr : aO w S own l v) (hr' : aO w S' own' l' v') :
  Calls Tryz.prog 17 #[v, v'] w fun e w' => e = .returned (.bool (decide (l = l'))) ∧ Below w.1.size w w' := by
 obtain ⟨hl, ad, cap, rfl, hc⟩ := hr.shape;obtain ⟨hl', ad', cap', rfl, hc'⟩ := hr'.shape;by_cases hlen : l.length = l'.length
 ·have t1 : ((l.length : Int) != (l'.length : Int)) = false := by simp; omega
  have h1 : l.length ≤ l'.length := by omega
  have h2 : l'.length ≤ l.length := by omega
  have HL := hid hlen;clear hlen
  go_enter Tryz.func17, Tryz.ntmps17
  go_wp2_with fail
  go_loopw [5] (fun i wr => ∃ j : Nat, j ≤ l.length ∧ i = .int .i64 j ∧ Hid (l.take j = l'.take j) ∧ Below w.1.size w wr) (fun i _ => l.length - (intOf i).toNat)
  case atStart => exact ⟨0, by omega, rfl, hid (by simp), br⟩
  case round =>
   obtain ⟨j, hj, rfl, heq, hbel⟩ := hrel;by_cases hlt : j < l.length
   ·obtain ⟨bl, off, rfl, _, hcell⟩ := aO.cell hr (by omega)
    obtain ⟨bl', off', rfl, _, hcell'⟩ := aO.cell hr' (by omega);have g := (hcell j hlt).1;have g' := (hcell' j (by omega)).1;have q : wr.cell? ⟨bl, off + j, none⟩ = some (.int .u8 l[j].toNat) := (hbel.cell (aG w _ g)).trans g;have q' : wr.cell? ⟨bl', off' + j, none⟩ = some (.int .u8 l'[j].toNat) := (hbel.cell (aG w _ g')).trans g';have x1 : (0 : Int) ≤ (j : Int) := (by omega);have x2 : (j : Int) < (l.length : Int) := (by omega);have x3 : (j : Int) < (l'.length : Int) := (by omega);clear hcell hcell' g g';by_cases he : l[j] = l'[j]
    ·have HT := hid (nG l l' j hlt (by omega) heq.out he)
     have hb := Fa he;clear he;go_wp2_with fail
     go_quiet (fail)
     go_wp2_with fail;go_roundw
     case rel => exact ⟨j + 1, by omega, by go_num, HT, below_drewN hbel _⟩
     case measure => simp [intOf]; omega
    ·have hb := EZ he
     have HF : Hid (l ≠ l') := hid (fun e => he (by subst e; rfl));clear he;go_wp2_with fail
     go_quiet (fail)
     go_wp2_with fail;go_ret
     exact ⟨aR (by simpa using HF.out), below_drewN hbel _⟩
   ·have hj2 : j = l.length := by omega
    subst hj2;go_wp2_with fail;go_ret
    exact ⟨aR (by have h := heq.out; rw [List.take_length, HL.out, List.take_length] at h; simp [h]), hbel⟩
 ·have t1 : ((l.length : Int) != (l'.length : Int)) = true := by simp; omega
  have HF : Hid (l ≠ l') := hid (fun e => hlen (by rw [e]));clear hlen
  go_enter Tryz.func17, Tryz.ntmps17
  go_wp2_with fail;go_ret
  exact ⟨aR (by simpa using HF.out), br⟩
theorem vY (S : Nat → Prop) (own : Bool) (l : List UInt8) (v : Value) (w : World) (hr : aO w S own l v) (h47 : l.length ≤ 140737488355328) :
  Calls Tryz.prog 11 #[v] w (jN 5 w l) := by
 obtain ⟨i0, hi0, hz0, hz1, hz2⟩ := info_parts infoByte;have hl := hr.2.1;have HR := hid hr;obtain ⟨_, ad, cap, rfl, hc⟩ := hr.shape;clear hr
 go_enter Tryz.func11, Tryz.ntmps11
 go_wp2_with (at_builtin; refine bg _ rfl (.tmp 4) (.tmp 5) _ rfl w.1.size 5 i0 _ 1 1 Tryz.underlying32 hi0 hz0 hz1 hz2 rfl (by omega) _ 0 [] rfl (World.ownsRow_nil _ _ _ _) _ _ l.length (bytes l) _ rfl HR.out (eF _) (by unfold maxLen; omega) (by omega) (by omega) ?_; intro v' w2 hown2 hgrow hat)
 go_ret
 exact ⟨v', rfl, by simpa using hown2, br.grown hgrow (by omega) (fun k hk => by cases hk)⟩
theorem dM (S : Nat → Prop) (own : Bool) (l : List UInt8) (v : Value) (w : World) (hr : aO w S own l v) (h47 : l.length ≤ 140737488355328) :
  Calls Tryz.prog 65 #[v] w (jN 5 w l) := by
 obtain ⟨i0, hi0, hz0, hz1, hz2⟩ := info_parts infoByte;have hl := hr.2.1;have HR := hid hr;obtain ⟨_, ad, cap, rfl, hc⟩ := hr.shape;clear hr;have hn := @Lib.run_eql_slice_nil Tryz.prog;cases ad with
 | none =>
  have hl0 : l = [] := by
   rcases Nat.eq_zero_or_pos l.length with h | h
   ·exact List.eq_nil_of_length_eq_zero h
   ·obtain ⟨_, _, h1, _⟩ := Sl.cells HR.out h; cases h1
  subst hl0
  go_enter Tryz.func65, Tryz.ntmps65
  go_wp2_with fail;go_ret
  exact ⟨_, rfl, World.ownsRow_nil _ _ _ _, br⟩
 | some a =>
  have HS := hid (Sl.below HR.out (by omega) (br.alloc nl (.cells #[] 5)) nl);have H0 := hid (ownsRow_lit w w.1.size #[] 5 nl (by simp))
  go_enter Tryz.func65, Tryz.ntmps65
  go_wp2_with (at_builtin; refine bg _ rfl (.tmp 5) (.tmp 6) _ rfl w.1.size 5 i0 _ 1 1 Tryz.underlying32 hi0 hz0 hz1 hz2 rfl (by omega) _ 0 [] rfl H0.out _ _ l.length (bytes l) _ rfl HS.out (eF _) (by unfold maxLen; omega) (by omega) (by simp) ?_; intro v' w2 hown2 hgrow hat)
  go_ret
  exact ⟨v', rfl, by simpa using hown2, (br.alloc nl _).grown hgrow (by simp) (fun k hk => by cases hk; exact Nat.le_refl _)⟩
mutual
def Ex.depth : Ex → Nat
 | .mk _ _ _ ps => Ex.depths ps + 1
def Ex.depths : List Ex → Nat
 | [] => 0
 | e :: es => max e.depth (Ex.depths es)
end
mutual
def Ex.size : Ex → Nat
 | .mk _ _ _ ps => Ex.sizes ps + 1
def Ex.sizes : List Ex → Nat
 | [] => 0
 | e :: es => e.size + Ex.sizes es
end
theorem fH {α : Type} (l : List α) (k : Nat) (h : k < l.length) : l.take (k + 1) = l.take k ++ [l[k]] := List.take_succ_eq_append_getElem h
theorem Ex.depths_append (a b : List Ex) : Ex.depths (a ++ b) = max (Ex.depths a) (Ex.depths b) := by
 induction a with
 | nil => simp [Ex.depths]
 | cons e es ih => simp only [List.cons_append, Ex.depths, ih]; omega
theorem Ex.sizes_append (a b : List Ex) : Ex.sizes (a ++ b) = Ex.sizes a + Ex.sizes b := by
 induction a with
 | nil => simp [Ex.sizes]
 | cons e es ih => simp only [List.cons_append, Ex.sizes, ih]; omega
theorem Ex.depths_take (ps : List Ex) (k : Nat) (h : k < ps.length) : Ex.depths (ps.take (k + 1)) = max (Ex.depths (ps.take k)) ps[k].depth := by
 rw [fH ps k h, Ex.depths_append]; simp [Ex.depths]
theorem Ex.sizes_take (ps : List Ex) (k : Nat) (h : k < ps.length) : Ex.sizes (ps.take (k + 1)) = Ex.sizes (ps.take k) + ps[k].size := by
 rw [fH ps k h, Ex.sizes_append]; simp [Ex.sizes]
theorem Ex.depths_ge (ps : List Ex) (k : Nat) (h : k < ps.length) : ps[k].depth ≤ Ex.depths ps := by
 have := Ex.depths_append (ps.take (k + 1)) (ps.drop (k + 1));rw [List.take_append_drop, Ex.depths_take ps k h] at this; omega
theorem Ex.sizes_split (ps : List Ex) (k : Nat) : Ex.sizes ps = Ex.sizes (ps.take k) + Ex.sizes (ps.drop k) := by
 have := Ex.sizes_append (ps.take k) (ps.drop k); rwa [List.take_append_drop] at this
theorem Ex.sizes_ge (ps : List Ex) (k : Nat) (h : k < ps.length) : Ex.sizes (ps.take k) + ps[k].size ≤ Ex.sizes ps := by
 have := Ex.sizes_split ps (k + 1); rw [Ex.sizes_take ps k h] at this; omega
theorem Ex.depths_take_le (ps : List Ex) (k : Nat) : Ex.depths (ps.take k) ≤ Ex.depths ps := by
 have := Ex.depths_append (ps.take k) (ps.drop k); rw [List.take_append_drop] at this; omega
theorem Ex.size_pos (e : Ex) : 0 < e.size := by cases e; simp [Ex.size]
theorem Ex.length_le_sizes (ps : List Ex) : ps.length ≤ Ex.sizes ps := by
 induction ps with
 | nil => simp
 | cons e es ih => have := Ex.size_pos e; simp only [Ex.sizes, aJ]; omega
mutual
theorem Ex.depth_le_size : ∀ e : Ex, e.depth ≤ e.size
 | .mk k a b ps => by have := Ex.depths_le_sizes ps; simp only [Ex.depth, Ex.size]; omega
theorem Ex.depths_le_sizes : ∀ es : List Ex, Ex.depths es ≤ Ex.sizes es
 | [] => by simp [Ex.depths, Ex.sizes]
 | e :: es => by have := Ex.depth_le_size e; have := Ex.depths_le_sizes es; simp only [Ex.depths, Ex.sizes]; omega
end
def iR (k : Int) (a b n : Nat) : Bool :=
 if k = 1 then a == 0 && b == 0 && n == 0
 else if k = 2 ∨ k = 3 then b == 0 && n == 0
 else if k = 4 then decide (b < a) && n == 0
 else if k = 5 then a == 0 && b == 0 && n == 1
 else if k = 6 ∨ k = 7 then a == 0 && b == 0
 else false
def jO (k : Int) (a b n : Nat) : Bool := iR k a b n && decide (n ≤ 32)
mutual
def Ex.okR : Ex → Bool
 | .mk k a b ps => Ex.okRs ps && iR k a b ps.length
def Ex.okRs : List Ex → Bool
 | [] => true
 | e :: es => e.okR && Ex.okRs es
end
mutual
def Ex.okP : Ex → Bool
 | .mk k a b ps => jO k a b ps.length && Ex.okPs ps
def Ex.okPs : List Ex → Bool
 | [] => true
 | e :: es => e.okP && Ex.okPs es
end
def Ex.right (e : Ex) : Bool := e.okR && decide (e.depth ≤ 8) && decide (e.size ≤ 32)
mutual
theorem Ex.okP_eq : ∀ e : Ex, e.size ≤ 33 → e.okP = e.okR
 | .mk k a b ps, h => by
  simp only [Ex.size] at h;have h1 := Ex.okPs_eq ps (by omega);have h2 := Ex.length_le_sizes ps;simp only [Ex.okP, Ex.okR, h1, jO];rw [show decide (ps.length ≤ 32) = true from by simp; omega, Bool.and_true, Bool.and_comm]
theorem Ex.okPs_eq : ∀ es : List Ex, Ex.sizes es ≤ 33 → Ex.okPs es = Ex.okRs es
 | [], _ => rfl
 | e :: es, h => by
  simp only [Ex.sizes] at h;simp only [Ex.okPs, Ex.okRs, Ex.okP_eq e (by omega), Ex.okPs_eq es (by omega)]
end
theorem Ex.rightP_eq (e : Ex) : (e.okP && decide (e.depth ≤ 8) && decide (e.size ≤ 32)) = e.right := by
 unfold Ex.right;by_cases h : e.size ≤ 32
 ·rw [Ex.okP_eq e (by omega)]
 ·simp [h]
theorem Ex.okRs_append (a b : List Ex) : Ex.okRs (a ++ b) = (Ex.okRs a && Ex.okRs b) := by
 induction a with
 | nil => simp [Ex.okRs]
 | cons e es ih => simp only [List.cons_append, Ex.okRs, ih, Bool.and_assoc]
theorem Ex.okRs_take (ps : List Ex) (k : Nat) (h : k < ps.length) : Ex.okRs (ps.take (k + 1)) = (Ex.okRs (ps.take k) && ps[k].okR) := by
 rw [fH ps k h, Ex.okRs_append]; simp [Ex.okRs]
theorem Ex.okRs_false (ps : List Ex) (k : Nat) (h : k < ps.length) (h0 : ps[k].okR = false) : Ex.okRs ps = false := by
 have := Ex.okRs_append (ps.take (k + 1)) (ps.drop (k + 1));rw [List.take_append_drop, Ex.okRs_take ps k h, h0] at this;simpa using this
theorem Ex.okPs_iff (ps : List Ex) : Ex.okPs ps = ps.all Ex.okP := by
 induction ps with
 | nil => rfl
 | cons e es ih => simp [Ex.okPs, ih]
def Hz (k : Int) (a b cnt n x v : Nat) : Bool :=
 if k = 1 then true
 else if k = 2 then decide (x ≤ a)
 else if k = 3 then decide (v ≤ a)
 else if k = 4 then v % a == b
 else if k = 5 then cnt == 0
 else if k = 6 then cnt == n
 else decide (0 < cnt)
mutual
def Ex.asks (x v : Nat) : Ex → Bool
 | .mk k a b ps => Hz k a b (Ex.asked x v ps) ps.length x v
def Ex.asked (x v : Nat) : List Ex → Nat
 | [] => 0
 | e :: es => (if e.asks x v then 1 else 0) + Ex.asked x v es
end
mutual
def Ex.same : Ex → Ex → Bool
 | .mk k a b ps, .mk k' a' b' ps' => decide (k = k') && decide (a = a') && decide (b = b') && Ex.sames ps ps'
def Ex.sames : List Ex → List Ex → Bool
 | [], [] => true
 | e :: es, e' :: es' => e.same e' && Ex.sames es es'
 | [], _ :: _ => false
 | _ :: _, [] => false
end
mutual
theorem Ex.same_iff : ∀ e e' : Ex, e.same e' = true ↔ e = e'
 | .mk k a b ps, .mk k' a' b' ps' => by
  simp only [Ex.same, aH, decide_eq_true_eq, Ex.sames_iff ps ps', Ex.mk.injEq, and_assoc]
theorem Ex.sames_iff : ∀ e e' : List Ex, Ex.sames e e' = true ↔ e = e'
 | [], [] => by simp [Ex.sames]
 | e :: es, e' :: es' => by simp only [Ex.sames, aH, Ex.same_iff e e', Ex.sames_iff es es', List.cons.injEq]
 | [], _ :: _ => by simp [Ex.sames]
 | _ :: _, [] => by simp [Ex.sames]
end
theorem Ex.same_refl (e : Ex) : e.same e = true := (Ex.same_iff e e).2 rfl
instance : DecidableEq Ex := fun a b => decidable_of_iff _ (Ex.same_iff a b)
theorem Ex.sames_eq (e e' : List Ex) : Ex.sames e e' = decide (e = e') := by
 rw [Bool.eq_iff_iff, Ex.sames_iff]; simp
def Ex.zero : Ex := .mk 0 0 0 []
def xI (k : Int) (a b n : Nat) : List UInt8 :=
 (k % 256).toNat.toUInt8 :: ((if 2 ≤ k ∧ k ≤ 4 then dw a else []) ++ (if k = 4 then dw b else []) ++ (if 6 ≤ k then dw n else []))
mutual
def Ex.st : Ex → List UInt8
 | .mk k a b ps => xI k a b ps.length ++ Ex.sts ps
def Ex.sts : List Ex → List UInt8
 | [] => []
 | e :: es => e.st ++ Ex.sts es
end
theorem vZ (k : Int) (a b n : Nat) : (xI k a b n).length ≤ 31 := by
 have h1 := cB a; have h2 := cB b; have h3 := cB n;simp only [xI, aJ, aI]
 repeat' split
 all_goals simp_all <;> omega
mutual
theorem Ex.st_length : ∀ e : Ex, e.st.length ≤ 31 * e.size
 | .mk k a b ps => by
  have h1 := vZ k a b ps.length;have h2 := Ex.sts_length ps;simp only [Ex.st, Ex.size, aI]; omega
theorem Ex.sts_length : ∀ es : List Ex, (Ex.sts es).length ≤ 31 * Ex.sizes es
 | [] => by simp [Ex.sts]
 | e :: es => by
  have h1 := Ex.st_length e;have h2 := Ex.sts_length es;simp only [Ex.sts, Ex.sizes, aI]; omega
end
def Ex.put (e : Ex) : List UInt8 := if e.right then e.st else []
def isD (c : UInt8) : Bool := decide (48 ≤ c.toNat) && decide (c.toNat ≤ 57)
def qC (acc : Nat) (l : List UInt8) : Nat := l.foldl (fun n c => n * 10 + (c.toNat - 48)) acc
def numOf (l : List UInt8) : Nat := qC 0 l
def rdNum (l : List UInt8) : Option (Nat × List UInt8) :=
 if l.takeWhile isD ≠ [] ∧ Lib.decDigits (numOf (l.takeWhile isD)) = l.takeWhile isD ∧ numOf (l.takeWhile isD) < 18446744073709551616 then some (numOf (l.takeWhile isD), l.dropWhile isD) else none
theorem kH (acc : Nat) : qC acc [] = acc := by simp only [qC, List.foldl_nil]
theorem iL (acc : Nat) (c : UInt8) (r : List UInt8) : qC acc (c :: r) = qC (acc * 10 + (c.toNat - 48)) r := by simp only [qC, List.foldl_cons]
theorem xJ (a b : List UInt8) (acc : Nat) : qC acc (a ++ b) = qC (qC acc a) b := by
 induction a generalizing acc with
 | nil => rw [kH, List.nil_append]
 | cons c a ih => rw [List.cons_append, iL, iL, ih]
theorem zF (a : List UInt8) (c : UInt8) : numOf (a ++ [c]) = numOf a * 10 + (c.toNat - 48) := by
 unfold numOf; rw [xJ, iL, kH]
theorem Fb (l : List UInt8) : ∀ acc, acc ≤ qC acc l := by
 induction l with
 | nil => intro acc; rw [kH]; exact Nat.le_refl _
 | cons c l ih => intro acc; rw [iL]; have := ih (acc * 10 + (c.toNat - 48)); omega
theorem gW (n : Nat) : ∀ c ∈ Lib.decDigits n, isD c = true := by
 induction n using Nat.strongRecOn with
 | _ n ih =>
  intro c hc;rw [Lib.decDigits] at hc;split at hc
  ·simp only [List.mem_singleton] at hc; subst hc
   simp [isD, UInt8.toNat_ofNat']; omega
  ·simp only [List.mem_append, List.mem_singleton] at hc
   rcases hc with hc | hc
   ·exact ih (n / 10) (by omega) c hc
   ·subst hc; simp [isD, UInt8.toNat_ofNat']; omega
theorem dU (n : Nat) : numOf (Lib.decDigits n) = n := by
 induction n using Nat.strongRecOn with
 | _ n ih =>
  rw [Lib.decDigits];split
  ·unfold numOf; rw [iL, kH]; simp [UInt8.toNat_ofNat']; omega
  ·rw [zF, ih (n / 10) (by omega)]; simp [UInt8.toNat_ofNat']; omega
theorem jP (n : Nat) : Lib.decDigits n ≠ [] := by
 rw [Lib.decDigits]; split <;> simp
theorem mf {p : UInt8 → Bool} (a b : List UInt8) (ha : ∀ c ∈ a, p c = true) (hb : ∀ c, b.head? = some c → p c = false) : (a ++ b).takeWhile p = a ∧ (a ++ b).dropWhile p = b := by
 induction a with
 | nil =>
  cases b with
  | nil => simp
  | cons c b => have := hb c rfl; simp [this]
 | cons c a ih =>
  have h1 := ha c (by simp);have h2 := ih (fun d hd => ha d (by simp [hd]));simp [h1, h2.1, h2.2]
theorem jQ (n : Nat) (h : n < 18446744073709551616) (r : List UInt8) (hr : ∀ c, r.head? = some c → isD c = false) : rdNum (Lib.decDigits n ++ r) = some (n, r) := by
 obtain ⟨h1, h2⟩ := mf (Lib.decDigits n) r (gW n) hr;unfold rdNum;rw [h1, h2, dU, if_pos ⟨jP n, rfl, h⟩]
theorem nH (l : List UInt8) (hl : ∀ c ∈ l, isD c = true) : ∀ acc, acc < 18446744073709551616 → Lib.parseUintM 18446744073709551615 acc l = if qC acc l < 18446744073709551616 then .ok (qC acc l) else .range := by
 induction l with
 | nil => intro acc h; rw [Lib.parseUintM, kH, if_pos h]
 | cons c l ih =>
  intro acc h;have hc := hl c (by simp);simp only [isD, aH, decide_eq_true_eq] at hc;have hg := Fb l (acc * 10 + (c.toNat - 48));rw [Lib.parseUintM, iL, if_pos hc];by_cases h1 : 1844674407370955162 ≤ acc
  ·rw [if_pos h1, if_neg (by omega)]
  ·rw [if_neg h1]
   by_cases h2 : 18446744073709551615 < acc * 10 + (c.toNat - 48)
   ·rw [if_pos h2, if_neg (by omega)]
   ·rw [if_neg h2]
    exact ih (fun d hd => hl d (by simp [hd])) _ (by omega)
theorem jC (l : List UInt8) (hl : ∀ c ∈ l, isD c = true) : Lib.parseUintB 64 l = if l = [] then Lib.parseUintB 64 [] else if numOf l < 18446744073709551616 then .ok (numOf l) else .range := by
 by_cases hl0 : l = []
 ·rw [if_pos hl0, hl0]
 ·rw [if_neg hl0]
  unfold Lib.parseUintB;rw [if_neg hl0];exact nH l hl 0 (by omega)
def Wr (TW TB : TypeId) (w : World) (wb : Nat) (sv : Value) (l : List UInt8) : Prop := w.1[wb]? = some (.cells #[sv] TW (0, 0)) ∧ w.ownsRow (wb + 1) TB 1 sv l.length (bytes l)
structure Wrote (wb : Nat) (sv sv' : Value) (w w' : World) : Prop where
 os : w'.os = w.os
 tape : w'.tape = w.tape
 output : w'.output = w.output
 size : w.1.size ≤ w'.1.size
 keep : ∀ b, b < w.1.size → b ≠ wb → sv.ownBlock ≠ some b → w'.1[b]? = w.1[b]?
 row : sv'.ownBlock = sv.ownBlock ∨ ∃ b, sv'.ownBlock = some b ∧ w.1.size ≤ b
theorem Wrote.refl (wb : Nat) (sv : Value) (w : World) : Wrote wb sv sv w w := ⟨rfl, rfl, rfl, Nat.le_refl _, fun _ _ _ _ => rfl, .inl rfl⟩
theorem Wrote.trans {wb : Nat} {sv sv' sv'' : Value} {w w' w'' : World} (h : Wrote wb sv sv' w w') (k : Wrote wb sv' sv'' w' w'') : Wrote wb sv sv'' w w'' := by
 refine ⟨k.os.trans h.os, k.tape.trans h.tape, k.output.trans h.output, Nat.le_trans h.size k.size, fun b hb h1 h2 => ?_, ?_⟩
 ·have hs := h.size
  rw [k.keep b (by omega) h1 (fun e => ?_), h.keep b hb h1 h2];rcases h.row with hr | ⟨b', hr, hl⟩
  ·exact h2 (by rw [← hr]; exact e)
  ·rw [hr] at e; injection e with e; omega
 ·rcases k.row with hr | ⟨b, hr, hl⟩
  ·rw [hr]; exact h.row
  ·exact .inr ⟨b, hr, by have := h.size; omega⟩
theorem Wrote.of_below {wb : Nat} {sv : Value} {w w' : World} (h : Below w.1.size w w') : Wrote wb sv sv w w' := ⟨h.os, h.tape, h.output, h.size, fun b hb _ _ => h.block b hb, .inl rfl⟩
theorem Wr.lt {TW TB : TypeId} {w : World} {wb : Nat} {sv : Value} {l : List UInt8} (h : Wr TW TB w wb sv l) : wb < w.1.size ∧ ∀ k, sv.ownBlock = some k → wb + 1 ≤ k ∧ k < w.1.size := ⟨(ak h.1).1, h.2.lt⟩
theorem Wrote.below {TW TB : TypeId} {wb : Nat} {sv sv' : Value} {w w' : World} {l : List UInt8} (h : Wrote wb sv sv' w w') (hw : Wr TW TB w wb sv l) : Below wb w w' :=
 ⟨h.os, h.tape, h.output, h.size, fun b hb => h.keep b (by have := hw.lt.1; omega) (by omega) (fun e => by have := (hw.lt.2 b e).1; omega)⟩
theorem Wr.below {TW TB : TypeId} {w w' : World} {wb : Nat} {sv : Value} {l : List UInt8} (h : Wr TW TB w wb sv l) (hb : Below w.1.size w w') : Wr TW TB w' wb sv l :=
 ⟨by rw [hb.block _ h.lt.1]; exact h.1, ownsRow_below h.2 hb nl⟩
theorem Wr.cell {TW TB : TypeId} {w : World} {wb : Nat} {sv : Value} {l : List UInt8} (h : Wr TW TB w wb sv l) : w.cell? ⟨wb, 0, none⟩ = some sv ∧ w.frozen? ⟨wb, 0, none⟩ = false :=
 ⟨by rw [ax w _ 0 _ _ _ h.1]; rfl, by rw [aA w _ 0 _ _ h.1]⟩
theorem Wr.push {TW TB : TypeId} {w w1 w2 : World} {wb : Nat} {sv v' : Value} {l m : List UInt8} (h : Wr TW TB w wb sv l) (hb : Below w.1.size w w1) (hown : w2.ownsRow (wb + 1) TB 1 v' (l.length + m.length) (bytes l ++ bytes m)) (hg : w1.grownBy w2 sv.ownBlock)
  (hat : v'.ownBlock = sv.ownBlock ∨ v'.ownBlock = some w1.1.size) : Wr TW TB (w2.setCell ⟨wb, 0, none⟩ v') wb v' (l ++ m) ∧ Wrote wb sv v' w (w2.setCell ⟨wb, 0, none⟩ v') := by
 have hl := h.lt;have hs := hb.size;have hne : some wb ≠ sv.ownBlock := fun e => by have := (hl.2 _ e.symm).1; omega
 have h2 : w2.1[wb]? = some (.cells #[sv] TW (0, 0)) := by rw [hg.block _ (by omega) hne, hb.block _ hl.1]; exact h.1
 refine ⟨⟨aM h2 (by simp), ?_⟩, ?_⟩
 ·refine ownsRow_setCell_below ?_ (by simp) v'
  simpa [bytes] using hown
 ·refine ⟨hg.os.trans hb.os, hg.tape.trans hb.tape, hg.output.trans hb.output, ?_, fun b hb' h1 h3 => ?_, ?_⟩
  ·have := hg.size; simp; omega
  ·rw [ay _ _ _ _ (by simpa using h1), hg.block _ (by omega) (fun e => h3 e.symm), hb.block _ hb']
  ·rcases hat with h1 | h1
   ·exact .inl h1
   ·exact .inr ⟨_, h1, by omega⟩
def Wg (TW TB : TypeId) (w : World) (wb : Nat) (sv : Value) (l : List UInt8) (r : Value) (e : Ending) (w' : World) : Prop := e = .returned r ∧ ∃ sv', Wr TW TB w' wb sv' l ∧ Wrote wb sv sv' w w'
def nums (l : List Nat) : List Value := l.map fun (n : Nat) => .int .u64 (n : Int)
@[simp] theorem nums_length (l : List Nat) : (nums l).length = l.length := by simp [nums]
def bO (l : List Nat) : List UInt8 := l.flatMap dw
theorem zG (l : List Nat) (k : Nat) (h : k < l.length) : bO (l.take (k + 1)) = bO (l.take k) ++ dw l[k] := by
 unfold bO; rw [List.take_succ_eq_append_getElem h, List.flatMap_append]; simp
theorem bI (l : List Nat) : (bO l).length ≤ 10 * l.length := by
 unfold bO
 induction l with
 | nil => simp
 | cons n l ih => have := cB n; simp at ih ⊢; omega
theorem uQ {TW : TypeId} (S : Nat → Prop) (own : Bool) (wb : Nat) (sv : Value) (l m : List UInt8) (v : Value) (w : World) (hw : Wr TW 5 w wb sv l) (hr : aO w S own m v) (h47 : l.length + m.length ≤ 140737488355328) :
  Calls Tryz.prog 85 #[.pointer (some ⟨wb, 0, none⟩), v] w (Wg TW 5 w wb sv (l ++ m) (.int .i64 0)) := by
 obtain ⟨i0, hi0, hz0, hz1, hz2⟩ := info_parts infoByte;have hl := hr.2.1;have HR := hid hr;obtain ⟨_, ad, cap, rfl, hc⟩ := hr.shape;clear hr;obtain ⟨c0, f0⟩ := hw.cell;have hlt := hw.lt;have hl1 : wb < w.1.size := hlt.1;have HW := hid hw;clear hw;obtain ⟨sa, sc, rfl⟩ := aQ HW.out.2
 go_enter Tryz.func85, Tryz.ntmps85
 go_wp2_with (at_builtin; go_loud (refine bg _ rfl (.tmp 11) (.tmp 12) _ rfl (wb + 1) 5 i0 _ 1 1 Tryz.underlying32 hi0 hz0 hz1 hz2 rfl (by omega) _ l.length (bytes l) rfl HW.out.2 _ _ m.length (bytes m) _ rfl HR.out (eF _) (by unfold maxLen; omega) (by omega) (by omega) ?_); intro v' w2 hown2 hgrow hat; obtain ⟨va, vc, rfl⟩ := aQ hown2
              have hne : some wb ≠ (Value.slice sa l.length sc).ownBlock := fun e => (by have := (hlt.2 _ e.symm).1; omega)
              have c5 : w2.cell? ⟨wb, 0, none⟩ = some (.slice sa l.length sc) := (by rw [hgrow.cell_far _ (by omega) hne]; exact c0);have f5 : w2.frozen? ⟨wb, 0, none⟩ = false := (by rw [hgrow.frozen_far _ (by omega) hne]; exact f0))
 go_ret
 have h := Wr.push HW.out br hown2 hgrow hat;exact ⟨rfl, _, h.1, h.2⟩
theorem nI {TW : TypeId} (own : Bool) (wb : Nat) (sv : Value) (l : List UInt8) (ns : List Nat) (v : Value) (w : World) (hw : Wr TW 5 w wb sv l) (hr : Sl w (fun b => b ≠ wb ∧ sv.ownBlock ≠ some b) own 1 ns.length (nums ns) v)
  (hns : ∀ n ∈ ns, n < 18446744073709551616) (hsmall : l.length + 10 * ns.length ≤ 1000000) :
  Calls Tryz.prog 83 #[.pointer (some ⟨wb, 0, none⟩), v] w (Wg TW 5 w wb sv (l ++ bO ns) (.int .i64 0)) := by
 obtain ⟨i0, hi0, hz0, hz1, hz2⟩ := info_parts infoByte;obtain ⟨_, hl63, ad, cap, rfl, hcap, hc⟩ := hr;have hlt := hw.lt;have HW := hid hw;clear hw
 go_enter Tryz.func83, Tryz.ntmps83
 go_wp2_with fail
 go_loopw [11] (fun i wr => ∃ j : Nat, ∃ sv', j ≤ ns.length ∧ i = .int .i64 j ∧ Wr TW 5 wr wb sv' (l ++ bO (ns.take j)) ∧ Wrote wb sv sv' w wr) (fun i _ => ns.length - (intOf i).toNat)
 case atStart => exact ⟨0, sv, by omega, rfl, by simpa [bO] using HW.out, Wrote.refl _ _ _⟩
 case round =>
  obtain ⟨j, sv', hj, rfl, hwr, hwt⟩ := hrel;by_cases hjl : j < ns.length
  ·obtain ⟨bl, off, rfl, ⟨hS1, hS2⟩, hcell⟩ := hc (by omega)
   have g0 := (hcell j (by simpa using hjl)).1;have hbl : bl < w.1.size := aG w _ g0;have g : wr.cell? ⟨bl, off + j, none⟩ = some (.int .u64 (ns[j] : Nat)) := by
    rw [World.cell?_of_block (w := w) (a := ⟨bl, off + j, none⟩) (hwt.keep bl hbl hS1 hS2), g0]; simp [nums]
   have hn64 : ns[j] < 18446744073709551616 := hns _ (List.getElem_mem hjl);have hpl := bI (ns.take j);have hpl2 := cB ns[j];have hln : (ns.take j).length ≤ ns.length := (by simp; omega);have PS := hid (zG ns j hjl);obtain ⟨c0, f0⟩ := hwr.cell;have hlt' := hwr.lt;have l0 : bl < wr.1.size := (by have := hwt.size; omega);have hlen : (l ++ bO (ns.take j)).length ≤ l.length + 10 * ns.length := (by simp; omega);obtain ⟨L, hL⟩ : ∃ L, L = l ++ bO (ns.take j) := ⟨_, rfl⟩;rw [← hL] at hwr hlen;have HL := hid hL;clear hL;obtain ⟨sa, sc, rfl⟩ := aQ hwr.2;have HWR := hid hwr;have hl1 : wb < wr.1.size := hlt'.1;clear hwr hcell g0 hpl hln;go_wp2_with fail
   go_region_law (first
    | (go_simp; go_at_call 124; refine (mP ns[j] _ hn64).mono ?_; rintro e w1 ⟨v1, rfl, hown1, hb1⟩; obtain ⟨hc1, hf1⟩ := xE hb1; have hx1 := ((hb1.cell (p := ⟨wb, 0, none⟩) hl1).trans c0); obtain ⟨sa1, sc1, rfl⟩ := aQ hown1)
    | (refine kG _ (by rfl) (.tmp 19) (.tmp 21) 32 (by rfl) (wb + 1) 5 i0 _ 1 1 Tryz.underlying32 hi0 hz0 hz1 hz2 rfl (by omega) (.slice sa L.length sc) L.length (bytes L) (by rfl) (HWR.out.below (br.drew.trans hb1)).2
        _ _ (dw ns[j]).length (bytes (dw ns[j])) _ (by rfl) (Sl.of_owns hown1 (by omega)) (eF _) (by unfold maxLen; omega) (by omega) (by have := hb1.size; simp at this ⊢; omega) ?_; intro v' w2 hown2 hgrow hat; obtain ⟨va, vc, rfl⟩ := aQ hown2
       have hne : some wb ≠ (Value.slice sa L.length sc).ownBlock := fun e => (by have := (hlt'.2 _ e.symm).1; omega)
       have hzz : wb < w1.1.size := (by have := hb1.size; simp at this; omega);have c5 : w2.cell? ⟨wb, 0, none⟩ = some (.slice sa L.length sc) := (by rw [hgrow.cell_far _ (by omega) hne]; exact hx1);have f5 : w2.frozen? ⟨wb, 0, none⟩ = false := (by rw [hgrow.frozen_far _ (by omega) hne, hf1 _ _ hl1]; exact f0)))
   all_goals
    have HP := hid (Wr.push HWR.out (br.drew.trans hb1) hown2 hgrow hat);clear hown2 hgrow hat hown1;go_wp2_with fail;go_roundw
    case rel =>
     refine ⟨j + 1, _, by omega, by go_num, ?_, hwt.trans HP.out.2⟩;rw [PS.out, ← List.append_assoc, ← HL.out];exact HP.out.1
    case measure => simp [intOf]; omega
  ·have hj2 : j = ns.length := by omega
   subst hj2;rw [List.take_length] at hwr;go_wp2_with fail;go_ret
   exact ⟨rfl, sv', hwr, hwt⟩
theorem pY {TW : TypeId} (wb : Nat) (sv : Value) (l : List UInt8) (w : World) (hw : Wr TW 5 w wb sv l) (h47 : l.length ≤ 140737488355328) :
  Calls Tryz.prog 84 #[.pointer (some ⟨wb, 0, none⟩)] w (jN 5 w l) := by
 obtain ⟨c0, f0⟩ := hw.cell;have HC := hid (dM _ _ l sv w (aO.of_owns hw.2) h47)
 go_enter Tryz.func84, Tryz.ntmps84
 go_wp2_with fail;refine HC.out.mono ?_;rintro e w1 ⟨v1, rfl, hown1, hb1⟩;go_wp2_with fail;go_ret
 exact ⟨v1, rfl, hown1, hb1⟩
theorem aN {P : Program} {fn : Func} {p a : Tmp} {ty : TypeId} (h : fn.results = #[.cell p ty, .tmp a]) (tmps : Array Value) (w : World) (g : Nat) (t : TypeId) (cs : Array Value) (fr : Nat × Nat) (d : TypeDesc) (va : Value)
  (hp : tmps.getD p undef = .pointer (some ⟨g, 0, none⟩)) (hg : w.1[g]? = some (.cells cs t fr))
  (hu : P.underlying ty = some d) (hd : (match d with | .struct _ | .array _ _ => true | _ => false) = true) (hi : (P.info? ty).map (·.size) = some cs.size) (ha : tmps.getD a undef = va) :
  (results fn tmps).run P w = .ok (.tuple #[.agg cs, va]) w := by
 have hp' : tmps[p]?.getD undef = .pointer (some ⟨g, 0, none⟩) := by simpa using hp
 have ha' : tmps[a]?.getD undef = va := by simpa using ha
 simp [results, h, hp', ha', asAddr, run_loadVar_row w g t ty cs fr d hg hu hd hi]
theorem aU {P : Program} {fn : Func} {p a b : Tmp} {ty : TypeId} (h : fn.results = #[.cell p ty, .tmp a, .tmp b]) (tmps : Array Value) (w : World) (g : Nat) (t : TypeId) (cs : Array Value) (fr : Nat × Nat) (d : TypeDesc) (va vb : Value)
  (hp : tmps.getD p undef = .pointer (some ⟨g, 0, none⟩)) (hg : w.1[g]? = some (.cells cs t fr))
  (hu : P.underlying ty = some d) (hd : (match d with | .struct _ | .array _ _ => true | _ => false) = true) (hi : (P.info? ty).map (·.size) = some cs.size) (ha : tmps.getD a undef = va) (hb : tmps.getD b undef = vb) :
  (results fn tmps).run P w = .ok (.tuple #[.agg cs, va, vb]) w := by
 have hp' : tmps[p]?.getD undef = .pointer (some ⟨g, 0, none⟩) := by simpa using hp
 have ha' : tmps[a]?.getD undef = va := by simpa using ha
 have hb' : tmps[b]?.getD undef = vb := by simpa using hb
 simp [results, h, hp', ha', hb', asAddr, run_loadVar_row w g t ty cs fr d hg hu hd hi]
theorem aL (w : World) (o : Obj) (i : Nat) (h : i < w.1.size) : (w.alloc o).1[i]? = w.1[i]? := az _ _ _ h
theorem iE {w w' : World} {base : Nat} {e : TypeId} {size n : Nat} {v : Value} {xs : List Value} (h : w.ownsRow base e size v n xs) (hk : ∀ b, base ≤ b → b < w.1.size → w'.1[b]? = w.1[b]?) : w'.ownsRow base e size v n xs := by
 obtain ⟨h1, h2⟩ := h;refine ⟨h1, ?_⟩;rcases h2 with h2 | ⟨g, cap, cur, hv, hg, hh, r⟩
 ·exact Or.inl h2
 ·exact Or.inr ⟨g, cap, cur, hv, hg, by rw [hk g hg (ak hh).1]; exact hh, r⟩
end Go.Proofs.YtlpgokcapdjgjaaGreatDoor
