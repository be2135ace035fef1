/- Walks. -/
import Derived.Test.YtlpgokcapdjgjaaGreatDoorY19
import Derived.Test.YtlpgokcapdjgjaaGreatDoorChecked
import Derived.BigQuiet
import Derived.Deep.QuietTactic
import Derived.WalkSpells
import Derived.WalkSmall
set_option maxHeartbeats 1000000
set_option maxRecDepth 100000
namespace Go.Proofs.YtlpgokcapdjgjaaGreatDoor
open Go.RowKit Go
set_option linter.unusedVariables false
set_option linter.unusedSimpArgs false
def jG : Nat → Nat → List UInt8
 | 0, n => [n.toUInt8]
 | f + 1, n => if n < 128 then [n.toUInt8] else (n % 128 + 128).toUInt8 :: jG f (n / 128)
def dA (n : Nat) : List UInt8 := jG 9 n
theorem zM (f : Nat) : ∀ n, n < 128 ^ (f + 1) → jG (f + 1) n = jG f n := by
 induction f with
 | zero => intro n h; simp at h; simp [jG, h]
 | succ f ih =>
  intro n h
  rw [jG]
  by_cases hn : n < 128
  ·rw [if_pos hn]; simp [jG, hn]
  ·rw [if_neg hn, ih _ (by rw [Nat.pow_succ] at h; omega)]; simp [jG, hn]
theorem xu (n : Nat) (h : n < 128) : dA n = [n.toUInt8] := by simp [dA, jG, h]
theorem Bj (n : Nat) (h : ¬ n < 128) (h64 : n < 18446744073709551616) : dA n = (n % 128 + 128).toUInt8 :: dA (n / 128) := by
 have e : jG 8 (n / 128) = jG 9 (n / 128) := (zM 8 _ (by omega)).symm
 unfold dA
 rw [show jG 9 n = (n % 128 + 128).toUInt8 :: jG 8 (n / 128) from by simp [jG, h], e]
theorem vC (f n : Nat) : (jG f n).length ≤ f + 1 ∧ 0 < (jG f n).length := by
 induction f generalizing n with
 | zero => simp [jG]
 | succ f ih =>
  rw [jG]; split
  ·simp
  ·have := ih (n / 128); simp; omega
theorem dF (n : Nat) : (dA n).length ≤ 10 ∧ 0 < (dA n).length := vC 9 n
theorem infoByte : (Tryz.prog.info? 5).map (fun i => (i.zero, i.size, i.bytes)) = some (some (.int .u8 0), 1, 1) := by kernel_rfl
theorem ownsRow_lit (w : World) (base : Nat) (cs : Array Value) (T : TypeId) (hb : base ≤ w.heap.size) (hm : cs.size ≤ 1000) : (w.alloc (.cells cs T)).ownsRow base T 1 (.slice (some ⟨w.heap.size, 0, none⟩) cs.size cs.size) cs.size cs.toList :=
 ⟨by simp, Or.inr ⟨w.heap.size, cs.size, cs, rfl, hb, heap_alloc_new w _, Nat.le_refl _, by unfold maxLen; omega, by omega, by simp [List.take_of_length_le]⟩⟩
theorem Ec : ∀ x : Fin 256, bits BinOp.or IntKind.u8 (x.val : Int) 128 = ((x.val % 128 + 128 : Nat) : Int) := by decide +kernel
theorem ER (k : Nat) : bits BinOp.or IntKind.u8 ((k : Int) % 256) 128 = ((k % 128 + 128).toUInt8.toNat : Int) := by
 have h := Ec ⟨k % 256, Nat.mod_lt _ (by omega)⟩
 simp only at h
 rw [lQ (by omega), show ((k : Int) % 256) = ((k % 256 : Nat) : Int) from by simp, h]
 congr 1; omega
theorem oO (n : Nat) (h : 128 ≤ n) (h64 : n < 18446744073709551616) : dA n = (n % 128 + 128).toUInt8 :: dA (n / 128) := Bj n (by omega) h64
theorem kX (n : Nat) (w : World) (h64 : n < 18446744073709551616) :
  Calls Tryz.prog 124 #[.int .u64 n] w (oN 5 w (dA n)) := by
 obtain ⟨i0, hi0, hz0, hz1, hz2⟩ := info_parts infoByte
 go_enter Tryz.func124, Tryz.ntmps124
 go_wp2_with fail
 go_loopw [0, 2] (fun m sv wr => ∃ (k : Nat) (pre : List UInt8), m = .int .u64 k ∧ k < 18446744073709551616 ∧ Hid (pre ++ dA k = dA n) ∧ wr.ownsRow w.heap.size 5 1 sv pre.length (bytes pre) ∧ Below w.heap.size w wr) (fun m _ _ => (intOf m).toNat)
 case atStart => exact ⟨n, [], rfl, h64, hid (by simp), World.ownsRow_nil _ _ _ _, br⟩
 case round =>
  obtain ⟨k, pre, rfl, hk, heq, hown, hbel⟩ := hrel
  have hl1 : pre.length ≤ 10 := by have h := congrArg List.length heq.out; have := dF n; simp at h; omega
  have hsz := hbel.size
  have hob := hown.lt
  have HOWN := hid hown
  clear hown
  by_cases hge : 128 ≤ k
  ·have hp := hid (oO k hge hk)
   have HBB := hid (ER k)
   go_wp2_with (at_builtin; go_loud (refine bL _ rfl (.tmp 7) (.tmp 11) _ rfl w.heap.size 5 i0 _ 1 1 Tryz.underlying32 hi0 hz0 hz1 hz2 rfl (by omega) _ pre.length (bytes pre) rfl (HOWN.out.alloc _) _ _ 1 [.int .u8 (bits BinOp.or IntKind.u8 ((k : Int) % 256) 128)] _ rfl (Sl.of_owns (ownsRow_lit wr 0 #[.int .u8 (bits BinOp.or IntKind.u8 ((k : Int) % 256) 128)] 5 (Nat.zero_le _) (by simp)) (by omega)) (by simp [Value.oneCell']) (by unfold maxLen; omega) (by omega) (by simp; omega) ?_); intro v' w2 hown2 hgrow hat)
   have HO2 := hid (And.intro hown2 (And.intro hgrow hat))
   clear hown2 hgrow hat
   go_wp2_with fail
   go_roundw
   case rel =>
    obtain ⟨hown2, hgrow, hat⟩ := HO2.out
    refine ⟨k / 128, pre ++ [(k % 128 + 128).toUInt8], ?_, by omega, hid ?_, ?_, ?_⟩
    ·go_num
    ·rw [List.append_assoc, ← heq.out, hp.out]; rfl
    ·rw [HBB.out] at hown2
     simpa [bytes] using hown2
    ·exact (hbel.alloc (by omega) _).grown hgrow (by simp; omega) (fun k hk => (hob k hk).1)
   case measure => simp [intOf]; omega
  ·have hp := hid (xu k (by omega))
   go_wp2_with (at_builtin; go_loud (refine bL _ rfl (.tmp 13) (.tmp 16) _ rfl w.heap.size 5 i0 _ 1 1 Tryz.underlying32 hi0 hz0 hz1 hz2 rfl (by omega) _ pre.length (bytes pre) rfl (HOWN.out.alloc _) _ _ 1 [.int .u8 (k : Int)] _ rfl (Sl.of_owns (ownsRow_lit wr 0 #[.int .u8 (k : Int)] 5 (Nat.zero_le _) (by simp)) (by omega)) (by simp [Value.oneCell']) (by unfold maxLen; omega) (by omega) (by simp; omega) ?_); intro v' w2 hown2 hgrow hat)
   go_ret
   refine ⟨v', rfl, ?_, (hbel.alloc (by omega) _).grown hgrow (by simp; omega) (fun k hk => (hob k hk).1)⟩
   rw [← heq.out, hp.out]
   simpa [bytes, lQ (show k < 256 by omega)] using hown2
theorem fI (S : Nat → Prop) (own : Bool) (l : List UInt8) (v : Value) (w : World) (hr : aF w S own l v) (h47 : l.length ≤ 140737488355328) :
  Calls Tryz.prog 65 #[v] w (oN 5 w l) := by
 obtain ⟨i0, hi0, hz0, hz1, hz2⟩ := info_parts infoByte
 have hl := hr.2.1
 have HR := hid hr
 obtain ⟨_, ad, cap, rfl, hc⟩ := hr.shape
 clear hr
 have hn := @Lib.run_eql_slice_nil Tryz.prog
 cases ad with
 | none =>
  have hl0 : l = [] := by
   rcases Nat.eq_zero_or_pos l.length with h | h
   ·exact List.eq_nil_of_length_eq_zero h
   ·obtain ⟨_, _, h1, _⟩ := Sl.cells HR.out h; cases h1
  subst hl0
  go_enter Tryz.func65, Tryz.ntmps65
  go_wp2_with fail
  go_ret
  exact ⟨_, rfl, World.ownsRow_nil _ _ _ _, br⟩
 | some a =>
  have HS := hid (Sl.below HR.out (by omega) (br.alloc nl (.cells #[] 5)) nl)
  have H0 := hid (ownsRow_lit w w.heap.size #[] 5 nl (by simp))
  go_enter Tryz.func65, Tryz.ntmps65
  go_wp2_with (at_builtin; refine bL _ rfl (.tmp 5) (.tmp 6) _ rfl w.heap.size 5 i0 _ 1 1 Tryz.underlying32 hi0 hz0 hz1 hz2 rfl (by omega) _ 0 [] rfl H0.out _ _ l.length (bytes l) _ rfl HS.out (iP _) (by unfold maxLen; omega) (by omega) (by simp) ?_; intro v' w2 hown2 hgrow hat)
  go_ret
  exact ⟨v', rfl, by simpa using hown2, (br.alloc nl _).grown hgrow (by simp) (fun k hk => by cases hk; exact Nat.le_refl _)⟩
end Go.Proofs.YtlpgokcapdjgjaaGreatDoor
