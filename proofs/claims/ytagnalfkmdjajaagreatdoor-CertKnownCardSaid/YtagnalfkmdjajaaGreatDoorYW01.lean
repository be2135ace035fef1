/- Walks. -/
import Derived.Test.YtagnalfkmdjajaaGreatDoorChecked
import Derived.Test.YtagnalfkmdjajaaGreatDoorY1
set_option maxHeartbeats 1000000
set_option maxRecDepth 100000
namespace Go.Proofs.YtagnalfkmdjajaaGreatDoor
open Go.RowKit Go
set_option linter.unusedVariables false
set_option linter.unusedSimpArgs false
theorem infoByte : (Tryz.prog.info? 5).map (fun i => (i.zero, i.size, i.bytes)) = some (some (.int .u8 0), 1, 1) := by kernel_rfl
theorem ownsRow_lit (w : World) (base : Nat) (cs : Array Value) (T : TypeId) (hb : base ≤ w.heap.size) (hm : cs.size ≤ 1000) : (w.alloc (.cells cs T)).ownsRow base T 1 (.slice (some ⟨w.heap.size, 0, none⟩) cs.size cs.size) cs.size cs.toList :=
 ⟨by simp, Or.inr ⟨w.heap.size, cs.size, cs, rfl, hb, heap_alloc_new w _, Nat.le_refl _, by unfold maxLen; omega, by omega, by simp [List.take_of_length_le]⟩⟩
theorem jY (d : Nat) : ∀ (n : Nat) (w : World), n < 128 ^ (d + 1) → n < 18446744073709551616 →
  Calls Tryz.prog 48 #[.int .u64 n] w (jo 5 w (bi n)) := by
 obtain ⟨i0, hi0, hz0, hz1, hz2⟩ := info_parts infoByte
 induction d with
 | zero =>
  intro n w hn _
  have hn' : n < 128 := by simpa using hn
  clear hn
  go_enter Tryz.func48, Tryz.ntmps48
  go_wp2_with fail
  go_ret
  refine ⟨_, rfl, ?_, br.alloc nl _⟩
  rw [lN n hn']
  simpa [bytes, cZ (show n < 256 by omega)] using ownsRow_lit w w.heap.size #[.int .u8 n] 5 nl (by simp)
 | succ d ih =>
  intro n w hn h64
  have hdiv : n / 128 < 128 ^ (d + 1) := by rw [Nat.pow_succ] at hn; omega
  have h := ih (n / 128) (w.alloc (.cells #[.int .u8 ((n : Int) % 128 + 128)] 5)) hdiv (by omega)
  rw [show ((n / 128 : Nat) : Int) = (n : Int) / 128 from by simp] at h
  have IH := hid h
  clear h
  clear ih hdiv hn
  have hpl := bO (n / 128)
  by_cases hn' : n < 128
  ·go_enter Tryz.func48, Tryz.ntmps48
   go_wp2_with fail
   go_ret
   refine ⟨_, rfl, ?_, br.alloc nl _⟩
   rw [lN n hn']
   simpa [bytes, cZ (show n < 256 by omega)] using ownsRow_lit w w.heap.size #[.int .u8 n] 5 nl (by simp)
  ·have hpb := hid (vW n hn' h64)
   go_enter Tryz.func48, Tryz.ntmps48
   go_wp2_with fail
   refine IH.out.mono ?_
   rintro e w1 ⟨v1, rfl, hown1, hb1⟩
   have hown0 : w1.ownsRow w.heap.size 5 1 (.slice (some ⟨w.heap.size, 0, none⟩) 1 1) 1 [.int .u8 ((n : Int) % 128 + 128)] :=
    ownsRow_below (ownsRow_lit w w.heap.size #[.int .u8 ((n : Int) % 128 + 128)] 5 nl (by simp)) hb1 nl
   have HS := hid (Sl.of_owns hown1 (by omega))
   have H0 := hid hown0
   clear hown1 hown0
   have hsz := hb1.size
   simp at hsz
   go_wp2_with (at_builtin; refine af _ rfl (.tmp 14) (.tmp 17) _ rfl w.heap.size 5 i0 _ 1 1 Tryz.underlying29 hi0 hz0 hz1 hz2 rfl (by omega) _ 1 [.int .u8 ((n : Int) % 128 + 128)] rfl H0.out _ _ _ (bytes (bi (n / 128))) _ rfl HS.out (dU _) (by unfold maxLen; omega) (by omega) (by omega) ?_; intro v' w2 hown2 hgrow hat)
   go_ret
   refine ⟨v', rfl, ?_, ((br.alloc nl _).trans (hb1.mono (by simp))).grown hgrow (by omega) (fun k hk => by cases hk; exact Nat.le_refl _)⟩
   rw [hpb.out]
   have hu : ((n % 128 + 128).toUInt8.toNat : Int) = (n : Int) % 128 + 128 := by rw [cZ (by omega)]; simp
   have h := hown2
   rw [show [Value.int .u8 ((n : Int) % 128 + 128)] ++ bytes (bi (n / 128)) = bytes ((n % 128 + 128).toUInt8 :: bi (n / 128)) from by rw [bytes_cons, hu]; rfl] at h
   rw [List.length_cons, Nat.add_comm]
   exact h
theorem EF : ∀ x : Fin 256, bits BinOp.or IntKind.u8 (x.val : Int) 128 = ((x.val % 128 + 128 : Nat) : Int) := by decide +kernel
theorem Fe (k : Nat) : bits BinOp.or IntKind.u8 ((k : Int) % 256) 128 = ((k % 128 + 128).toUInt8.toNat : Int) := by
 have h := EF ⟨k % 256, Nat.mod_lt _ (by omega)⟩
 simp only at h
 rw [cZ (by omega), show ((k : Int) % 256) = ((k % 256 : Nat) : Int) from by simp, h]
 congr 1; omega
theorem qx (n : Nat) (h : 128 ≤ n) (h64 : n < 18446744073709551616) : bi n = (n % 128 + 128).toUInt8 :: bi (n / 128) := vW n (by omega) h64
theorem lW (n : Nat) (w : World) (h64 : n < 18446744073709551616) :
  Calls Tryz.prog 102 #[.int .u64 n] w (jo 5 w (bi n)) := by
 obtain ⟨i0, hi0, hz0, hz1, hz2⟩ := info_parts infoByte
 go_enter Tryz.func102, Tryz.ntmps102
 go_wp2_with fail
 go_loopw [0, 2] (fun m sv wr => ∃ (k : Nat) (pre : List UInt8), m = .int .u64 k ∧ k < 18446744073709551616 ∧ Hid (pre ++ bi k = bi n) ∧ wr.ownsRow w.heap.size 5 1 sv pre.length (bytes pre) ∧ Below w.heap.size w wr) (fun m _ _ => (intOf m).toNat)
 case atStart => exact ⟨n, [], rfl, h64, hid (by simp), World.ownsRow_nil _ _ _ _, br⟩
 case round =>
  obtain ⟨k, pre, rfl, hk, heq, hown, hbel⟩ := hrel
  have hl1 : pre.length ≤ 10 := by have h := congrArg List.length heq.out; have := bO n; simp at h; omega
  have hsz := hbel.size
  have hob := hown.lt
  have HOWN := hid hown
  clear hown
  by_cases hge : 128 ≤ k
  ·have hp := hid (qx k hge hk)
   have HBB := hid (Fe k)
   go_wp2_with (at_builtin; go_loud (refine af _ rfl (.tmp 7) (.tmp 11) _ rfl w.heap.size 5 i0 _ 1 1 Tryz.underlying29 hi0 hz0 hz1 hz2 rfl (by omega) _ pre.length (bytes pre) rfl (HOWN.out.alloc _) _ _ 1 [.int .u8 (bits BinOp.or IntKind.u8 ((k : Int) % 256) 128)] _ rfl (Sl.of_owns (ownsRow_lit wr 0 #[.int .u8 (bits BinOp.or IntKind.u8 ((k : Int) % 256) 128)] 5 (Nat.zero_le _) (by simp)) (by omega)) (by simp [Value.oneCell']) (by unfold maxLen; omega) (by omega) (by simp; omega) ?_); intro v' w2 hown2 hgrow hat)
   have HO2 := hid (And.intro hown2 (And.intro hgrow hat))
   clear hown2 hgrow hat
   go_wp2_with fail
   go_roundw
   case rel =>
    obtain ⟨hown2, hgrow, hat⟩ := HO2.out
    refine ⟨k / 128, pre ++ [(k % 128 + 128).toUInt8], ?_, by omega, hid ?_, ?_, ?_⟩
    ·go_num
    ·rw [List.append_assoc, ← heq.out, hp.out]; rfl
    ·rw [HBB.out] at hown2
     simpa [bytes] using hown2
    ·exact (hbel.alloc (by omega) _).grown hgrow (by simp; omega) (fun k hk => (hob k hk).1)
   case measure => simp [intOf]; omega
  ·have hp := hid (lN k (by omega))
   go_wp2_with (at_builtin; go_loud (refine af _ rfl (.tmp 13) (.tmp 16) _ rfl w.heap.size 5 i0 _ 1 1 Tryz.underlying29 hi0 hz0 hz1 hz2 rfl (by omega) _ pre.length (bytes pre) rfl (HOWN.out.alloc _) _ _ 1 [.int .u8 (k : Int)] _ rfl (Sl.of_owns (ownsRow_lit wr 0 #[.int .u8 (k : Int)] 5 (Nat.zero_le _) (by simp)) (by omega)) (by simp [Value.oneCell']) (by unfold maxLen; omega) (by omega) (by simp; omega) ?_); intro v' w2 hown2 hgrow hat)
   go_ret
   refine ⟨v', rfl, ?_, (hbel.alloc (by omega) _).grown hgrow (by simp; omega) (fun k hk => (hob k hk).1)⟩
   rw [← heq.out, hp.out]
   simpa [bytes, cZ (show k < 256 by omega)] using hown2
end Go.Proofs.YtagnalfkmdjajaaGreatDoor
