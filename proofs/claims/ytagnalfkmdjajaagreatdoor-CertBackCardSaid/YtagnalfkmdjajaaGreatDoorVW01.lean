/- Walks: numbers as bytes. -/
import Derived.Test.YtagnalfkmdjajaaGreatDoorChecked
import Derived.Test.YtagnalfkmdjajaaGreatDoorV1
namespace Go.Proofs.YtagnalfkmdjajaaGreatDoor
open Go.RowKit Go
set_option linter.unusedVariables false
set_option linter.unusedSimpArgs false
theorem infoByte : (Tryz.prog.info? 5).map (fun i => (i.zero, i.size, i.bytes)) = some (some (.int .u8 0), 1, 1) := by kernel_rfl
theorem ownsRow_lit (w : World) (base : Nat) (cs : Array Value) (T : TypeId) (hb : base ≤ w.heap.size) (hm : cs.size ≤ 1000) : (w.alloc (.cells cs T)).ownsRow base T 1 (.slice (some ⟨w.heap.size, 0, none⟩) cs.size cs.size) cs.size cs.toList :=
  ⟨by simp, Or.inr ⟨w.heap.size, cs.size, cs, rfl, hb, heap_alloc_new w _, Nat.le_refl _, by unfold maxLen; omega, by omega, by simp [List.take_of_length_le]⟩⟩
theorem or128F : ∀ x : Fin 256, bits BinOp.or IntKind.u8 (x.val : Int) 128 = ((x.val % 128 + 128 : Nat) : Int) := by decide +kernel
theorem or128 (k : Nat) : bits BinOp.or IntKind.u8 ((k : Int) % 256) 128 = ((k % 128 + 128).toUInt8.toNat : Int) := by
  have h := or128F ⟨k % 256, Nat.mod_lt _ (by omega)⟩
  simp only at h
  rw [u8_toNat (by omega), show ((k : Int) % 256) = ((k % 256 : Nat) : Int) from by simp, h]
  congr 1; omega
theorem putV_eq_iff_or (n : Nat) (h : 128 ≤ n) (h64 : n < 18446744073709551616) : putV n = (n % 128 + 128).toUInt8 :: putV (n / 128) := putV_big n (by omega) h64
set_option maxHeartbeats 1000000 in
set_option maxRecDepth 100000 in
theorem varPut_any (n : Nat) (w : World) (h64 : n < 18446744073709551616) :
    Calls Tryz.prog 102 #[.int .u64 n] w (GivesB 5 w (putV n)) := by
  obtain ⟨i0, hi0, hz0, hz1, hz2⟩ := info_parts infoByte
  go_enter Tryz.func102, Tryz.ntmps102
  go_wp2_with fail
  go_loopw [0, 2] (fun m sv wr => ∃ (k : Nat) (pre : List UInt8), m = .int .u64 k ∧ k < 18446744073709551616 ∧ Hid (pre ++ putV k = putV n) ∧ wr.ownsRow w.heap.size 5 1 sv pre.length (bytes pre) ∧ Below w.heap.size w wr) (fun m _ _ => (intOf m).toNat)
  case atStart => exact ⟨n, [], rfl, h64, Lib.hid (by simp), World.ownsRow_nil _ _ _ _, Below.refl _ _⟩
  case round =>
    obtain ⟨k, pre, rfl, hk, heq, hown, hbel⟩ := hrel
    have hl1 : pre.length ≤ 10 := by have h := congrArg List.length heq.out; have := putV_length n; simp at h; omega
    have hsz := hbel.size
    have hob := hown.lt
    have HOWN := Lib.hid hown
    clear hown
    by_cases hge : 128 ≤ k
    · have hp := Lib.hid (putV_eq_iff_or k hge hk)
      have HBB := Lib.hid (or128 k)
      go_wp2_with (at_builtin; go_loud (refine wpList_append_sl _ rfl (.tmp 7) (.tmp 11) _ rfl w.heap.size 5 i0 _ 1 1 Tryz.underlying29 hi0 hz0 hz1 hz2 rfl (by omega) _ pre.length (bytes pre) rfl (HOWN.out.alloc _) _ _ 1 [.int .u8 (bits BinOp.or IntKind.u8 ((k : Int) % 256) 128)] _ rfl (Sl.of_owns (ownsRow_lit wr 0 #[.int .u8 (bits BinOp.or IntKind.u8 ((k : Int) % 256) 128)] 5 (Nat.zero_le _) (by simp)) (by omega)) (by simp [Value.oneCell']) (by unfold maxLen; omega) (by omega) (by simp; omega) ?_); intro v' w2 hown2 hgrow hat)
      have HO2 := Lib.hid (And.intro hown2 (And.intro hgrow hat))
      clear hown2 hgrow hat
      go_wp2_with fail
      go_roundw
      case rel =>
        obtain ⟨hown2, hgrow, hat⟩ := HO2.out
        refine ⟨k / 128, pre ++ [(k % 128 + 128).toUInt8], ?_, by omega, Lib.hid ?_, ?_, ?_⟩
        · go_num
        · rw [List.append_assoc, ← heq.out, hp.out]; rfl
        · rw [HBB.out] at hown2
          simpa [bytes] using hown2
        · exact (hbel.alloc (by omega) _).grown hgrow (by simp; omega) (fun k hk => (hob k hk).1)
      case measure => simp [intOf]; omega
    · have hp := Lib.hid (putV_small k (by omega))
      go_wp2_with (at_builtin; go_loud (refine wpList_append_sl _ rfl (.tmp 13) (.tmp 16) _ rfl w.heap.size 5 i0 _ 1 1 Tryz.underlying29 hi0 hz0 hz1 hz2 rfl (by omega) _ pre.length (bytes pre) rfl (HOWN.out.alloc _) _ _ 1 [.int .u8 (k : Int)] _ rfl (Sl.of_owns (ownsRow_lit wr 0 #[.int .u8 (k : Int)] 5 (Nat.zero_le _) (by simp)) (by omega)) (by simp [Value.oneCell']) (by unfold maxLen; omega) (by omega) (by simp; omega) ?_); intro v' w2 hown2 hgrow hat)
      go_ret
      refine ⟨v', rfl, ?_, (hbel.alloc (by omega) _).grown hgrow (by simp; omega) (fun k hk => (hob k hk).1)⟩
      rw [← heq.out, hp.out]
      simpa [bytes, u8_toNat (show k < 256 by omega)] using hown2
end Go.Proofs.YtagnalfkmdjajaaGreatDoor
