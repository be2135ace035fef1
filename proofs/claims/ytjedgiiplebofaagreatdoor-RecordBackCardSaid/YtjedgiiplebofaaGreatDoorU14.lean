/- Walks: rows of bytes held against each other, copied, written over; Clone. Ahead of it: Numbers as bytes: plain Lean. Walks: numbers as bytes. -/
import Derived.Test.YtjedgiiplebofaaGreatDoorU19
import Derived.Test.YtjedgiiplebofaaGreatDoorChecked
import Derived.BigQuiet
import Derived.Deep.QuietTactic
import Derived.WalkSpells
import Derived.WalkSmall
namespace Go.Proofs.YtjedgiiplebofaaGreatDoor
open Go.RowKit Go
set_option linter.unusedVariables false
set_option linter.unusedSimpArgs false
def putF : Nat → Nat → List UInt8
  | 0, n => [n.toUInt8]
  | f + 1, n => if n < 128 then [n.toUInt8] else (n % 128 + 128).toUInt8 :: putF f (n / 128)
def putV (n : Nat) : List UInt8 := putF 9 n
theorem putF_more (f : Nat) : ∀ n, n < 128 ^ (f + 1) → putF (f + 1) n = putF f n := by
  induction f with
  | zero => intro n h; simp at h; simp [putF, h]
  | succ f ih =>
    intro n h
    rw [putF]
    by_cases hn : n < 128
    · rw [if_pos hn]; simp [putF, hn]
    · rw [if_neg hn, ih _ (by rw [Nat.pow_succ] at h; omega)]; simp [putF, hn]
theorem putV_small (n : Nat) (h : n < 128) : putV n = [n.toUInt8] := by simp [putV, putF, h]
theorem putV_big (n : Nat) (h : ¬ n < 128) (h64 : n < 18446744073709551616) : putV n = (n % 128 + 128).toUInt8 :: putV (n / 128) := by
  have e : putF 8 (n / 128) = putF 9 (n / 128) := (putF_more 8 _ (by omega)).symm
  unfold putV
  rw [show putF 9 n = (n % 128 + 128).toUInt8 :: putF 8 (n / 128) from by simp [putF, h], e]
theorem putF_length (f n : Nat) : (putF f n).length ≤ f + 1 ∧ 0 < (putF f n).length := by
  induction f generalizing n with
  | zero => simp [putF]
  | succ f ih =>
    rw [putF]; split
    · simp
    · have := ih (n / 128); simp; omega
theorem putV_length (n : Nat) : (putV n).length ≤ 10 ∧ 0 < (putV n).length := putF_length 9 n
end Go.Proofs.YtjedgiiplebofaaGreatDoor
namespace Go.Proofs.YtjedgiiplebofaaGreatDoor
open Go.RowKit Go
set_option linter.unusedVariables false
set_option linter.unusedSimpArgs false
theorem infoByte : (Tryz.prog.info? 5).map (fun i => (i.zero, i.size, i.bytes)) = some (some (.int .u8 0), 1, 1) := by kernel_rfl
theorem ownsRow_lit (w : World) (base : Nat) (cs : Array Value) (T : TypeId) (hb : base ≤ w.heap.size) (hm : cs.size ≤ 1000) : (w.alloc (.cells cs T)).ownsRow base T 1 (.slice (some ⟨w.heap.size, 0, none⟩) cs.size cs.size) cs.size cs.toList :=
  ⟨by simp, Or.inr ⟨w.heap.size, cs.size, cs, rfl, hb, heap_alloc_new w _, Nat.le_refl _, by unfold maxLen; omega, by omega, by simp [List.take_of_length_le]⟩⟩
theorem or128F : ∀ x : Fin 256, bits BinOp.or IntKind.u8 (x.val : Int) 128 = ((x.val % 128 + 128 : Nat) : Int) := by decide +kernel
theorem or128 (k : Nat) : bits BinOp.or IntKind.u8 ((k : Int) % 256) 128 = ((k % 128 + 128).toUInt8.toNat : Int) := by
  have h := or128F ⟨k % 256, Nat.mod_lt _ (by omega)⟩
  simp only at h
  rw [u8_toNat (by omega), show ((k : Int) % 256) = ((k % 256 : Nat) : Int) from by simp, h]
  congr 1; omega
theorem putV_eq_iff_or (n : Nat) (h : 128 ≤ n) (h64 : n < 18446744073709551616) : putV n = (n % 128 + 128).toUInt8 :: putV (n / 128) := putV_big n (by omega) h64
set_option maxHeartbeats 1000000 in
set_option maxRecDepth 100000 in
theorem varPut_any (n : Nat) (w : World) (h64 : n < 18446744073709551616) :
    Calls Tryz.prog 174 #[.int .u64 n] w (GivesB 5 w (putV n)) := by
  obtain ⟨i0, hi0, hz0, hz1, hz2⟩ := info_parts infoByte
  go_enter Tryz.func174, Tryz.ntmps174
  go_wp2_with fail
  go_loopw [0, 2] (fun m sv wr => ∃ (k : Nat) (pre : List UInt8), m = .int .u64 k ∧ k < 18446744073709551616 ∧ Hid (pre ++ putV k = putV n) ∧ wr.ownsRow w.heap.size 5 1 sv pre.length (bytes pre) ∧ Below w.heap.size w wr) (fun m _ _ => (intOf m).toNat)
  case atStart => exact ⟨n, [], rfl, h64, Lib.hid (by simp), World.ownsRow_nil _ _ _ _, Below.refl _ _⟩
  case round =>
    obtain ⟨k, pre, rfl, hk, heq, hown, hbel⟩ := hrel
    have hl1 : pre.length ≤ 10 := by have h := congrArg List.length heq.out; have := putV_length n; simp at h; omega
    have hsz := hbel.size
    have hob := hown.lt
    have HOWN := Lib.hid hown
    clear hown
    by_cases hge : 128 ≤ k
    · have hp := Lib.hid (putV_eq_iff_or k hge hk)
      have HBB := Lib.hid (or128 k)
      go_wp2_with (at_builtin; go_loud (refine wpList_append_sl _ rfl (.tmp 7) (.tmp 11) _ rfl w.heap.size 5 i0 _ 1 1 Tryz.underlying47 hi0 hz0 hz1 hz2 rfl (by omega) _ pre.length (bytes pre) rfl (HOWN.out.alloc _) _ _ 1 [.int .u8 (bits BinOp.or IntKind.u8 ((k : Int) % 256) 128)] _ rfl (Sl.of_owns (ownsRow_lit wr 0 #[.int .u8 (bits BinOp.or IntKind.u8 ((k : Int) % 256) 128)] 5 (Nat.zero_le _) (by simp)) (by omega)) (by simp [Value.oneCell']) (by unfold maxLen; omega) (by omega) (by simp; omega) ?_); intro v' w2 hown2 hgrow hat)
      have HO2 := Lib.hid (And.intro hown2 (And.intro hgrow hat))
      clear hown2 hgrow hat
      go_wp2_with fail
      go_roundw
      case rel =>
        obtain ⟨hown2, hgrow, hat⟩ := HO2.out
        refine ⟨k / 128, pre ++ [(k % 128 + 128).toUInt8], ?_, by omega, Lib.hid ?_, ?_, ?_⟩
        · go_num
        · rw [List.append_assoc, ← heq.out, hp.out]; rfl
        · rw [HBB.out] at hown2
          simpa [bytes] using hown2
        · exact (hbel.alloc (by omega) _).grown hgrow (by simp; omega) (fun k hk => (hob k hk).1)
      case measure => simp [intOf]; omega
    · have hp := Lib.hid (putV_small k (by omega))
      go_wp2_with (at_builtin; go_loud (refine wpList_append_sl _ rfl (.tmp 13) (.tmp 16) _ rfl w.heap.size 5 i0 _ 1 1 Tryz.underlying47 hi0 hz0 hz1 hz2 rfl (by omega) _ pre.length (bytes pre) rfl (HOWN.out.alloc _) _ _ 1 [.int .u8 (k : Int)] _ rfl (Sl.of_owns (ownsRow_lit wr 0 #[.int .u8 (k : Int)] 5 (Nat.zero_le _) (by simp)) (by omega)) (by simp [Value.oneCell']) (by unfold maxLen; omega) (by omega) (by simp; omega) ?_); intro v' w2 hown2 hgrow hat)
      go_ret
      refine ⟨v', rfl, ?_, (hbel.alloc (by omega) _).grown hgrow (by simp; omega) (fun k hk => (hob k hk).1)⟩
      rw [← heq.out, hp.out]
      simpa [bytes, u8_toNat (show k < 256 by omega)] using hown2
end Go.Proofs.YtjedgiiplebofaaGreatDoor
namespace Go.Proofs.YtjedgiiplebofaaGreatDoor
open Go.RowKit Go
set_option linter.unusedVariables false
set_option linter.unusedSimpArgs false
theorem take_step_eq {α : Type} (l l' : List α) (k : Nat) (h : k < l.length) (h' : k < l'.length) (h0 : l.take k = l'.take k) (h1 : l[k] = l'[k]) : l.take (k + 1) = l'.take (k + 1) := by
  rw [List.take_succ_eq_append_getElem h, List.take_succ_eq_append_getElem h', h0, h1]
theorem byte_ne {a b : UInt8} (h : a ≠ b) : ((a.toNat : Int) != (b.toNat : Int)) = true := by
  simp; intro h2; exact h (UInt8.toNat_inj.1 (by omega))
theorem byte_eq {a b : UInt8} (h : a = b) : ((a.toNat : Int) != (b.toNat : Int)) = false := by subst h; simp
set_option maxHeartbeats 1000000 in
theorem sameBytes_any (S S' : Nat → Prop) (own own' : Bool) (l l' : List UInt8) (v v' : Value) (w : World) (hr : RepB w S own l v) (hr' : RepB w S' own' l' v') :
    Calls Tryz.prog 53 #[v, v'] w fun e w' => e = .returned (.bool (decide (l = l'))) ∧ Below w.heap.size w w' := by
  obtain ⟨hl, ad, cap, rfl, hc⟩ := hr.shape
  obtain ⟨hl', ad', cap', rfl, hc'⟩ := hr'.shape
  by_cases hlen : l.length = l'.length
  · have t1 : ((l.length : Int) != (l'.length : Int)) = false := by simp; omega
    have h1 : l.length ≤ l'.length := by omega
    have h2 : l'.length ≤ l.length := by omega
    have HL := Lib.hid hlen
    clear hlen
    go_enter Tryz.func53, Tryz.ntmps53
    go_wp2_with fail
    go_loopw [5] (fun i wr => ∃ j : Nat, j ≤ l.length ∧ i = .int .i64 j ∧ Hid (l.take j = l'.take j) ∧ Below w.heap.size w wr) (fun i _ => l.length - (intOf i).toNat)
    case atStart => exact ⟨0, by omega, rfl, Lib.hid (by simp), Below.refl _ _⟩
    case round =>
      obtain ⟨j, hj, rfl, heq, hbel⟩ := hrel
      by_cases hlt : j < l.length
      · obtain ⟨bl, off, rfl, _, hcell⟩ := RepB.cell hr (by omega)
        obtain ⟨bl', off', rfl, _, hcell'⟩ := RepB.cell hr' (by omega)
        have g := (hcell j hlt).1
        have g' := (hcell' j (by omega)).1
        have q : wr.cell? ⟨bl, off + j, none⟩ = some (.int .u8 l[j].toNat) := (hbel.cell (World.block_lt_of_cell? w _ g)).trans g
        have q' : wr.cell? ⟨bl', off' + j, none⟩ = some (.int .u8 l'[j].toNat) := (hbel.cell (World.block_lt_of_cell? w _ g')).trans g'
        have x1 : (0 : Int) ≤ (j : Int) := by omega
        have x2 : (j : Int) < (l.length : Int) := by omega
        have x3 : (j : Int) < (l'.length : Int) := by omega
        clear hcell hcell' g g'
        by_cases he : l[j] = l'[j]
        · have HT := Lib.hid (take_step_eq l l' j hlt (by omega) heq.out he)
          have hb := byte_eq he
          clear he
          go_wp2_with fail
          go_quiet (fail)
          go_wp2_with fail
          go_roundw
          case rel => exact ⟨j + 1, by omega, by go_num, HT, below_drewN hbel _⟩
          case measure => simp [intOf]; omega
        · have hb := byte_ne he
          have HF : Hid (l ≠ l') := Lib.hid (fun e => he (by subst e; rfl))
          clear he
          go_wp2_with fail
          go_quiet (fail)
          go_wp2_with fail
          go_ret
          exact ⟨ret_bool (by simpa using HF.out), below_drewN hbel _⟩
      · have hj2 : j = l.length := by omega
        subst hj2
        go_wp2_with fail
        go_ret
        exact ⟨ret_bool (by have h := heq.out; rw [List.take_length, HL.out, List.take_length] at h; simp [h]), hbel⟩
  · have t1 : ((l.length : Int) != (l'.length : Int)) = true := by simp; omega
    have HF : Hid (l ≠ l') := Lib.hid (fun e => hlen (by rw [e]))
    clear hlen
    go_enter Tryz.func53, Tryz.ntmps53
    go_wp2_with fail
    go_ret
    exact ⟨ret_bool (by simpa using HF.out), Below.refl _ _⟩
set_option maxRecDepth 100000 in
theorem cloneBytes_any (S : Nat → Prop) (own : Bool) (l : List UInt8) (v : Value) (w : World) (hr : RepB w S own l v) (h47 : l.length ≤ 140737488355328) :
    Calls Tryz.prog 169 #[v] w (GivesB 5 w l) := by
  obtain ⟨i0, hi0, hz0, hz1, hz2⟩ := info_parts infoByte
  have hl := hr.2.1
  have HR := Lib.hid hr
  obtain ⟨_, ad, cap, rfl, hc⟩ := hr.shape
  clear hr
  have hn := @Lib.run_eql_slice_nil Tryz.prog
  cases ad with
  | none =>
    have hl0 : l = [] := by
      rcases Nat.eq_zero_or_pos l.length with h | h
      · exact List.eq_nil_of_length_eq_zero h
      · obtain ⟨_, _, h1, _⟩ := Sl.cells HR.out h; cases h1
    subst hl0
    go_enter Tryz.func169, Tryz.ntmps169
    go_wp2_with fail
    go_ret
    exact ⟨_, rfl, World.ownsRow_nil _ _ _ _, Below.refl _ _⟩
  | some a =>
    have HS := Lib.hid (Sl.below HR.out (by omega) ((Below.refl _ _).alloc (Nat.le_refl _) (.cells #[] 5)) (Nat.le_refl _))
    have H0 := Lib.hid (ownsRow_lit w w.heap.size #[] 5 (Nat.le_refl _) (by simp))
    go_enter Tryz.func169, Tryz.ntmps169
    go_wp2_with (at_builtin; refine wpList_append_sl _ rfl (.tmp 5) (.tmp 6) _ rfl w.heap.size 5 i0 _ 1 1 Tryz.underlying47 hi0 hz0 hz1 hz2 rfl (by omega) _ 0 [] rfl H0.out _ _ l.length (bytes l) _ rfl HS.out (bytes_one _) (by unfold maxLen; omega) (by omega) (by simp) ?_; intro v' w2 hown2 hgrow hat)
    go_ret
    exact ⟨v', rfl, by simpa using hown2, ((Below.refl _ _).alloc (Nat.le_refl _) _).grown hgrow (by simp) (fun k hk => by cases hk; exact Nat.le_refl _)⟩
end Go.Proofs.YtjedgiiplebofaaGreatDoor
