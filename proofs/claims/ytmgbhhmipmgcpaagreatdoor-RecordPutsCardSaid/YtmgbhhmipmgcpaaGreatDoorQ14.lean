/- Walks. -/
import Derived.Test.YtmgbhhmipmgcpaaGreatDoorQ19
import Derived.Test.YtmgbhhmipmgcpaaGreatDoorChecked
import Derived.BigQuiet
import Derived.Deep.QuietTactic
import Derived.WalkSpells
import Derived.WalkSmall
set_option maxHeartbeats 1000000
set_option maxRecDepth 100000
namespace Go.Proofs.YtmgbhhmipmgcpaaGreatDoor
open Go.RowKit Go
set_option linter.unusedVariables false
set_option linter.unusedSimpArgs false
def ik : Nat → Nat → List UInt8
 | 0, n => [n.toUInt8]
 | f + 1, n => if n < 128 then [n.toUInt8] else (n % 128 + 128).toUInt8 :: ik f (n / 128)
def bf (n : Nat) : List UInt8 := ik 9 n
theorem ug (f : Nat) : ∀ n, n < 128 ^ (f + 1) → ik (f + 1) n = ik f n := by
 induction f with
 | zero => intro n h; simp at h; simp [ik, h]
 | succ f ih =>
  intro n h
  rw [ik]
  by_cases hn : n < 128
  ·rw [if_pos hn]; simp [ik, hn]
  ·rw [if_neg hn, ih _ (by rw [Nat.pow_succ] at h; omega)]; simp [ik, hn]
theorem jc (n : Nat) (h : n < 128) : bf n = [n.toUInt8] := by simp [bf, ik, h]
theorem pG (n : Nat) (h : ¬ n < 128) (h64 : n < 18446744073709551616) : bf n = (n % 128 + 128).toUInt8 :: bf (n / 128) := by
 have e : ik 8 (n / 128) = ik 9 (n / 128) := (ug 8 _ (by omega)).symm
 unfold bf
 rw [show ik 9 n = (n % 128 + 128).toUInt8 :: ik 8 (n / 128) from by simp [ik, h], e]
theorem pI (f n : Nat) : (ik f n).length ≤ f + 1 ∧ 0 < (ik f n).length := by
 induction f generalizing n with
 | zero => simp [ik]
 | succ f ih =>
  rw [ik]; split
  ·simp
  ·have := ih (n / 128); simp; omega
theorem aS (n : Nat) : (bf n).length ≤ 10 ∧ 0 < (bf n).length := pI 9 n
theorem infoByte : (Tryz.prog.info? 5).map (fun i => (i.zero, i.size, i.bytes)) = some (some (.int .u8 0), 1, 1) := by kernel_rfl
theorem ownsRow_lit (w : World) (base : Nat) (cs : Array Value) (T : TypeId) (hb : base ≤ w.heap.size) (hm : cs.size ≤ 1000) : (w.alloc (.cells cs T)).ownsRow base T 1 (.slice (some ⟨w.heap.size, 0, none⟩) cs.size cs.size) cs.size cs.toList :=
 ⟨by simp, Or.inr ⟨w.heap.size, cs.size, cs, rfl, hb, heap_alloc_new w _, Nat.le_refl _, by unfold maxLen; omega, by omega, by simp [List.take_of_length_le]⟩⟩
theorem pJ (d : Nat) : ∀ (n : Nat) (w : World), n < 128 ^ (d + 1) → n < 18446744073709551616 →
  Calls Tryz.prog 76 #[.int .u64 n] w (bJ 5 w (bf n)) := by
 obtain ⟨i0, hi0, hz0, hz1, hz2⟩ := info_parts infoByte
 induction d with
 | zero =>
  intro n w hn _
  have hn' : n < 128 := by simpa using hn
  clear hn
  go_enter Tryz.func76, Tryz.ntmps76
  go_wp2_with fail
  go_ret
  refine ⟨_, rfl, ?_, br.alloc nl _⟩
  rw [jc n hn']
  simpa [bytes, fZ (show n < 256 by omega)] using ownsRow_lit w w.heap.size #[.int .u8 n] 5 nl (by simp)
 | succ d ih =>
  intro n w hn h64
  have hdiv : n / 128 < 128 ^ (d + 1) := by rw [Nat.pow_succ] at hn; omega
  have h := ih (n / 128) (w.alloc (.cells #[.int .u8 ((n : Int) % 128 + 128)] 5)) hdiv (by omega)
  rw [show ((n / 128 : Nat) : Int) = (n : Int) / 128 from by simp] at h
  have IH := hid h
  clear h
  clear ih hdiv hn
  have hpl := aS (n / 128)
  by_cases hn' : n < 128
  ·go_enter Tryz.func76, Tryz.ntmps76
   go_wp2_with fail
   go_ret
   refine ⟨_, rfl, ?_, br.alloc nl _⟩
   rw [jc n hn']
   simpa [bytes, fZ (show n < 256 by omega)] using ownsRow_lit w w.heap.size #[.int .u8 n] 5 nl (by simp)
  ·have hpb := hid (pG n hn' h64)
   go_enter Tryz.func76, Tryz.ntmps76
   go_wp2_with fail
   refine IH.out.mono ?_
   rintro e w1 ⟨v1, rfl, hown1, hb1⟩
   have hown0 : w1.ownsRow w.heap.size 5 1 (.slice (some ⟨w.heap.size, 0, none⟩) 1 1) 1 [.int .u8 ((n : Int) % 128 + 128)] :=
    ownsRow_below (ownsRow_lit w w.heap.size #[.int .u8 ((n : Int) % 128 + 128)] 5 nl (by simp)) hb1 nl
   have HS := hid (Sl.of_owns hown1 (by omega))
   have H0 := hid hown0
   clear hown1 hown0
   have hsz := hb1.size
   simp at hsz
   go_wp2_with (at_builtin; refine ai _ rfl (.tmp 14) (.tmp 17) _ rfl w.heap.size 5 i0 _ 1 1 Tryz.underlying22 hi0 hz0 hz1 hz2 rfl (by omega) _ 1 [.int .u8 ((n : Int) % 128 + 128)] rfl H0.out _ _ _ (bytes (bf (n / 128))) _ rfl HS.out (aO _) (by unfold maxLen; omega) (by omega) (by omega) ?_; intro v' w2 hown2 hgrow hat)
   go_ret
   refine ⟨v', rfl, ?_, ((br.alloc nl _).trans (hb1.mono (by simp))).grown hgrow (by omega) (fun k hk => by cases hk; exact Nat.le_refl _)⟩
   rw [hpb.out]
   have hu : ((n % 128 + 128).toUInt8.toNat : Int) = (n : Int) % 128 + 128 := by rw [fZ (by omega)]; simp
   have h := hown2
   rw [show [Value.int .u8 ((n : Int) % 128 + 128)] ++ bytes (bf (n / 128)) = bytes ((n % 128 + 128).toUInt8 :: bf (n / 128)) from by rw [bytes_cons, hu]; rfl] at h
   rw [List.length_cons, Nat.add_comm]
   exact h
theorem xA : ∀ x : Fin 256, bits BinOp.or IntKind.u8 (x.val : Int) 128 = ((x.val % 128 + 128 : Nat) : Int) := by decide +kernel
theorem yc (k : Nat) : bits BinOp.or IntKind.u8 ((k : Int) % 256) 128 = ((k % 128 + 128).toUInt8.toNat : Int) := by
 have h := xA ⟨k % 256, Nat.mod_lt _ (by omega)⟩
 simp only at h
 rw [fZ (by omega), show ((k : Int) % 256) = ((k % 256 : Nat) : Int) from by simp, h]
 congr 1; omega
theorem kP (n : Nat) (h : 128 ≤ n) (h64 : n < 18446744073709551616) : bf n = (n % 128 + 128).toUInt8 :: bf (n / 128) := pG n (by omega) h64
theorem qX (n : Nat) (w : World) (h64 : n < 18446744073709551616) :
  Calls Tryz.prog 78 #[.int .u64 n] w (bJ 5 w (bf n)) := by
 obtain ⟨i0, hi0, hz0, hz1, hz2⟩ := info_parts infoByte
 go_enter Tryz.func78, Tryz.ntmps78
 go_wp2_with fail
 go_loopw [0, 2] (fun m sv wr => ∃ (k : Nat) (pre : List UInt8), m = .int .u64 k ∧ k < 18446744073709551616 ∧ Hid (pre ++ bf k = bf n) ∧ wr.ownsRow w.heap.size 5 1 sv pre.length (bytes pre) ∧ Below w.heap.size w wr) (fun m _ _ => (intOf m).toNat)
 case atStart => exact ⟨n, [], rfl, h64, hid (by simp), World.ownsRow_nil _ _ _ _, br⟩
 case round =>
  obtain ⟨k, pre, rfl, hk, heq, hown, hbel⟩ := hrel
  have hl1 : pre.length ≤ 10 := by have h := congrArg List.length heq.out; have := aS n; simp at h; omega
  have hsz := hbel.size
  have hob := hown.lt
  have HOWN := hid hown
  clear hown
  by_cases hge : 128 ≤ k
  ·have hp := hid (kP k hge hk)
   have HBB := hid (yc k)
   go_wp2_with (at_builtin; go_loud (refine ai _ rfl (.tmp 7) (.tmp 11) _ rfl w.heap.size 5 i0 _ 1 1 Tryz.underlying22 hi0 hz0 hz1 hz2 rfl (by omega) _ pre.length (bytes pre) rfl (HOWN.out.alloc _) _ _ 1 [.int .u8 (bits BinOp.or IntKind.u8 ((k : Int) % 256) 128)] _ rfl (Sl.of_owns (ownsRow_lit wr 0 #[.int .u8 (bits BinOp.or IntKind.u8 ((k : Int) % 256) 128)] 5 (Nat.zero_le _) (by simp)) (by omega)) (by simp [Value.oneCell']) (by unfold maxLen; omega) (by omega) (by simp; omega) ?_); intro v' w2 hown2 hgrow hat)
   have HO2 := hid (And.intro hown2 (And.intro hgrow hat))
   clear hown2 hgrow hat
   go_wp2_with fail
   go_roundw
   case rel =>
    obtain ⟨hown2, hgrow, hat⟩ := HO2.out
    refine ⟨k / 128, pre ++ [(k % 128 + 128).toUInt8], ?_, by omega, hid ?_, ?_, ?_⟩
    ·go_num
    ·rw [List.append_assoc, ← heq.out, hp.out]; rfl
    ·rw [HBB.out] at hown2
     simpa [bytes] using hown2
    ·exact (hbel.alloc (by omega) _).grown hgrow (by simp; omega) (fun k hk => (hob k hk).1)
   case measure => simp [intOf]; omega
  ·have hp := hid (jc k (by omega))
   go_wp2_with (at_builtin; go_loud (refine ai _ rfl (.tmp 13) (.tmp 16) _ rfl w.heap.size 5 i0 _ 1 1 Tryz.underlying22 hi0 hz0 hz1 hz2 rfl (by omega) _ pre.length (bytes pre) rfl (HOWN.out.alloc _) _ _ 1 [.int .u8 (k : Int)] _ rfl (Sl.of_owns (ownsRow_lit wr 0 #[.int .u8 (k : Int)] 5 (Nat.zero_le _) (by simp)) (by omega)) (by simp [Value.oneCell']) (by unfold maxLen; omega) (by omega) (by simp; omega) ?_); intro v' w2 hown2 hgrow hat)
   go_ret
   refine ⟨v', rfl, ?_, (hbel.alloc (by omega) _).grown hgrow (by simp; omega) (fun k hk => (hob k hk).1)⟩
   rw [← heq.out, hp.out]
   simpa [bytes, fZ (show k < 256 by omega)] using hown2
theorem nN {α : Type} (l l' : List α) (k : Nat) (h : k < l.length) (h' : k < l'.length) (h0 : l.take k = l'.take k) (h1 : l[k] = l'[k]) : l.take (k + 1) = l'.take (k + 1) := by
 rw [List.take_succ_eq_append_getElem h, List.take_succ_eq_append_getElem h', h0, h1]
theorem wK {a b : UInt8} (h : a ≠ b) : ((a.toNat : Int) != (b.toNat : Int)) = true := by
 simp; intro h2; exact h (UInt8.toNat_inj.1 (by omega))
theorem wL {a b : UInt8} (h : a = b) : ((a.toNat : Int) != (b.toNat : Int)) = false := by subst h; simp
theorem iR (S S' : Nat → Prop) (own own' : Bool) (l l' : List UInt8) (v v' : Value) (w : World) (hr : bM w S own l v) (hr' : bM w S' own' l' v') :
  Calls Tryz.prog 34 #[v, v'] w fun e w' => e = .returned (.bool (decide (l = l'))) ∧ Below w.heap.size w w' := by
 obtain ⟨hl, ad, cap, rfl, hc⟩ := hr.shape
 obtain ⟨hl', ad', cap', rfl, hc'⟩ := hr'.shape
 by_cases hlen : l.length = l'.length
 ·have t1 : ((l.length : Int) != (l'.length : Int)) = false := by simp; omega
  have h1 : l.length ≤ l'.length := by omega
  have h2 : l'.length ≤ l.length := by omega
  have HL := hid hlen
  clear hlen
  go_enter Tryz.func34, Tryz.ntmps34
  go_wp2_with fail
  go_loopw [5] (fun i wr => ∃ j : Nat, j ≤ l.length ∧ i = .int .i64 j ∧ Hid (l.take j = l'.take j) ∧ Below w.heap.size w wr) (fun i _ => l.length - (intOf i).toNat)
  case atStart => exact ⟨0, by omega, rfl, hid (by simp), br⟩
  case round =>
   obtain ⟨j, hj, rfl, heq, hbel⟩ := hrel
   by_cases hlt : j < l.length
   ·obtain ⟨bl, off, rfl, _, hcell⟩ := bM.cell hr (by omega)
    obtain ⟨bl', off', rfl, _, hcell'⟩ := bM.cell hr' (by omega)
    have g := (hcell j hlt).1
    have g' := (hcell' j (by omega)).1
    have q : wr.cell? ⟨bl, off + j, none⟩ = some (.int .u8 l[j].toNat) := (hbel.cell (World.block_lt_of_cell? w _ g)).trans g
    have q' : wr.cell? ⟨bl', off' + j, none⟩ = some (.int .u8 l'[j].toNat) := (hbel.cell (World.block_lt_of_cell? w _ g')).trans g'
    have x1 : (0 : Int) ≤ (j : Int) := by omega
    have x2 : (j : Int) < (l.length : Int) := by omega
    have x3 : (j : Int) < (l'.length : Int) := by omega
    clear hcell hcell' g g'
    by_cases he : l[j] = l'[j]
    ·have HT := hid (nN l l' j hlt (by omega) heq.out he)
     have hb := wL he
     clear he
     go_wp2_with fail
     go_quiet (fail)
     go_wp2_with fail
     go_roundw
     case rel => exact ⟨j + 1, by omega, by go_num, HT, below_drewN hbel _⟩
     case measure => simp [intOf]; omega
    ·have hb := wK he
     have HF : Hid (l ≠ l') := hid (fun e => he (by subst e; rfl))
     clear he
     go_wp2_with fail
     go_quiet (fail)
     go_wp2_with fail
     go_ret
     exact ⟨aj (by simpa using HF.out), below_drewN hbel _⟩
   ·have hj2 : j = l.length := by omega
    subst hj2
    go_wp2_with fail
    go_ret
    exact ⟨aj (by have h := heq.out; rw [List.take_length, HL.out, List.take_length] at h; simp [h]), hbel⟩
 ·have t1 : ((l.length : Int) != (l'.length : Int)) = true := by simp; omega
  have HF : Hid (l ≠ l') := hid (fun e => hlen (by rw [e]))
  clear hlen
  go_enter Tryz.func34, Tryz.ntmps34
  go_wp2_with fail
  go_ret
  exact ⟨aj (by simpa using HF.out), br⟩
theorem kQ (S : Nat → Prop) (own : Bool) (l : List UInt8) (v : Value) (w : World) (hr : bM w S own l v) (h47 : l.length ≤ 140737488355328) :
  Calls Tryz.prog 71 #[v] w (bJ 5 w l) := by
 obtain ⟨i0, hi0, hz0, hz1, hz2⟩ := info_parts infoByte
 have hl := hr.2.1
 have HR := hid hr
 obtain ⟨_, ad, cap, rfl, hc⟩ := hr.shape
 clear hr
 have hn := @Lib.run_eql_slice_nil Tryz.prog
 cases ad with
 | none =>
  have hl0 : l = [] := by
   rcases Nat.eq_zero_or_pos l.length with h | h
   ·exact List.eq_nil_of_length_eq_zero h
   ·obtain ⟨_, _, h1, _⟩ := Sl.cells HR.out h; cases h1
  subst hl0
  go_enter Tryz.func71, Tryz.ntmps71
  go_wp2_with fail
  go_ret
  exact ⟨_, rfl, World.ownsRow_nil _ _ _ _, br⟩
 | some a =>
  have HS := hid (Sl.below HR.out (by omega) (br.alloc nl (.cells #[] 5)) nl)
  have H0 := hid (ownsRow_lit w w.heap.size #[] 5 nl (by simp))
  go_enter Tryz.func71, Tryz.ntmps71
  go_wp2_with (at_builtin; refine ai _ rfl (.tmp 5) (.tmp 6) _ rfl w.heap.size 5 i0 _ 1 1 Tryz.underlying22 hi0 hz0 hz1 hz2 rfl (by omega) _ 0 [] rfl H0.out _ _ l.length (bytes l) _ rfl HS.out (aO _) (by unfold maxLen; omega) (by omega) (by simp) ?_; intro v' w2 hown2 hgrow hat)
  go_ret
  exact ⟨v', rfl, by simpa using hown2, (br.alloc nl _).grown hgrow (by simp) (fun k hk => by cases hk; exact Nat.le_refl _)⟩
theorem kR (B N : Nat) (S : Nat → Prop) (hSB : ∀ b, S b → B ≤ b ∧ b < N) (l : List UInt8) (v : Value) (w : World) (hBN : B ≤ N) (hr : bM w S true l v) :
  Calls Tryz.prog 20 #[v] w fun e w' => e = .returned (.tuple #[]) ∧ Below B w w' ∧ bB (fun b => ¬ S b) w w' := by
 obtain ⟨hl, ad, cap, rfl, hc⟩ := hr.shape
 go_enter Tryz.func20, Tryz.ntmps20
 go_wp2_with fail
 go_loopw [2] (fun i wr => ∃ j : Nat, j ≤ l.length ∧ i = .int .i64 j ∧ Below B w wr ∧ bB (fun b => ¬ S b) w wr ∧ (∀ b o, wr.frozen? ⟨b, o, none⟩ = w.frozen? ⟨b, o, none⟩) ∧ (∀ a, (wr.cell? a).isSome = (w.cell? a).isSome)) (fun i _ => l.length - (intOf i).toNat)
 case atStart => exact ⟨0, by omega, rfl, br, fun _ _ _ => rfl, fun _ _ => rfl, fun _ => rfl⟩
 case round =>
  obtain ⟨j, hj, rfl, hbel, hkeep, hfro, hsome⟩ := hrel
  by_cases hlt : j < l.length
  ·obtain ⟨bl, off, rfl, hS, hcell⟩ := bM.cell hr (by omega)
   obtain ⟨g, gf⟩ := hcell j hlt
   have hb := hSB bl hS
   have q : (wr.cell? ⟨bl, off + j, none⟩).isSome = true := by rw [hsome, g]; rfl
   obtain ⟨u, hu⟩ := Option.isSome_iff_exists.1 q
   have f : wr.frozen? ⟨bl, off + j, none⟩ = false := by rw [hfro]; exact gf rfl
   have HK := hid (And.intro hkeep (And.intro hfro hsome))
   clear hcell hkeep hfro hsome q hSB g gf
   go_wp2_with fail
   go_roundw
   case rel =>
    refine ⟨j + 1, by omega, by go_num, hbel.setCell (by simp; omega) _, ?_, ?_, ?_⟩
    ·exact HK.out.1.trans hbel.size (fun b hb _ => Below.heap_setCell _ _ _ _ (fun e => hb (by rw [e]; exact hS)))
    ·intro b o; rw [World.frozen?_setCell]; exact HK.out.2.1 b o
    ·intro a
     by_cases e : (⟨bl, off + j, none⟩ : Addr) = a
     ·subst e; rw [World.cell?_setCell_same _ _ _ hu, ← HK.out.2.2, hu]; rfl
     ·rw [World.cell?_setCell_other _ _ _ _ e]; exact HK.out.2.2 a
   case measure => simp [intOf]; omega
  ·go_wp2_with fail
   go_end0
   exact ⟨rfl, hbel, hkeep⟩
end Go.Proofs.YtmgbhhmipmgcpaaGreatDoor
