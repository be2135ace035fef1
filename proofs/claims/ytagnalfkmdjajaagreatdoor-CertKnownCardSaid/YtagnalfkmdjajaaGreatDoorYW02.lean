/- Walks. -/
import Derived.Test.YtagnalfkmdjajaaGreatDoorYW01
import Derived.BigQuiet
import Derived.Deep.QuietTactic
import Derived.WalkSpells
import Derived.WalkSmall
set_option maxHeartbeats 1000000
set_option maxRecDepth 100000
namespace Go.Proofs.YtagnalfkmdjajaaGreatDoor
open Go.RowKit Go
set_option linter.unusedVariables false
set_option linter.unusedSimpArgs false
theorem fu {α : Type} (l l' : List α) (k : Nat) (h : k < l.length) (h' : k < l'.length) (h0 : l.take k = l'.take k) (h1 : l[k] = l'[k]) : l.take (k + 1) = l'.take (k + 1) := by
 rw [List.take_succ_eq_append_getElem h, List.take_succ_eq_append_getElem h', h0, h1]
theorem DF {a b : UInt8} (h : a ≠ b) : ((a.toNat : Int) != (b.toNat : Int)) = true := by
 simp; intro h2; exact h (UInt8.toNat_inj.1 (by omega))
theorem DI {a b : UInt8} (h : a = b) : ((a.toNat : Int) != (b.toNat : Int)) = false := by subst h; simp
theorem dV (S S' : Nat → Prop) (own own' : Bool) (l l' : List UInt8) (v v' : Value) (w : World) (hr : au w S own l v) (hr' : au w S' own' l' v') :
  Calls Tryz.prog 13 #[v, v'] w fun e w' => e = .returned (.bool (decide (l = l'))) ∧ Below w.heap.size w w' := by
 obtain ⟨hl, ad, cap, rfl, hc⟩ := hr.shape
 obtain ⟨hl', ad', cap', rfl, hc'⟩ := hr'.shape
 by_cases hlen : l.length = l'.length
 ·have t1 : ((l.length : Int) != (l'.length : Int)) = false := by simp; omega
  have h1 : l.length ≤ l'.length := by omega
  have h2 : l'.length ≤ l.length := by omega
  have HL := hid hlen
  clear hlen
  go_enter Tryz.func13, Tryz.ntmps13
  go_wp2_with fail
  go_loopw [5] (fun i wr => ∃ j : Nat, j ≤ l.length ∧ i = .int .i64 j ∧ Hid (l.take j = l'.take j) ∧ Below w.heap.size w wr) (fun i _ => l.length - (intOf i).toNat)
  case atStart => exact ⟨0, by omega, rfl, hid (by simp), br⟩
  case round =>
   obtain ⟨j, hj, rfl, heq, hbel⟩ := hrel
   by_cases hlt : j < l.length
   ·obtain ⟨bl, off, rfl, _, hcell⟩ := au.cell hr (by omega)
    obtain ⟨bl', off', rfl, _, hcell'⟩ := au.cell hr' (by omega)
    have g := (hcell j hlt).1
    have g' := (hcell' j (by omega)).1
    have q : wr.cell? ⟨bl, off + j, none⟩ = some (.int .u8 l[j].toNat) := (hbel.cell (World.block_lt_of_cell? w _ g)).trans g
    have q' : wr.cell? ⟨bl', off' + j, none⟩ = some (.int .u8 l'[j].toNat) := (hbel.cell (World.block_lt_of_cell? w _ g')).trans g'
    have x1 : (0 : Int) ≤ (j : Int) := by omega
    have x2 : (j : Int) < (l.length : Int) := by omega
    have x3 : (j : Int) < (l'.length : Int) := by omega
    clear hcell hcell' g g'
    by_cases he : l[j] = l'[j]
    ·have HT := hid (fu l l' j hlt (by omega) heq.out he)
     have hb := DI he
     clear he
     go_wp2_with fail
     go_quiet (fail)
     go_wp2_with fail
     go_roundw
     case rel => exact ⟨j + 1, by omega, by go_num, HT, below_drewN hbel _⟩
     case measure => simp [intOf]; omega
    ·have hb := DF he
     have HF : Hid (l ≠ l') := hid (fun e => he (by subst e; rfl))
     clear he
     go_wp2_with fail
     go_quiet (fail)
     go_wp2_with fail
     go_ret
     exact ⟨ai (by simpa using HF.out), below_drewN hbel _⟩
   ·have hj2 : j = l.length := by omega
    subst hj2
    go_wp2_with fail
    go_ret
    exact ⟨ai (by have h := heq.out; rw [List.take_length, HL.out, List.take_length] at h; simp [h]), hbel⟩
 ·have t1 : ((l.length : Int) != (l'.length : Int)) = true := by simp; omega
  have HF : Hid (l ≠ l') := hid (fun e => hlen (by rw [e]))
  clear hlen
  go_enter Tryz.func13, Tryz.ntmps13
  go_wp2_with fail
  go_ret
  exact ⟨ai (by simpa using HF.out), br⟩
theorem gW (S : Nat → Prop) (own : Bool) (l : List UInt8) (v : Value) (w : World) (hr : au w S own l v) (h47 : l.length ≤ 140737488355328) :
  Calls Tryz.prog 14 #[v] w (jo 5 w l) := by
 obtain ⟨i0, hi0, hz0, hz1, hz2⟩ := info_parts infoByte
 have hl := hr.2.1
 have HR := hid hr
 obtain ⟨_, ad, cap, rfl, hc⟩ := hr.shape
 clear hr
 go_enter Tryz.func14, Tryz.ntmps14
 go_wp2_with (at_builtin; refine af _ rfl (.tmp 4) (.tmp 5) _ rfl w.heap.size 5 i0 _ 1 1 Tryz.underlying29 hi0 hz0 hz1 hz2 rfl (by omega) _ 0 [] rfl (World.ownsRow_nil _ _ _ _) _ _ l.length (bytes l) _ rfl HR.out (dU _) (by unfold maxLen; omega) (by omega) (by omega) ?_; intro v' w2 hown2 hgrow hat)
 go_ret
 exact ⟨v', rfl, by simpa using hown2, br.grown hgrow (by omega) (fun k hk => by cases hk)⟩
theorem iH (S : Nat → Prop) (own : Bool) (l : List UInt8) (v : Value) (w : World) (hr : au w S own l v) (h47 : l.length ≤ 140737488355328) :
  Calls Tryz.prog 68 #[v] w (jo 5 w l) := by
 obtain ⟨i0, hi0, hz0, hz1, hz2⟩ := info_parts infoByte
 have hl := hr.2.1
 have HR := hid hr
 obtain ⟨_, ad, cap, rfl, hc⟩ := hr.shape
 clear hr
 have hn := @Lib.run_eql_slice_nil Tryz.prog
 cases ad with
 | none =>
  have hl0 : l = [] := by
   rcases Nat.eq_zero_or_pos l.length with h | h
   ·exact List.eq_nil_of_length_eq_zero h
   ·obtain ⟨_, _, h1, _⟩ := Sl.cells HR.out h; cases h1
  subst hl0
  go_enter Tryz.func68, Tryz.ntmps68
  go_wp2_with fail
  go_ret
  exact ⟨_, rfl, World.ownsRow_nil _ _ _ _, br⟩
 | some a =>
  have HS := hid (Sl.below HR.out (by omega) (br.alloc nl (.cells #[] 5)) nl)
  have H0 := hid (ownsRow_lit w w.heap.size #[] 5 nl (by simp))
  go_enter Tryz.func68, Tryz.ntmps68
  go_wp2_with (at_builtin; refine af _ rfl (.tmp 5) (.tmp 6) _ rfl w.heap.size 5 i0 _ 1 1 Tryz.underlying29 hi0 hz0 hz1 hz2 rfl (by omega) _ 0 [] rfl H0.out _ _ l.length (bytes l) _ rfl HS.out (dU _) (by unfold maxLen; omega) (by omega) (by simp) ?_; intro v' w2 hown2 hgrow hat)
  go_ret
  exact ⟨v', rfl, by simpa using hown2, (br.alloc nl _).grown hgrow (by simp) (fun k hk => by cases hk; exact Nat.le_refl _)⟩
theorem qy (B N : Nat) (S : Nat → Prop) (hSB : ∀ b, S b → B ≤ b ∧ b < N) (l : List UInt8) (v : Value) (w : World) (hBN : B ≤ N) (hr : au w S true l v) :
  Calls Tryz.prog 54 #[v] w fun e w' => e = .returned (.tuple #[]) ∧ Below B w w' ∧ eu (fun b => ¬ S b) w w' := by
 obtain ⟨hl, ad, cap, rfl, hc⟩ := hr.shape
 go_enter Tryz.func54, Tryz.ntmps54
 go_wp2_with fail
 go_loopw [2] (fun i wr => ∃ j : Nat, j ≤ l.length ∧ i = .int .i64 j ∧ Below B w wr ∧ eu (fun b => ¬ S b) w wr ∧ (∀ b o, wr.frozen? ⟨b, o, none⟩ = w.frozen? ⟨b, o, none⟩) ∧ (∀ a, (wr.cell? a).isSome = (w.cell? a).isSome)) (fun i _ => l.length - (intOf i).toNat)
 case atStart => exact ⟨0, by omega, rfl, br, fun _ _ _ => rfl, fun _ _ => rfl, fun _ => rfl⟩
 case round =>
  obtain ⟨j, hj, rfl, hbel, hkeep, hfro, hsome⟩ := hrel
  by_cases hlt : j < l.length
  ·obtain ⟨bl, off, rfl, hS, hcell⟩ := au.cell hr (by omega)
   obtain ⟨g, gf⟩ := hcell j hlt
   have hb := hSB bl hS
   have q : (wr.cell? ⟨bl, off + j, none⟩).isSome = true := by rw [hsome, g]; rfl
   obtain ⟨u, hu⟩ := Option.isSome_iff_exists.1 q
   have f : wr.frozen? ⟨bl, off + j, none⟩ = false := by rw [hfro]; exact gf rfl
   have HK := hid (And.intro hkeep (And.intro hfro hsome))
   clear hcell hkeep hfro hsome q hSB g gf
   go_wp2_with fail
   go_roundw
   case rel =>
    refine ⟨j + 1, by omega, by go_num, hbel.setCell (by simp; omega) _, ?_, ?_, ?_⟩
    ·exact HK.out.1.trans hbel.size (fun b hb _ => Below.heap_setCell _ _ _ _ (fun e => hb (by rw [e]; exact hS)))
    ·intro b o; rw [World.frozen?_setCell]; exact HK.out.2.1 b o
    ·intro a
     by_cases e : (⟨bl, off + j, none⟩ : Addr) = a
     ·subst e; rw [World.cell?_setCell_same _ _ _ hu, ← HK.out.2.2, hu]; rfl
     ·rw [World.cell?_setCell_other _ _ _ _ e]; exact HK.out.2.2 a
   case measure => simp [intOf]; omega
  ·go_wp2_with fail
   go_end0
   exact ⟨rfl, hbel, hkeep⟩
end Go.Proofs.YtagnalfkmdjajaaGreatDoor
