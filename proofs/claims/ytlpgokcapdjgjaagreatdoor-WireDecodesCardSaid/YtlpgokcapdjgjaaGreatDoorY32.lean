/- Walks. -/
import Derived.Test.YtlpgokcapdjgjaaGreatDoorY18
import Derived.Laws.EntriesVeiled
import Derived.WalkLawsBesides
set_option maxHeartbeats 1000000
set_option maxRecDepth 20000
namespace Go.Proofs.YtlpgokcapdjgjaaGreatDoor
open Go.RowKit Go
set_option linter.unusedVariables false
set_option linter.unusedSimpArgs false
theorem wo (d : Nat) : ∀ (S : Nat → Prop) (own : Bool) (e : Ex) (v : Value) (w : World), e.depth ≤ d → d ≤ 1000 → aT w S own e v →
  Calls Tryz.prog 138 #[v] w fun r w' => r = .returned (.int .i64 e.depth) ∧ Below w.1.size w w' := by
 induction d with
 | zero => intro S own e v w hd; cases e; simp [Ex.depth] at hd
 | succ d ih =>
  intro S own e v w hd hd2 hrep;obtain ⟨k, a, b, ps⟩ := e;simp only [aT] at hrep;obtain ⟨s, xs, rfl, hk1, hk2, ha, hb, hs, hes⟩ := hrep;obtain ⟨hxl, hlen, ad, cap, rfl, hcap⟩ := hs.shape;have IH := hid ih;clear ih;have HXL := hid hxl;clear hxl;simp only [Ex.depth] at hd ⊢
  go_enter Tryz.func138, Tryz.ntmps138
  go_wp2_with fail
  go_loopw [3, 4] (fun n i wr => ∃ j : Nat, j ≤ ps.length ∧ i = .int .i64 j ∧ n = .int .i64 (Ex.depths (ps.take j)) ∧ Below (w.1.size + 1) (w.alloc (.cells #[.int .i64 k, .int .u64 a, .int .u64 b, .slice ad ps.length cap] 62)) wr) (fun _ i _ => ps.length - (intOf i).toNat)
  case atStart => exact ⟨0, by omega, rfl, by simp [Ex.depths], br⟩
  case round =>
   obtain ⟨j, hj, rfl, rfl, hbel⟩ := hrel;have hbox : ∀ o, wr.cell? ⟨w.1.size, o, none⟩ = (w.alloc (.cells #[.int .i64 k, .int .u64 a, .int .u64 b, .slice ad ps.length cap] _)).cell? ⟨w.1.size, o, none⟩ := fun o => hbel.cell (by simp)
   have hsz : w.1.size + 1 ≤ wr.1.size := (by have := hbel.size; simpa using this);have hb0 : Below w.1.size w wr := (br.alloc nl _).trans (hbel.mono (by simp));by_cases hlt : j < ps.length
   ·obtain ⟨bl, off, k', a', b', ad', n', cap', rfl, _, g0, g1, g2, g3, _, ge⟩ := (hes.below hb0 nl).part (hs.below (by omega) hb0 nl) j hlt
    have hdj := Ex.depths_ge ps j hlt;have hdt := Ex.depths_take_le ps j;have HT := hid (Ex.depths_take ps j hlt)
    go_wp2_with (go_at_call 138; refine (IH.out _ _ ps[j] _ _ (by omega) (by omega) ge).mono ?_; rintro e w' ⟨rfl, hb1⟩)
    go_roundw
    case rel => exact ⟨j + 1, by omega, by go_num, by rw [HT.out]; go_num, hbel.trans (hb1.mono (by omega))⟩
    case measure => simp [intOf]; omega
   ·have hj2 : j = ps.length := by omega
    subst hj2;go_wp2_with fail;go_ret
    exact ⟨by simp, hb0⟩
theorem wu (d : Nat) : ∀ (S : Nat → Prop) (own : Bool) (e : Ex) (v : Value) (w : World), e.size ≤ d → d ≤ 1000 → aT w S own e v →
  Calls Tryz.prog 139 #[v] w fun r w' => r = .returned (.int .i64 e.size) ∧ Below w.1.size w w' := by
 induction d with
 | zero => intro S own e v w hd; have := e.size_pos; omega
 | succ d ih =>
  intro S own e v w hd hd2 hrep;obtain ⟨k, a, b, ps⟩ := e;simp only [aT] at hrep;obtain ⟨s, xs, rfl, hk1, hk2, ha, hb, hs, hes⟩ := hrep;obtain ⟨hxl, hlen, ad, cap, rfl, hcap⟩ := hs.shape;have IH := hid ih;clear ih;have HXL := hid hxl;clear hxl;simp only [Ex.size] at hd ⊢
  go_enter Tryz.func139, Tryz.ntmps139
  go_wp2_with fail
  go_loopw [3, 4] (fun n i wr => ∃ j : Nat, j ≤ ps.length ∧ i = .int .i64 j ∧ n = .int .i64 (Ex.sizes (ps.take j) + 1) ∧ Below (w.1.size + 1) (w.alloc (.cells #[.int .i64 k, .int .u64 a, .int .u64 b, .slice ad ps.length cap] 62)) wr) (fun _ i _ => ps.length - (intOf i).toNat)
  case atStart => exact ⟨0, by omega, rfl, by simp [Ex.sizes], br⟩
  case round =>
   obtain ⟨j, hj, rfl, rfl, hbel⟩ := hrel;have hbox : ∀ o, wr.cell? ⟨w.1.size, o, none⟩ = (w.alloc (.cells #[.int .i64 k, .int .u64 a, .int .u64 b, .slice ad ps.length cap] _)).cell? ⟨w.1.size, o, none⟩ := fun o => hbel.cell (by simp)
   have hsz : w.1.size + 1 ≤ wr.1.size := (by have := hbel.size; simpa using this);have hb0 : Below w.1.size w wr := (br.alloc nl _).trans (hbel.mono (by simp));by_cases hlt : j < ps.length
   ·obtain ⟨bl, off, k', a', b', ad', n', cap', rfl, _, g0, g1, g2, g3, _, ge⟩ := (hes.below hb0 nl).part (hs.below (by omega) hb0 nl) j hlt
    have hdj := Ex.sizes_ge ps j hlt;have HT := hid (Ex.sizes_take ps j hlt)
    go_wp2_with (go_at_call 139; refine (IH.out _ _ ps[j] _ _ (by omega) (by omega) ge).mono ?_; rintro e w' ⟨rfl, hb1⟩)
    go_roundw
    case rel => exact ⟨j + 1, by omega, by go_num, by rw [HT.out]; exact congrArg _ (by omega), hbel.trans (hb1.mono (by omega))⟩
    case measure => simp [intOf]; omega
   ·have hj2 : j = ps.length := by omega
    subst hj2;go_wp2_with fail;go_ret
    exact ⟨by simp, hb0⟩
theorem uk (d : Nat) : ∀ (S : Nat → Prop) (own : Bool) (e : Ex) (v : Value) (w : World), e.depth ≤ d → d ≤ 1000 → aT w S own e v →
  Calls Tryz.prog 127 #[v] w fun r w' => r = .returned (.int .i64 e.depth) ∧ Below w.1.size w w' := by
 induction d with
 | zero => intro S own e v w hd; cases e; simp [Ex.depth] at hd
 | succ d ih =>
  intro S own e v w hd hd2 hrep;obtain ⟨k, a, b, ps⟩ := e;simp only [aT] at hrep;obtain ⟨s, xs, rfl, hk1, hk2, ha, hb, hs, hes⟩ := hrep;obtain ⟨hxl, hlen, ad, cap, rfl, hcap⟩ := hs.shape;have IH := hid ih;clear ih;have HXL := hid hxl;clear hxl;simp only [Ex.depth] at hd ⊢
  go_enter Tryz.func127, Tryz.ntmps127
  go_wp2_with fail
  go_loopw [3, 9] (fun n i wr => ∃ j : Nat, j ≤ ps.length ∧ i = .int .i64 j ∧ n = .int .i64 (Ex.depths (ps.take j)) ∧ Below (w.1.size + 1) (w.alloc (.cells #[.int .i64 k, .int .u64 a, .int .u64 b, .slice ad ps.length cap] 70)) wr) (fun _ i _ => ps.length - (intOf i).toNat)
  case atStart => exact ⟨0, by omega, rfl, by simp [Ex.depths], br⟩
  case round =>
   obtain ⟨j, hj, rfl, rfl, hbel⟩ := hrel;have hbox : ∀ o, wr.cell? ⟨w.1.size, o, none⟩ = (w.alloc (.cells #[.int .i64 k, .int .u64 a, .int .u64 b, .slice ad ps.length cap] _)).cell? ⟨w.1.size, o, none⟩ := fun o => hbel.cell (by simp)
   have hsz : w.1.size + 1 ≤ wr.1.size := (by have := hbel.size; simpa using this);have hb0 : Below w.1.size w wr := (br.alloc nl _).trans (hbel.mono (by simp));by_cases hlt : j < ps.length
   ·obtain ⟨bl, off, k', a', b', ad', n', cap', rfl, _, g0, g1, g2, g3, _, ge⟩ := (hes.below hb0 nl).part (hs.below (by omega) hb0 nl) j hlt
    have hdj := Ex.depths_ge ps j hlt;have hdt := Ex.depths_take_le ps j;have HT := hid (Ex.depths_take ps j hlt)
    go_wp2_with (go_at_call 127; refine (IH.out _ _ ps[j] _ _ (by omega) (by omega) (ge.below (br.alloc nl _) nl)).mono ?_; rintro e w' ⟨rfl, hb1⟩)
    go_roundw
    case rel => exact ⟨j + 1, by omega, by go_num, by rw [HT.out]; go_num, (hbel.alloc (by omega) _).trans (hb1.mono (by simp; omega))⟩
    case measure => simp [intOf]; omega
   ·have hj2 : j = ps.length := by omega
    subst hj2;go_wp2_with fail;go_ret
    exact ⟨by simp, hb0⟩
theorem ul (d : Nat) : ∀ (S : Nat → Prop) (own : Bool) (e : Ex) (v : Value) (w : World), e.size ≤ d → d ≤ 1000 → aT w S own e v →
  Calls Tryz.prog 128 #[v] w fun r w' => r = .returned (.int .i64 e.size) ∧ Below w.1.size w w' := by
 induction d with
 | zero => intro S own e v w hd; have := e.size_pos; omega
 | succ d ih =>
  intro S own e v w hd hd2 hrep;obtain ⟨k, a, b, ps⟩ := e;simp only [aT] at hrep;obtain ⟨s, xs, rfl, hk1, hk2, ha, hb, hs, hes⟩ := hrep;obtain ⟨hxl, hlen, ad, cap, rfl, hcap⟩ := hs.shape;have IH := hid ih;clear ih;have HXL := hid hxl;clear hxl;simp only [Ex.size] at hd ⊢
  go_enter Tryz.func128, Tryz.ntmps128
  go_wp2_with fail
  go_loopw [3, 9] (fun n i wr => ∃ j : Nat, j ≤ ps.length ∧ i = .int .i64 j ∧ n = .int .i64 (Ex.sizes (ps.take j) + 1) ∧ Below (w.1.size + 1) (w.alloc (.cells #[.int .i64 k, .int .u64 a, .int .u64 b, .slice ad ps.length cap] 70)) wr) (fun _ i _ => ps.length - (intOf i).toNat)
  case atStart => exact ⟨0, by omega, rfl, by simp [Ex.sizes], br⟩
  case round =>
   obtain ⟨j, hj, rfl, rfl, hbel⟩ := hrel;have hbox : ∀ o, wr.cell? ⟨w.1.size, o, none⟩ = (w.alloc (.cells #[.int .i64 k, .int .u64 a, .int .u64 b, .slice ad ps.length cap] _)).cell? ⟨w.1.size, o, none⟩ := fun o => hbel.cell (by simp)
   have hsz : w.1.size + 1 ≤ wr.1.size := (by have := hbel.size; simpa using this);have hb0 : Below w.1.size w wr := (br.alloc nl _).trans (hbel.mono (by simp));by_cases hlt : j < ps.length
   ·obtain ⟨bl, off, k', a', b', ad', n', cap', rfl, _, g0, g1, g2, g3, _, ge⟩ := (hes.below hb0 nl).part (hs.below (by omega) hb0 nl) j hlt
    have hdj := Ex.sizes_ge ps j hlt;have HT := hid (Ex.sizes_take ps j hlt)
    go_wp2_with (go_at_call 128; refine (IH.out _ _ ps[j] _ _ (by omega) (by omega) (ge.below (br.alloc nl _) nl)).mono ?_; rintro e w' ⟨rfl, hb1⟩)
    go_roundw
    case rel => exact ⟨j + 1, by omega, by go_num, by rw [HT.out]; exact congrArg _ (by omega), (hbel.alloc (by omega) _).trans (hb1.mono (by simp; omega))⟩
    case measure => simp [intOf]; omega
   ·have hj2 : j = ps.length := by omega
    subst hj2;go_wp2_with fail;go_ret
    exact ⟨by simp, hb0⟩
theorem xP (k : Int) (a b n : Nat) (ad : Option Addr) (cap : Nat) (w : World) (hk1 : -9223372036854775808 ≤ k) (hk2 : k ≤ 9223372036854775807) (ha : a < 18446744073709551616) (hb : b < 18446744073709551616) (hn : n ≤ 9223372036854775807) :
  Calls Tryz.prog 191 #[.agg #[.int .i64 k, .int .u64 a, .int .u64 b, .slice ad n cap]] w fun e w' => e = .returned (.bool (iR k a b n)) ∧ Below w.1.size w w' := by
 go_enter Tryz.func191, Tryz.ntmps191
 go_wp2
 all_goals (go_ret; exact ⟨aR (by first | (simp_all [iR, Dq, Dr]; done) | (simp_all [iR, Dq, Dr]; omega)), br.alloc nl _⟩)
theorem ww (d : Nat) : ∀ (S : Nat → Prop) (own : Bool) (e : Ex) (v : Value) (w : World), e.depth ≤ d → d ≤ 1000 → aT w S own e v →
  Calls Tryz.prog 137 #[v] w fun r w' => r = .returned (.bool e.okR) ∧ Below w.1.size w w' := by
 induction d with
 | zero => intro S own e v w hd; cases e; simp [Ex.depth] at hd
 | succ d ih =>
  intro S own e v w hd hd2 hrep;obtain ⟨k, a, b, ps⟩ := e;simp only [aT] at hrep;obtain ⟨s, xs, rfl, hk1, hk2, ha, hb, hs, hes⟩ := hrep;obtain ⟨hxl, hlen, ad, cap, rfl, hcap⟩ := hs.shape;have IH := hid ih;clear ih;have HXL := hid hxl;clear hxl;simp only [Ex.depth, Ex.okR] at hd ⊢
  go_enter Tryz.func137, Tryz.ntmps137
  go_wp2_with fail
  go_loopw [3] (fun i wr => ∃ j : Nat, j ≤ ps.length ∧ i = .int .i64 j ∧ Hid (Ex.okRs (ps.take j) = true) ∧ Below (w.1.size + 1) (w.alloc (.cells #[.int .i64 k, .int .u64 a, .int .u64 b, .slice ad ps.length cap] 62)) wr) (fun i _ => ps.length - (intOf i).toNat)
  case atStart => exact ⟨0, by omega, rfl, hid (by simp [Ex.okRs]), br⟩
  case round =>
   obtain ⟨j, hj, rfl, hok, hbel⟩ := hrel;have hbox : ∀ o, wr.cell? ⟨w.1.size, o, none⟩ = (w.alloc (.cells #[.int .i64 k, .int .u64 a, .int .u64 b, .slice ad ps.length cap] _)).cell? ⟨w.1.size, o, none⟩ := fun o => hbel.cell (by simp)
   have hsz : w.1.size + 1 ≤ wr.1.size := (by have := hbel.size; simpa using this);have hb0 : Below w.1.size w wr := (br.alloc nl _).trans (hbel.mono (by simp));by_cases hlt : j < ps.length
   ·obtain ⟨bl, off, k', a', b', ad', n', cap', rfl, _, g0, g1, g2, g3, _, ge⟩ := (hes.below hb0 nl).part (hs.below (by omega) hb0 nl) j hlt
    have hdj := Ex.depths_ge ps j hlt;go_wp2_with fail;refine (IH.out _ _ ps[j] _ _ (by omega) (by omega) ge).mono ?_;rintro e w' ⟨rfl, hb1⟩;by_cases hc : ps[j].okR = true
    ·rw [hc]
     have HT : Hid (Ex.okRs (ps.take (j + 1)) = true) := hid (by rw [Ex.okRs_take ps j hlt, hok.out, hc]; rfl);clear hc;go_wp2_with fail;go_roundw
     case rel => exact ⟨j + 1, by omega, by go_num, HT, hbel.trans (hb1.mono (by omega))⟩
     case measure => simp [intOf]; omega
    ·have hc' : ps[j].okR = false := by simpa using hc
     rw [hc'];have HF := hid (Ex.okRs_false ps j hlt hc');clear hc hc';go_wp2_with fail;go_ret
     exact ⟨aR (by rw [HF.out]; simp), hb0.trans (hb1.mono (by omega))⟩
   ·have hj2 : j = ps.length := by omega
    subst hj2;go_wp2_with fail;refine (xP k a b ps.length ad cap _ hk1 hk2 ha hb hlen).mono ?_;rintro e w' ⟨rfl, hb1⟩;go_wp2_with fail;go_ret
    exact ⟨aR (by have := hok.out; rw [List.take_length] at this; rw [this]; simp), hb0.trans (hb1.mono (by omega))⟩
theorem wz (S : Nat → Prop) (own : Bool) (e : Ex) (v : Value) (w : World) (hsz : e.size ≤ 900) (hrep : aT w S own e v) :
  Calls Tryz.prog 94 #[v] w fun r w' => r = .returned (.bool e.right) ∧ Below w.1.size w w' := by
 have hds := e.depth_le_size;obtain ⟨c0, c1, c2, c3, rfl⟩ := hrep.four;have hb0 : Below w.1.size w (w.alloc (.cells #[c0, c1, c2, c3] 62)) := br.alloc nl _
 go_enter Tryz.func94, Tryz.ntmps94
 go_wp2_with fail;refine (ww e.depth _ _ e _ _ nl (by omega) (hrep.below hb0 nl)).mono ?_;rintro e1 w1 ⟨rfl, hb1⟩;have hb2 : Below w.1.size w w1 := hb0.trans (hb1.mono (by simp));have hbox : ∀ o, w1.cell? ⟨w.1.size, o, none⟩ = (w.alloc (.cells #[c0, c1, c2, c3] 62)).cell? ⟨w.1.size, o, none⟩ := fun o => hb1.cell (by simp)
 have hsz1 : w.1.size + 1 ≤ w1.1.size := by have := hb1.size; simpa using this
 by_cases h1 : e.okR = true
 ·rw [h1]
  go_wp2_with fail;refine (wo e.depth _ _ e _ _ nl (by omega) (hrep.below hb2 nl)).mono ?_;rintro e2 w2 ⟨rfl, hb3⟩;have hb4 : Below w.1.size w w2 := hb2.trans (hb3.mono (by omega));have hbox2 : ∀ o, w2.cell? ⟨w.1.size, o, none⟩ = (w.alloc (.cells #[c0, c1, c2, c3] 62)).cell? ⟨w.1.size, o, none⟩ := fun o => (hb3.cell (by show w.1.size < _; omega)).trans (hbox o)
  clear hbox;have hsz2 : w1.1.size ≤ w2.1.size := hb3.size;by_cases h2 : e.depth ≤ 8
  ·have h2' : decide ((e.depth : Int) ≤ 8) = true := by simp; omega
   go_wp2_with fail;refine (wu e.size _ _ e _ _ nl (by omega) (hrep.below hb4 nl)).mono ?_;rintro e3 w3 ⟨rfl, hb5⟩;clear h2';go_wp2_with fail;go_ret
   exact ⟨aR (by simp [Ex.right, h1, h2]; omega), hb4.trans (hb5.mono (by omega))⟩
  ·have h2' : decide ((e.depth : Int) ≤ 8) = false := by simp; omega
   go_wp2_with fail;go_ret
   exact ⟨aR (by simp [Ex.right, h1, h2]), hb4⟩
 ·have h1' : e.okR = false := by simpa using h1
  rw [h1'];go_wp2_with fail;go_ret
  exact ⟨aR (by simp [Ex.right, h1']), hb2⟩
def dA (n : Int) : Int := if n = 2 then 1 else if n = 3 then 1 else if n = 4 then 2 else 0
def df (n : Int) : Int := if n = 5 then 1 else 0
def dN (n : Int) : Int := if n = 5 then 1 else if n = 6 then 32 else if n = 7 then 32 else 0
def qZ (n : Int) (blk : Nat) : Value :=
 if n = 1 then .func (.func 235) #[] #[] else if n = 2 then .func (.func 236) #[] #[] else if n = 3 then .func (.func 237) #[] #[]
 else if n = 4 then .func (.func 238) #[] #[] else if n = 5 then .func (.func 239) #[] #[.pointer (some ⟨blk, 0, none⟩)]
 else if n = 6 then .func (.func 240) #[] #[.pointer (some ⟨blk, 0, none⟩)] else .func (.func 241) #[] #[.pointer (some ⟨blk, 0, none⟩)]
def wB (n : Int) (w : World) (e : Ending) (w' : World) : Prop :=
 (1 ≤ n ∧ n ≤ 7 → ∃ blk, w.1.size ≤ blk ∧ w'.1[blk]? = some (.cells #[.func (.func 232) #[] #[]] 326 (0, 0)) ∧
  e = .returned (.tuple #[.agg #[.int .i64 (dA n), .int .i64 (df n), .int .i64 (dN n), qZ n blk], .bool true])) ∧
 (¬ (1 ≤ n ∧ n ≤ 7) → e = .returned (.tuple #[.agg #[.int .i64 0, .int .i64 0, .int .i64 0, .nilFunc], .bool false])) ∧ Below w.1.size w w'
def rf (blk : Nat) : Value := .agg #[.int .i64 0, .int .i64 0, .int .i64 0, .nilFunc,
 .int .i64 0, .int .i64 0, .int .i64 0, .func (.func 235) #[] #[],
 .int .i64 1, .int .i64 0, .int .i64 0, .func (.func 236) #[] #[],
 .int .i64 1, .int .i64 0, .int .i64 0, .func (.func 237) #[] #[],
 .int .i64 2, .int .i64 0, .int .i64 0, .func (.func 238) #[] #[],
 .int .i64 0, .int .i64 1, .int .i64 1, .func (.func 239) #[] #[.pointer (some ⟨blk, 0, none⟩)],
 .int .i64 0, .int .i64 0, .int .i64 32, .func (.func 240) #[] #[.pointer (some ⟨blk, 0, none⟩)],
 .int .i64 0, .int .i64 0, .int .i64 32, .func (.func 241) #[] #[.pointer (some ⟨blk, 0, none⟩)]]
theorem um (w : World) : Calls Tryz.prog 211 #[] w fun e w' => e = .returned (rf (w.1.size + 1)) ∧ Below w.1.size w w' ∧
  w'.1[w.1.size + 1]? = some (.cells #[.func (.func 232) #[] #[]] 326 (0, 0)) ∧ w.1.size + 1 < w'.1.size := by
 go_enter Tryz.func211, Tryz.ntmps211
 go_wp2_with (refine wpList_store_row rfl 305 (.tmp 0) (.tmp 12) rfl rfl w.1.size rfl _ rfl 305 #[.int .i64 0, .int .i64 0, .int .i64 0, .nilFunc, .int .i64 0, .int .i64 0, .int .i64 0, .nilFunc, .int .i64 0, .int .i64 0, .int .i64 0, .nilFunc, .int .i64 0, .int .i64 0, .int .i64 0, .nilFunc, .int .i64 0, .int .i64 0, .int .i64 0, .nilFunc, .int .i64 0, .int .i64 0, .int .i64 0, .nilFunc, .int .i64 0, .int .i64 0, .int .i64 0, .nilFunc, .int .i64 0, .int .i64 0, .int .i64 0, .nilFunc] (heap_alloc2_old _ _ _) (by kernel_rfl) rfl (by simp [Value.oneCell']) ?_)
 refine aC (v := rf (w.1.size + 1)) (results_cell_row rfl _ _ w.1.size 305 _ _ _ rfl (aB _ _ _ _ _ _ (heap_alloc2_old _ _ _)) Tryz.underlying305 rfl (by kernel_rfl)) rfl
  ⟨rfl, below_setRow ((br.alloc nl _).alloc (by simp) _) _ _ nl, ?_, ?_⟩
 ·rw [setRow_other _ _ _ _ (by omega)]; exact aK _ _ _ (by simp)
 ·simp
theorem Dz (k : Nat) (h : 1 ≤ k ∧ k ≤ 7) (blk : Nat) (w : World) :
  (Instr.index 305 (rf blk) (.int .i64 k)).run Tryz.prog w = .ok (.agg #[.int .i64 (dA k), .int .i64 (df k), .int .i64 (dN k), qZ k blk]) w := by
 have hc : k = 1 ∨ k = 2 ∨ k = 3 ∨ k = 4 ∨ k = 5 ∨ k = 6 ∨ k = 7 := by omega
 rcases hc with rfl | rfl | rfl | rfl | rfl | rfl | rfl
 all_goals (show _ = _; kernel_rfl)
theorem dY (k : Int) (blk : Nat) : ∃ fn caps, qZ k blk = .func fn #[] caps := by
 unfold qZ
 repeat' split
 all_goals exact ⟨_, _, rfl⟩
theorem uo (w : World) : Calls Tryz.prog 211 #[] w fun e w' => ∃ T, e = .returned T ∧ (∀ (k : Nat), 1 ≤ k → k ≤ 7 → ∀ w'', ∃ fn caps, qZ k (w.1.size + 1) = .func fn #[] caps ∧
   (Instr.index 305 T (.int .i64 k)).run Tryz.prog w'' = .ok (.agg #[.int .i64 (dA k), .int .i64 (df k), .int .i64 (dN k), .func fn #[] caps]) w'') ∧ Below w.1.size w w' ∧
  w'.1[w.1.size + 1]? = some (.cells #[.func (.func 232) #[] #[]] 326 (0, 0)) ∧ w.1.size + 1 < w'.1.size :=
 (um w).mono fun e w' ⟨he, h2, h3, h4⟩ => ⟨_, he, fun k h1 h7 w'' => by
  obtain ⟨fn, caps, hfn⟩ := dY k (w.1.size + 1);exact ⟨fn, caps, hfn, by rw [← hfn]; exact Dz k ⟨h1, h7⟩ _ w''⟩, h2, h3, h4⟩
theorem Cc (k : Nat) (h1 : 1 ≤ k) (h7 : k ≤ 7) (w : World) : Calls Tryz.prog 185 #[.int .i64 k] w (wB k w) := by
 have hd1 : decide ((k : Int) < 1) = false := by simp; omega
 have hd2 : decide ((8 : Int) ≤ (k : Int)) = false := by simp; omega
 go_enter Tryz.func185, Tryz.ntmps185
 go_wp2_with fail;refine (uo _).mono ?_;rintro e w' ⟨T, rfl, hT, hb, hh, hz⟩;have hi := hT k h1 h7;clear hT;simp only [aD] at hi hh hz;obtain ⟨hc, hf⟩ := xE hb;have hz0 : w.1.size < w'.1.size := by omega
 have HH := hid hh;clear hh;obtain ⟨fn, caps, hfn, _⟩ := hi w;have HF := hid hfn;have hi2 : ∀ w'', (Instr.index 305 T (.int .i64 k)).run Tryz.prog w'' = .ok (.agg #[.int .i64 (dA k), .int .i64 (df k), .int .i64 (dN k), .func fn #[] caps]) w'' := by
  intro w'';obtain ⟨fn', caps', hfn', hr⟩ := hi w'';rw [hfn] at hfn';simp only [Value.func.injEq, true_and] at hfn';obtain ⟨rfl, rfl⟩ := hfn';exact hr
 clear hfn hi;go_wp2_with fail;refine aC (v := .tuple #[.agg #[.int .i64 (dA k), .int .i64 (df k), .int .i64 (dN k), .func fn #[] caps], .bool true]) (by simp [results, Tryz.results185, go_sem, hc, hz0]) rfl ⟨fun _ => ⟨w.1.size + 1 + 1, by omega, ?_, by rw [HF.out]⟩, fun h => absurd (by omega) h, ?_⟩
 ·rw [ay _ _ _ _ (by simp; omega), ay _ _ _ _ (by simp; omega), ay _ _ _ _ (by simp; omega), ay _ _ _ _ (by simp; omega)]; exact HH.out
 ·exact ((((br.alloc nl _).trans (hb.mono (by simp))).setCell (by simp) _).setCell (by simp) _).setCell (by simp) _ |>.setCell (by simp) _
theorem zL (n : Int) (h : ¬ (1 ≤ n ∧ n ≤ 7)) (w : World) (h0 : -9223372036854775808 ≤ n) (h1 : n ≤ 9223372036854775807) : Calls Tryz.prog 185 #[.int .i64 n] w (wB n w) := by
 have hp : wB n w (.returned (.tuple #[.agg #[.int .i64 0, .int .i64 0, .int .i64 0, .nilFunc], .bool false])) (w.alloc (.cells #[.int .i64 0, .int .i64 0, .int .i64 0, .nilFunc] 279)) :=
  ⟨fun h' => absurd h' h, fun _ => rfl, br.alloc nl _⟩
 have HP := hid hp;clear hp;by_cases hn : n < 1
 ·clear h
  go_enter Tryz.func185, Tryz.ntmps185
  go_wp2_with fail;exact aC (v := .tuple #[.agg #[.int .i64 0, .int .i64 0, .int .i64 0, .nilFunc], .bool false]) (by simp [results, Tryz.results185, go_sem]) rfl HP.out
 ·have h8 : 8 ≤ n := by omega
  clear h
  go_enter Tryz.func185, Tryz.ntmps185
  go_wp2_with fail;exact aC (v := .tuple #[.agg #[.int .i64 0, .int .i64 0, .int .i64 0, .nilFunc], .bool false]) (by simp [results, Tryz.results185, go_sem]) rfl HP.out
theorem fF (n : Int) (w : World) (h0 : -9223372036854775808 ≤ n) (h1 : n ≤ 9223372036854775807) : Calls Tryz.prog 185 #[.int .i64 n] w (wB n w) := by
 by_cases h : 1 ≤ n ∧ n ≤ 7
 ·obtain ⟨k, rfl⟩ := Int.eq_ofNat_of_zero_le (show 0 ≤ n by omega)
  exact Cc k (by omega) (by omega) w
 ·exact zL n h w h0 h1
def zM (w : World) (S : Nat → Prop) (own : Bool) (es : List Ex) (fid : Nat) (caps : Array Value) (p : Ex → Bool) : Prop :=
 ∀ i (h : i < es.length) (v : Value) (w' : World), Below w.1.size w w' → aT w' S own es[i] v → Calls Tryz.prog fid (#[v] ++ caps) w' fun e w'' => e = .returned (.bool (p es[i])) ∧ Below w'.1.size w' w''
def Enters (fid : Nat) : Prop := ∀ (args : Array Value) (w : World), (callFunc fid args).run Tryz.prog w = .ok (.enter fid args) w
theorem rq {α : Type} (p : α → Bool) (l : List α) (k : Nat) (h : k < l.length) (h0 : (l.take k).any p = false) (h1 : p l[k] = false) : (l.take (k + 1)).any p = false := by
 rw [fH l k h, List.any_append, h0]; simp [h1]
theorem wC {α : Type} (p : α → Bool) (l : List α) (k : Nat) (h : k < l.length) (h1 : p l[k] = true) : l.any p = true :=
 List.any_eq_true.2 ⟨l[k], List.getElem_mem h, h1⟩
theorem xQ (S : Nat → Prop) (own : Bool) (es : List Ex) (xs : List Value) (ad : Option Addr) (cap : Nat) (fid : Nat) (caps : Array Value) (p : Ex → Bool) (w : World)
  (hs : Sl w S own 4 es.length xs (.slice ad es.length cap)) (hes : aX w S own es xs) (hcall : Enters fid) (hf : zM w S own es fid caps p) :
  Calls Tryz.prog 212 #[.slice ad es.length cap, .func (.func fid) #[] caps] w fun e w' => (∃ r : Int, e = .returned (.int .i64 r) ∧ -1 ≤ r ∧ r ≤ 9223372036854775807 ∧ decide (0 ≤ r) = es.any p) ∧ Below w.1.size w w' := by
 have hlen := hs.2.1;have HF := hid hf;clear hf;unfold Enters at hcall
 go_enter Tryz.func212, Tryz.ntmps212
 go_wp2_with fail
 go_loopw [5, 8] (fun _ i wr => ∃ j : Nat, j ≤ es.length ∧ i = .int .i64 j ∧ Hid ((es.take j).any p = false) ∧ Below w.1.size w wr) (fun _ i _ => es.length - (intOf i).toNat)
 case atStart => exact ⟨0, by omega, rfl, hid (by simp), br⟩
 case round =>
  obtain ⟨j, hj, rfl, hno, hbel⟩ := hrel;by_cases hlt : j < es.length
  ·obtain ⟨bl, off, k', a', b', ad', n', cap', rfl, _, g0, g1, g2, g3, _, ge⟩ := (hes.below hbel nl).part (hs.below (by omega) hbel nl) j hlt
   go_wp2_with fail;refine (HF.out j hlt _ wr hbel ge).mono ?_;rintro e w' ⟨rfl, hb1⟩;have hsz := hbel.size;by_cases hp : p es[j] = true
   ·rw [hp]
    have HP := hid (wC p es j hlt hp);clear hp;go_wp2_with fail;go_ret
    exact ⟨⟨j, rfl, by omega, by omega, by rw [HP.out]; simp⟩, hbel.trans (hb1.mono (by omega))⟩
   ·have hp' : p es[j] = false := by simpa using hp
    rw [hp'];have HP := hid (rq p es j hlt hno.out hp');clear hp hp';go_wp2_with fail;go_roundw
    case rel => exact ⟨j + 1, by omega, by go_num, HP, hbel.trans (hb1.mono (by omega))⟩
    case measure => simp [intOf]; omega
  ·have hj2 : j = es.length := by omega
   subst hj2;go_wp2_with fail;go_ret
   exact ⟨⟨-1, rfl, by omega, by omega, by have := hno.out; rw [List.take_length] at this; rw [this]; rfl⟩, hbel⟩
theorem xR (S : Nat → Prop) (own : Bool) (es : List Ex) (xs : List Value) (ad : Option Addr) (cap : Nat) (fid : Nat) (caps : Array Value) (p : Ex → Bool) (w : World)
  (hs : Sl w S own 4 es.length xs (.slice ad es.length cap)) (hes : aX w S own es xs) (hcall : Enters fid) (hf : zM w S own es fid caps p) :
  Calls Tryz.prog 186 #[.slice ad es.length cap, .func (.func fid) #[] caps] w fun e w' => e = .returned (.bool (es.any p)) ∧ Below w.1.size w w' := by
 have HI := hid (xQ S own es xs ad cap fid caps p w hs hes hcall hf);clear hf hcall hs hes
 go_enter Tryz.func186, Tryz.ntmps186
 go_wp2_with fail;refine HI.out.mono ?_;rintro e w' ⟨⟨r, rfl, h0, h1, hr⟩, hb⟩;have HR := hid hr;clear hr;go_wp2_with fail;go_ret
 exact ⟨aR HR.out, hb⟩
theorem wD : Enters 187 := fun _ _ => by kernel_rfl
theorem zN (k : Nat) (a b n : Nat) (h : 1 ≤ k ∧ k ≤ 7) : jO k a b n =
  !(decide ((n : Int) < df k) || decide (dN k < (n : Int)) || decide (dA k < 2) && decide (0 < b) || decide (dA k < 1) && decide (0 < a) || (dA k == 2) && decide (a ≤ b)) := by
 have hc : k = 1 ∨ k = 2 ∨ k = 3 ∨ k = 4 ∨ k = 5 ∨ k = 6 ∨ k = 7 := by omega
 rw [Bool.eq_iff_iff];rcases hc with rfl | rfl | rfl | rfl | rfl | rfl | rfl
 all_goals (simp [jO, iR, df, dN, dA]; try omega)
theorem zO (k : Int) (a b n : Nat) (h : ¬ (1 ≤ k ∧ k ≤ 7)) : iR k a b n = false := by
 simp only [iR];rw [if_neg (by omega), if_neg (by omega), if_neg (by omega), if_neg (by omega), if_neg (by omega)]
theorem DC (ps : List Ex) : Ex.okPs ps = !(ps.any fun e => !e.okP) := by
 rw [Ex.okPs_iff, List.all_eq_not_any_not]
theorem ru (d : Nat) : ∀ (S : Nat → Prop) (own : Bool) (e : Ex) (v : Value) (w : World), e.depth ≤ d → d ≤ 1000 → aT w S own e v →
  Calls Tryz.prog 126 #[v] w fun r w' => r = .returned (.bool e.okP) ∧ Below w.1.size w w' := by
 induction d with
 | zero => intro S own e v w hd; cases e; simp [Ex.depth] at hd
 | succ d ih =>
  intro S own e v w hd hd2 hrep;obtain ⟨k, a, b, ps⟩ := e;simp only [aT] at hrep;obtain ⟨s, xs, rfl, hk1, hk2, ha, hb, hs, hes⟩ := hrep;obtain ⟨hxl, hlen, ad, cap, rfl, hcap⟩ := hs.shape;have IH := hid ih;clear ih;have HXL := hid hxl;clear hxl;simp only [Ex.depth, Ex.okP] at hd ⊢;have hb0 : Below w.1.size w (w.alloc (.cells #[.int .i64 k, .int .u64 a, .int .u64 b, .slice ad ps.length cap] 70)) := br.alloc nl _;have hasks : ∀ w1, Below w.1.size w w1 → zM w1 S own ps 187 #[] (fun e => !e.okP) := by
   intro w1 hb1 i hi v w' hb2 hrep;have hdi := Ex.depths_ge ps i hi;obtain ⟨c0, c1, c2, c3, rfl⟩ := hrep.four;show Calls Tryz.prog 187 #[.agg #[c0, c1, c2, c3]] _ _
   go_enter Tryz.func187, Tryz.ntmps187
   go_wp2_with fail;refine (IH.out S own ps[i] _ _ (by omega) (by omega) (hrep.below (br.alloc nl _) nl)).mono ?_;rintro e w'' ⟨rfl, hb3⟩;go_wp2_with fail;go_ret
   exact ⟨rfl, (br.alloc nl _).trans (hb3.mono (by simp))⟩
  have HA := hid hasks;clear hasks
  go_enter Tryz.func126, Tryz.ntmps126
  go_wp2_with fail;refine (fF k _ hk1 hk2).mono ?_;rintro e1 w1 ⟨hin, hout, hb1⟩;have hb2 : Below w.1.size w w1 := hb0.trans (hb1.mono (by simp));obtain ⟨hc, hf⟩ := xE hb1;have hz1 : w.1.size + 1 ≤ w1.1.size := by have := hb1.size; simpa using this
  have hz0 : w.1.size < w1.1.size := by omega
  by_cases hk : 1 ≤ k ∧ k ≤ 7
  ·obtain ⟨blk, hblk, hheap, rfl⟩ := hin hk
   clear hin hout hheap hblk;obtain ⟨kn, rfl⟩ := Int.eq_ofNat_of_zero_le (show 0 ≤ k by omega);have HN := hid (zN kn a b ps.length (by omega));obtain ⟨fn, caps, hfn⟩ := dY kn blk;rw [hfn];clear hfn;generalize dA kn = c1 at *;generalize df kn = c2 at *;generalize dN kn = c3 at *;have hhs := hs.below (by omega) hb2 nl;have hhe := hes.below hb2 nl;have hbx : ∀ o, Below w.1.size w (w1.alloc o) := fun o => hb2.alloc (by omega) _
   have hbx1 : ∀ o, Below w1.1.size w1 (w1.alloc o) := fun o => br.alloc nl _
   have HX := hid (au hbx hbx1);clear hbx hbx1;have HS := hid (au hhs hhe);clear hhs hhe;go_wp2_with fail
   all_goals first
    | (refine (xR S own ps xs ad cap _ #[] (fun e => !e.okP) _ (HS.out.1.below (by omega) (HX.out.2 _) nl) (HS.out.2.below (HX.out.2 _) nl) wD (HA.out _ (HX.out.1 _))).mono ?_
       rintro e w' ⟨rfl, hb3⟩;have hT : jO (kn : Int) a b ps.length = true := by
        rw [HN.out]; simp only [Bool.not_eq_true', Bool.or_eq_false_iff, Bool.and_eq_false_iff, decide_eq_false_iff_not, beq_eq_false_iff_ne, Bool.not_eq_eq_eq_not, Bool.not_true]; omega
       have HT := hid hT;clear hT;go_wp2_with fail;go_ret
       exact ⟨aR (by rw [HT.out, DC]; simp), (HX.out.1 _).trans (hb3.mono (by simp; omega))⟩)
    | (have hT : jO (kn : Int) a b ps.length = false := by
        rw [HN.out]; simp only [Bool.not_eq_false', Bool.or_eq_true, aH, decide_eq_true_eq, beq_iff_eq, Bool.not_eq_eq_eq_not, Bool.not_false]; omega
       go_ret
       exact ⟨aR (by rw [hT]; rfl), HX.out.1 _⟩)
  ·have he := hout hk
   subst he;clear hin hout;go_wp2_with fail;go_ret
   exact ⟨aR (by rw [jO, zO _ _ _ _ hk]; rfl), hb2.alloc (by have := hb2.size; omega) _⟩
end Go.Proofs.YtlpgokcapdjgjaaGreatDoor
