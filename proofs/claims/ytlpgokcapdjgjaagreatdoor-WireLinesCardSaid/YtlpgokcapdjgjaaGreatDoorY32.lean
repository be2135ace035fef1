/- Walks. -/
import Derived.Test.YtlpgokcapdjgjaaGreatDoorY35
import Derived.Laws.EntriesVeiled
import Derived.WalkLawsBesides
set_option maxHeartbeats 1000000
set_option maxRecDepth 20000
namespace Go.Proofs.YtlpgokcapdjgjaaGreatDoor
open Go.RowKit Go
set_option linter.unusedVariables false
set_option linter.unusedSimpArgs false
theorem tV (d : Nat) : ∀ (S : Nat → Prop) (own : Bool) (e : Ex) (v : Value) (w : World), e.depth ≤ d → d ≤ 1000 → ax w S own e v →
  Calls Tryz.prog 138 #[v] w fun r w' => r = .returned (.int .i64 e.depth) ∧ Below w.heap.size w w' := by
 induction d with
 | zero => intro S own e v w hd; cases e; simp [Ex.depth] at hd
 | succ d ih =>
  intro S own e v w hd hd2 hrep
  obtain ⟨k, a, b, ps⟩ := e
  simp only [ax] at hrep
  obtain ⟨s, xs, rfl, hk1, hk2, ha, hb, hs, hes⟩ := hrep
  obtain ⟨hxl, hlen, ad, cap, rfl, hcap⟩ := hs.shape
  have IH := hid ih
  clear ih
  have HXL := hid hxl
  clear hxl
  simp only [Ex.depth] at hd ⊢
  go_enter Tryz.func138, Tryz.ntmps138
  go_wp2_with fail
  go_loopw [3, 4] (fun n i wr => ∃ j : Nat, j ≤ ps.length ∧ i = .int .i64 j ∧ n = .int .i64 (Ex.depths (ps.take j)) ∧ Below (w.heap.size + 1) (w.alloc (.cells #[.int .i64 k, .int .u64 a, .int .u64 b, .slice ad ps.length cap] 62)) wr) (fun _ i _ => ps.length - (intOf i).toNat)
  case atStart => exact ⟨0, by omega, rfl, by simp [Ex.depths], br⟩
  case round =>
   obtain ⟨j, hj, rfl, rfl, hbel⟩ := hrel
   have hbox : ∀ o, wr.cell? ⟨w.heap.size, o, none⟩ = (w.alloc (.cells #[.int .i64 k, .int .u64 a, .int .u64 b, .slice ad ps.length cap] _)).cell? ⟨w.heap.size, o, none⟩ := fun o => hbel.cell (by simp)
   have hsz : w.heap.size + 1 ≤ wr.heap.size := by have := hbel.size; simpa using this
   have hb0 : Below w.heap.size w wr := (br.alloc nl _).trans (hbel.mono (by simp))
   by_cases hlt : j < ps.length
   ·obtain ⟨bl, off, k', a', b', ad', n', cap', rfl, _, g0, g1, g2, g3, _, ge⟩ := (hes.below hb0 nl).part (hs.below (by omega) hb0 nl) j hlt
    have hdj := Ex.depths_ge ps j hlt
    have hdt := Ex.depths_take_le ps j
    have HT := hid (Ex.depths_take ps j hlt)
    go_wp2_with (go_at_call 138; refine (IH.out _ _ ps[j] _ _ (by omega) (by omega) ge).mono ?_; rintro e w' ⟨rfl, hb1⟩)
    go_roundw
    case rel => exact ⟨j + 1, by omega, by go_num, by rw [HT.out]; go_num, hbel.trans (hb1.mono (by omega))⟩
    case measure => simp [intOf]; omega
   ·have hj2 : j = ps.length := by omega
    subst hj2
    go_wp2_with fail
    go_ret
    exact ⟨by simp, hb0⟩
theorem tX (d : Nat) : ∀ (S : Nat → Prop) (own : Bool) (e : Ex) (v : Value) (w : World), e.size ≤ d → d ≤ 1000 → ax w S own e v →
  Calls Tryz.prog 139 #[v] w fun r w' => r = .returned (.int .i64 e.size) ∧ Below w.heap.size w w' := by
 induction d with
 | zero => intro S own e v w hd; have := e.size_pos; omega
 | succ d ih =>
  intro S own e v w hd hd2 hrep
  obtain ⟨k, a, b, ps⟩ := e
  simp only [ax] at hrep
  obtain ⟨s, xs, rfl, hk1, hk2, ha, hb, hs, hes⟩ := hrep
  obtain ⟨hxl, hlen, ad, cap, rfl, hcap⟩ := hs.shape
  have IH := hid ih
  clear ih
  have HXL := hid hxl
  clear hxl
  simp only [Ex.size] at hd ⊢
  go_enter Tryz.func139, Tryz.ntmps139
  go_wp2_with fail
  go_loopw [3, 4] (fun n i wr => ∃ j : Nat, j ≤ ps.length ∧ i = .int .i64 j ∧ n = .int .i64 (Ex.sizes (ps.take j) + 1) ∧ Below (w.heap.size + 1) (w.alloc (.cells #[.int .i64 k, .int .u64 a, .int .u64 b, .slice ad ps.length cap] 62)) wr) (fun _ i _ => ps.length - (intOf i).toNat)
  case atStart => exact ⟨0, by omega, rfl, by simp [Ex.sizes], br⟩
  case round =>
   obtain ⟨j, hj, rfl, rfl, hbel⟩ := hrel
   have hbox : ∀ o, wr.cell? ⟨w.heap.size, o, none⟩ = (w.alloc (.cells #[.int .i64 k, .int .u64 a, .int .u64 b, .slice ad ps.length cap] _)).cell? ⟨w.heap.size, o, none⟩ := fun o => hbel.cell (by simp)
   have hsz : w.heap.size + 1 ≤ wr.heap.size := by have := hbel.size; simpa using this
   have hb0 : Below w.heap.size w wr := (br.alloc nl _).trans (hbel.mono (by simp))
   by_cases hlt : j < ps.length
   ·obtain ⟨bl, off, k', a', b', ad', n', cap', rfl, _, g0, g1, g2, g3, _, ge⟩ := (hes.below hb0 nl).part (hs.below (by omega) hb0 nl) j hlt
    have hdj := Ex.sizes_ge ps j hlt
    have HT := hid (Ex.sizes_take ps j hlt)
    go_wp2_with (go_at_call 139; refine (IH.out _ _ ps[j] _ _ (by omega) (by omega) ge).mono ?_; rintro e w' ⟨rfl, hb1⟩)
    go_roundw
    case rel => exact ⟨j + 1, by omega, by go_num, by rw [HT.out]; exact congrArg _ (by omega), hbel.trans (hb1.mono (by omega))⟩
    case measure => simp [intOf]; omega
   ·have hj2 : j = ps.length := by omega
    subst hj2
    go_wp2_with fail
    go_ret
    exact ⟨by simp, hb0⟩
theorem qX (d : Nat) : ∀ (S : Nat → Prop) (own : Bool) (e : Ex) (v : Value) (w : World), e.depth ≤ d → d ≤ 1000 → ax w S own e v →
  Calls Tryz.prog 127 #[v] w fun r w' => r = .returned (.int .i64 e.depth) ∧ Below w.heap.size w w' := by
 induction d with
 | zero => intro S own e v w hd; cases e; simp [Ex.depth] at hd
 | succ d ih =>
  intro S own e v w hd hd2 hrep
  obtain ⟨k, a, b, ps⟩ := e
  simp only [ax] at hrep
  obtain ⟨s, xs, rfl, hk1, hk2, ha, hb, hs, hes⟩ := hrep
  obtain ⟨hxl, hlen, ad, cap, rfl, hcap⟩ := hs.shape
  have IH := hid ih
  clear ih
  have HXL := hid hxl
  clear hxl
  simp only [Ex.depth] at hd ⊢
  go_enter Tryz.func127, Tryz.ntmps127
  go_wp2_with fail
  go_loopw [3, 9] (fun n i wr => ∃ j : Nat, j ≤ ps.length ∧ i = .int .i64 j ∧ n = .int .i64 (Ex.depths (ps.take j)) ∧ Below (w.heap.size + 1) (w.alloc (.cells #[.int .i64 k, .int .u64 a, .int .u64 b, .slice ad ps.length cap] 70)) wr) (fun _ i _ => ps.length - (intOf i).toNat)
  case atStart => exact ⟨0, by omega, rfl, by simp [Ex.depths], br⟩
  case round =>
   obtain ⟨j, hj, rfl, rfl, hbel⟩ := hrel
   have hbox : ∀ o, wr.cell? ⟨w.heap.size, o, none⟩ = (w.alloc (.cells #[.int .i64 k, .int .u64 a, .int .u64 b, .slice ad ps.length cap] _)).cell? ⟨w.heap.size, o, none⟩ := fun o => hbel.cell (by simp)
   have hsz : w.heap.size + 1 ≤ wr.heap.size := by have := hbel.size; simpa using this
   have hb0 : Below w.heap.size w wr := (br.alloc nl _).trans (hbel.mono (by simp))
   by_cases hlt : j < ps.length
   ·obtain ⟨bl, off, k', a', b', ad', n', cap', rfl, _, g0, g1, g2, g3, _, ge⟩ := (hes.below hb0 nl).part (hs.below (by omega) hb0 nl) j hlt
    have hdj := Ex.depths_ge ps j hlt
    have hdt := Ex.depths_take_le ps j
    have HT := hid (Ex.depths_take ps j hlt)
    go_wp2_with (go_at_call 127; refine (IH.out _ _ ps[j] _ _ (by omega) (by omega) (ge.below (br.alloc nl _) nl)).mono ?_; rintro e w' ⟨rfl, hb1⟩)
    go_roundw
    case rel => exact ⟨j + 1, by omega, by go_num, by rw [HT.out]; go_num, (hbel.alloc (by omega) _).trans (hb1.mono (by simp; omega))⟩
    case measure => simp [intOf]; omega
   ·have hj2 : j = ps.length := by omega
    subst hj2
    go_wp2_with fail
    go_ret
    exact ⟨by simp, hb0⟩
theorem qY (d : Nat) : ∀ (S : Nat → Prop) (own : Bool) (e : Ex) (v : Value) (w : World), e.size ≤ d → d ≤ 1000 → ax w S own e v →
  Calls Tryz.prog 128 #[v] w fun r w' => r = .returned (.int .i64 e.size) ∧ Below w.heap.size w w' := by
 induction d with
 | zero => intro S own e v w hd; have := e.size_pos; omega
 | succ d ih =>
  intro S own e v w hd hd2 hrep
  obtain ⟨k, a, b, ps⟩ := e
  simp only [ax] at hrep
  obtain ⟨s, xs, rfl, hk1, hk2, ha, hb, hs, hes⟩ := hrep
  obtain ⟨hxl, hlen, ad, cap, rfl, hcap⟩ := hs.shape
  have IH := hid ih
  clear ih
  have HXL := hid hxl
  clear hxl
  simp only [Ex.size] at hd ⊢
  go_enter Tryz.func128, Tryz.ntmps128
  go_wp2_with fail
  go_loopw [3, 9] (fun n i wr => ∃ j : Nat, j ≤ ps.length ∧ i = .int .i64 j ∧ n = .int .i64 (Ex.sizes (ps.take j) + 1) ∧ Below (w.heap.size + 1) (w.alloc (.cells #[.int .i64 k, .int .u64 a, .int .u64 b, .slice ad ps.length cap] 70)) wr) (fun _ i _ => ps.length - (intOf i).toNat)
  case atStart => exact ⟨0, by omega, rfl, by simp [Ex.sizes], br⟩
  case round =>
   obtain ⟨j, hj, rfl, rfl, hbel⟩ := hrel
   have hbox : ∀ o, wr.cell? ⟨w.heap.size, o, none⟩ = (w.alloc (.cells #[.int .i64 k, .int .u64 a, .int .u64 b, .slice ad ps.length cap] _)).cell? ⟨w.heap.size, o, none⟩ := fun o => hbel.cell (by simp)
   have hsz : w.heap.size + 1 ≤ wr.heap.size := by have := hbel.size; simpa using this
   have hb0 : Below w.heap.size w wr := (br.alloc nl _).trans (hbel.mono (by simp))
   by_cases hlt : j < ps.length
   ·obtain ⟨bl, off, k', a', b', ad', n', cap', rfl, _, g0, g1, g2, g3, _, ge⟩ := (hes.below hb0 nl).part (hs.below (by omega) hb0 nl) j hlt
    have hdj := Ex.sizes_ge ps j hlt
    have HT := hid (Ex.sizes_take ps j hlt)
    go_wp2_with (go_at_call 128; refine (IH.out _ _ ps[j] _ _ (by omega) (by omega) (ge.below (br.alloc nl _) nl)).mono ?_; rintro e w' ⟨rfl, hb1⟩)
    go_roundw
    case rel => exact ⟨j + 1, by omega, by go_num, by rw [HT.out]; exact congrArg _ (by omega), (hbel.alloc (by omega) _).trans (hb1.mono (by simp; omega))⟩
    case measure => simp [intOf]; omega
   ·have hj2 : j = ps.length := by omega
    subst hj2
    go_wp2_with fail
    go_ret
    exact ⟨by simp, hb0⟩
theorem vE (k : Int) (a b n : Nat) (ad : Option Addr) (cap : Nat) (w : World) (hk1 : -9223372036854775808 ≤ k) (hk2 : k ≤ 9223372036854775807) (ha : a < 18446744073709551616) (hb : b < 18446744073709551616) (hn : n ≤ 9223372036854775807) :
  Calls Tryz.prog 191 #[.agg #[.int .i64 k, .int .u64 a, .int .u64 b, .slice ad n cap]] w fun e w' => e = .returned (.bool (fU k a b n)) ∧ Below w.heap.size w w' := by
 go_enter Tryz.func191, Tryz.ntmps191
 go_wp2
 all_goals (go_ret; exact ⟨ah (by first | (simp_all [fU, Bh, Bi]; done) | (simp_all [fU, Bh, Bi]; omega)), br.alloc nl _⟩)
theorem tY (d : Nat) : ∀ (S : Nat → Prop) (own : Bool) (e : Ex) (v : Value) (w : World), e.depth ≤ d → d ≤ 1000 → ax w S own e v →
  Calls Tryz.prog 137 #[v] w fun r w' => r = .returned (.bool e.okR) ∧ Below w.heap.size w w' := by
 induction d with
 | zero => intro S own e v w hd; cases e; simp [Ex.depth] at hd
 | succ d ih =>
  intro S own e v w hd hd2 hrep
  obtain ⟨k, a, b, ps⟩ := e
  simp only [ax] at hrep
  obtain ⟨s, xs, rfl, hk1, hk2, ha, hb, hs, hes⟩ := hrep
  obtain ⟨hxl, hlen, ad, cap, rfl, hcap⟩ := hs.shape
  have IH := hid ih
  clear ih
  have HXL := hid hxl
  clear hxl
  simp only [Ex.depth, Ex.okR] at hd ⊢
  go_enter Tryz.func137, Tryz.ntmps137
  go_wp2_with fail
  go_loopw [3] (fun i wr => ∃ j : Nat, j ≤ ps.length ∧ i = .int .i64 j ∧ Hid (Ex.okRs (ps.take j) = true) ∧ Below (w.heap.size + 1) (w.alloc (.cells #[.int .i64 k, .int .u64 a, .int .u64 b, .slice ad ps.length cap] 62)) wr) (fun i _ => ps.length - (intOf i).toNat)
  case atStart => exact ⟨0, by omega, rfl, hid (by simp [Ex.okRs]), br⟩
  case round =>
   obtain ⟨j, hj, rfl, hok, hbel⟩ := hrel
   have hbox : ∀ o, wr.cell? ⟨w.heap.size, o, none⟩ = (w.alloc (.cells #[.int .i64 k, .int .u64 a, .int .u64 b, .slice ad ps.length cap] _)).cell? ⟨w.heap.size, o, none⟩ := fun o => hbel.cell (by simp)
   have hsz : w.heap.size + 1 ≤ wr.heap.size := by have := hbel.size; simpa using this
   have hb0 : Below w.heap.size w wr := (br.alloc nl _).trans (hbel.mono (by simp))
   by_cases hlt : j < ps.length
   ·obtain ⟨bl, off, k', a', b', ad', n', cap', rfl, _, g0, g1, g2, g3, _, ge⟩ := (hes.below hb0 nl).part (hs.below (by omega) hb0 nl) j hlt
    have hdj := Ex.depths_ge ps j hlt
    go_wp2_with fail
    refine (IH.out _ _ ps[j] _ _ (by omega) (by omega) ge).mono ?_
    rintro e w' ⟨rfl, hb1⟩
    by_cases hc : ps[j].okR = true
    ·rw [hc]
     have HT : Hid (Ex.okRs (ps.take (j + 1)) = true) := hid (by rw [Ex.okRs_take ps j hlt, hok.out, hc]; rfl)
     clear hc
     go_wp2_with fail
     go_roundw
     case rel => exact ⟨j + 1, by omega, by go_num, HT, hbel.trans (hb1.mono (by omega))⟩
     case measure => simp [intOf]; omega
    ·have hc' : ps[j].okR = false := by simpa using hc
     rw [hc']
     have HF := hid (Ex.okRs_false ps j hlt hc')
     clear hc hc'
     go_wp2_with fail
     go_ret
     exact ⟨ah (by rw [HF.out]; simp), hb0.trans (hb1.mono (by omega))⟩
   ·have hj2 : j = ps.length := by omega
    subst hj2
    go_wp2_with fail
    refine (vE k a b ps.length ad cap _ hk1 hk2 ha hb hlen).mono ?_
    rintro e w' ⟨rfl, hb1⟩
    go_wp2_with fail
    go_ret
    exact ⟨ah (by have := hok.out; rw [List.take_length] at this; rw [this]; simp), hb0.trans (hb1.mono (by omega))⟩
theorem fJ (S : Nat → Prop) (own : Bool) (e : Ex) (v : Value) (w : World) (hsz : e.size ≤ 900) (hrep : ax w S own e v) :
  Calls Tryz.prog 94 #[v] w fun r w' => r = .returned (.bool e.right) ∧ Below w.heap.size w w' := by
 have hds := e.depth_le_size
 obtain ⟨c0, c1, c2, c3, rfl⟩ := hrep.four
 have hb0 : Below w.heap.size w (w.alloc (.cells #[c0, c1, c2, c3] 62)) := br.alloc nl _
 go_enter Tryz.func94, Tryz.ntmps94
 go_wp2_with fail
 refine (tY e.depth _ _ e _ _ nl (by omega) (hrep.below hb0 nl)).mono ?_
 rintro e1 w1 ⟨rfl, hb1⟩
 have hb2 : Below w.heap.size w w1 := hb0.trans (hb1.mono (by simp))
 have hbox : ∀ o, w1.cell? ⟨w.heap.size, o, none⟩ = (w.alloc (.cells #[c0, c1, c2, c3] 62)).cell? ⟨w.heap.size, o, none⟩ := fun o => hb1.cell (by simp)
 have hsz1 : w.heap.size + 1 ≤ w1.heap.size := by have := hb1.size; simpa using this
 by_cases h1 : e.okR = true
 ·rw [h1]
  go_wp2_with fail
  refine (tV e.depth _ _ e _ _ nl (by omega) (hrep.below hb2 nl)).mono ?_
  rintro e2 w2 ⟨rfl, hb3⟩
  have hb4 : Below w.heap.size w w2 := hb2.trans (hb3.mono (by omega))
  have hbox2 : ∀ o, w2.cell? ⟨w.heap.size, o, none⟩ = (w.alloc (.cells #[c0, c1, c2, c3] 62)).cell? ⟨w.heap.size, o, none⟩ := fun o => (hb3.cell (by show w.heap.size < _; omega)).trans (hbox o)
  clear hbox
  have hsz2 : w1.heap.size ≤ w2.heap.size := hb3.size
  by_cases h2 : e.depth ≤ 8
  ·have h2' : decide ((e.depth : Int) ≤ 8) = true := by simp; omega
   go_wp2_with fail
   refine (tX e.size _ _ e _ _ nl (by omega) (hrep.below hb4 nl)).mono ?_
   rintro e3 w3 ⟨rfl, hb5⟩
   clear h2'
   go_wp2_with fail
   go_ret
   exact ⟨ah (by simp [Ex.right, h1, h2]; omega), hb4.trans (hb5.mono (by omega))⟩
  ·have h2' : decide ((e.depth : Int) ≤ 8) = false := by simp; omega
   go_wp2_with fail
   go_ret
   exact ⟨ah (by simp [Ex.right, h1, h2]), hb4⟩
 ·have h1' : e.okR = false := by simpa using h1
  rw [h1']
  go_wp2_with fail
  go_ret
  exact ⟨ah (by simp [Ex.right, h1']), hb2⟩
def eU (n : Int) : Int := if n = 2 then 1 else if n = 3 then 1 else if n = 4 then 2 else 0
def fE (n : Int) : Int := if n = 5 then 1 else 0
def gH (n : Int) : Int := if n = 5 then 1 else if n = 6 then 32 else if n = 7 then 32 else 0
def oQ (n : Int) (blk : Nat) : Value :=
 if n = 1 then .func (.func 235) #[] #[] else if n = 2 then .func (.func 236) #[] #[] else if n = 3 then .func (.func 237) #[] #[]
 else if n = 4 then .func (.func 238) #[] #[] else if n = 5 then .func (.func 239) #[] #[.pointer (some ⟨blk, 0, none⟩)]
 else if n = 6 then .func (.func 240) #[] #[.pointer (some ⟨blk, 0, none⟩)] else .func (.func 241) #[] #[.pointer (some ⟨blk, 0, none⟩)]
def tZ (n : Int) (w : World) (e : Ending) (w' : World) : Prop :=
 (1 ≤ n ∧ n ≤ 7 → ∃ blk, w.heap.size ≤ blk ∧ w'.heap[blk]? = some (.cells #[.func (.func 232) #[] #[]] 326 (0, 0)) ∧
  e = .returned (.tuple #[.agg #[.int .i64 (eU n), .int .i64 (fE n), .int .i64 (gH n), oQ n blk], .bool true])) ∧
 (¬ (1 ≤ n ∧ n ≤ 7) → e = .returned (.tuple #[.agg #[.int .i64 0, .int .i64 0, .int .i64 0, .nilFunc], .bool false])) ∧ Below w.heap.size w w'
def oU (blk : Nat) : Value := .agg #[.int .i64 0, .int .i64 0, .int .i64 0, .nilFunc,
 .int .i64 0, .int .i64 0, .int .i64 0, .func (.func 235) #[] #[],
 .int .i64 1, .int .i64 0, .int .i64 0, .func (.func 236) #[] #[],
 .int .i64 1, .int .i64 0, .int .i64 0, .func (.func 237) #[] #[],
 .int .i64 2, .int .i64 0, .int .i64 0, .func (.func 238) #[] #[],
 .int .i64 0, .int .i64 1, .int .i64 1, .func (.func 239) #[] #[.pointer (some ⟨blk, 0, none⟩)],
 .int .i64 0, .int .i64 0, .int .i64 32, .func (.func 240) #[] #[.pointer (some ⟨blk, 0, none⟩)],
 .int .i64 0, .int .i64 0, .int .i64 32, .func (.func 241) #[] #[.pointer (some ⟨blk, 0, none⟩)]]
theorem qZ (w : World) : Calls Tryz.prog 211 #[] w fun e w' => e = .returned (oU (w.heap.size + 1)) ∧ Below w.heap.size w w' ∧
  w'.heap[w.heap.size + 1]? = some (.cells #[.func (.func 232) #[] #[]] 326 (0, 0)) ∧ w.heap.size + 1 < w'.heap.size := by
 go_enter Tryz.func211, Tryz.ntmps211
 go_wp2_with (refine wpList_store_row rfl 305 (.tmp 0) (.tmp 12) rfl rfl w.heap.size rfl _ rfl 305 #[.int .i64 0, .int .i64 0, .int .i64 0, .nilFunc, .int .i64 0, .int .i64 0, .int .i64 0, .nilFunc, .int .i64 0, .int .i64 0, .int .i64 0, .nilFunc, .int .i64 0, .int .i64 0, .int .i64 0, .nilFunc, .int .i64 0, .int .i64 0, .int .i64 0, .nilFunc, .int .i64 0, .int .i64 0, .int .i64 0, .nilFunc, .int .i64 0, .int .i64 0, .int .i64 0, .nilFunc, .int .i64 0, .int .i64 0, .int .i64 0, .nilFunc] (heap_alloc2_old _ _ _) (by kernel_rfl) rfl (by simp [Value.oneCell']) ?_)
 refine bodyPost_ret (v := oU (w.heap.size + 1)) (results_cell_row rfl _ _ w.heap.size 305 _ _ _ rfl (setRow_heap _ _ _ _ _ _ (heap_alloc2_old _ _ _)) Tryz.underlying305 rfl (by kernel_rfl)) rfl
  ⟨rfl, below_setRow ((br.alloc nl _).alloc (by simp) _) _ _ nl, ?_, ?_⟩
 ·rw [setRow_other _ _ _ _ (by omega)]; exact aa _ _ _ (by simp)
 ·simp
theorem Bl (k : Nat) (h : 1 ≤ k ∧ k ≤ 7) (blk : Nat) (w : World) :
  (Instr.index 305 (oU blk) (.int .i64 k)).run Tryz.prog w = .ok (.agg #[.int .i64 (eU k), .int .i64 (fE k), .int .i64 (gH k), oQ k blk]) w := by
 have hc : k = 1 ∨ k = 2 ∨ k = 3 ∨ k = 4 ∨ k = 5 ∨ k = 6 ∨ k = 7 := by omega
 rcases hc with rfl | rfl | rfl | rfl | rfl | rfl | rfl
 all_goals (show _ = _; kernel_rfl)
theorem nL (k : Int) (blk : Nat) : ∃ fn caps, oQ k blk = .func fn #[] caps := by
 unfold oQ
 repeat' split
 all_goals exact ⟨_, _, rfl⟩
theorem rf (w : World) : Calls Tryz.prog 211 #[] w fun e w' => ∃ T, e = .returned T ∧ (∀ (k : Nat), 1 ≤ k → k ≤ 7 → ∀ w'', ∃ fn caps, oQ k (w.heap.size + 1) = .func fn #[] caps ∧
   (Instr.index 305 T (.int .i64 k)).run Tryz.prog w'' = .ok (.agg #[.int .i64 (eU k), .int .i64 (fE k), .int .i64 (gH k), .func fn #[] caps]) w'') ∧ Below w.heap.size w w' ∧
  w'.heap[w.heap.size + 1]? = some (.cells #[.func (.func 232) #[] #[]] 326 (0, 0)) ∧ w.heap.size + 1 < w'.heap.size :=
 (qZ w).mono fun e w' ⟨he, h2, h3, h4⟩ => ⟨_, he, fun k h1 h7 w'' => by
  obtain ⟨fn, caps, hfn⟩ := nL k (w.heap.size + 1)
  exact ⟨fn, caps, hfn, by rw [← hfn]; exact Bl k ⟨h1, h7⟩ _ w''⟩, h2, h3, h4⟩
theorem zQ (k : Nat) (h1 : 1 ≤ k) (h7 : k ≤ 7) (w : World) : Calls Tryz.prog 185 #[.int .i64 k] w (tZ k w) := by
 have hd1 : decide ((k : Int) < 1) = false := by simp; omega
 have hd2 : decide ((8 : Int) ≤ (k : Int)) = false := by simp; omega
 go_enter Tryz.func185, Tryz.ntmps185
 go_wp2_with fail
 refine (rf _).mono ?_
 rintro e w' ⟨T, rfl, hT, hb, hh, hz⟩
 have hi := hT k h1 h7
 clear hT
 simp only [World.size_alloc] at hi hh hz
 obtain ⟨hc, hf⟩ := nI hb
 have hz0 : w.heap.size < w'.heap.size := by omega
 have HH := hid hh
 clear hh
 obtain ⟨fn, caps, hfn, _⟩ := hi w
 have HF := hid hfn
 have hi2 : ∀ w'', (Instr.index 305 T (.int .i64 k)).run Tryz.prog w'' = .ok (.agg #[.int .i64 (eU k), .int .i64 (fE k), .int .i64 (gH k), .func fn #[] caps]) w'' := by
  intro w''
  obtain ⟨fn', caps', hfn', hr⟩ := hi w''
  rw [hfn] at hfn'
  simp only [Value.func.injEq, true_and] at hfn'
  obtain ⟨rfl, rfl⟩ := hfn'
  exact hr
 clear hfn hi
 go_wp2_with fail
 refine bodyPost_ret (v := .tuple #[.agg #[.int .i64 (eU k), .int .i64 (fE k), .int .i64 (gH k), .func fn #[] caps], .bool true]) (by simp [results, Tryz.results185, go_sem, hc, hz0]) rfl ⟨fun _ => ⟨w.heap.size + 1 + 1, by omega, ?_, by rw [HF.out]⟩, fun h => absurd (by omega) h, ?_⟩
 ·rw [Below.heap_setCell _ _ _ _ (by simp; omega), Below.heap_setCell _ _ _ _ (by simp; omega), Below.heap_setCell _ _ _ _ (by simp; omega), Below.heap_setCell _ _ _ _ (by simp; omega)]; exact HH.out
 ·exact ((((br.alloc nl _).trans (hb.mono (by simp))).setCell (by simp) _).setCell (by simp) _).setCell (by simp) _ |>.setCell (by simp) _
theorem xx (n : Int) (h : ¬ (1 ≤ n ∧ n ≤ 7)) (w : World) (h0 : -9223372036854775808 ≤ n) (h1 : n ≤ 9223372036854775807) : Calls Tryz.prog 185 #[.int .i64 n] w (tZ n w) := by
 have hp : tZ n w (.returned (.tuple #[.agg #[.int .i64 0, .int .i64 0, .int .i64 0, .nilFunc], .bool false])) (w.alloc (.cells #[.int .i64 0, .int .i64 0, .int .i64 0, .nilFunc] 279)) :=
  ⟨fun h' => absurd h' h, fun _ => rfl, br.alloc nl _⟩
 have HP := hid hp
 clear hp
 by_cases hn : n < 1
 ·clear h
  go_enter Tryz.func185, Tryz.ntmps185
  go_wp2_with fail
  exact bodyPost_ret (v := .tuple #[.agg #[.int .i64 0, .int .i64 0, .int .i64 0, .nilFunc], .bool false]) (by simp [results, Tryz.results185, go_sem]) rfl HP.out
 ·have h8 : 8 ≤ n := by omega
  clear h
  go_enter Tryz.func185, Tryz.ntmps185
  go_wp2_with fail
  exact bodyPost_ret (v := .tuple #[.agg #[.int .i64 0, .int .i64 0, .int .i64 0, .nilFunc], .bool false]) (by simp [results, Tryz.results185, go_sem]) rfl HP.out
theorem xy (n : Int) (w : World) (h0 : -9223372036854775808 ≤ n) (h1 : n ≤ 9223372036854775807) : Calls Tryz.prog 185 #[.int .i64 n] w (tZ n w) := by
 by_cases h : 1 ≤ n ∧ n ≤ 7
 ·obtain ⟨k, rfl⟩ := Int.eq_ofNat_of_zero_le (show 0 ≤ n by omega)
  exact zQ k (by omega) (by omega) w
 ·exact xx n h w h0 h1
def xz (w : World) (S : Nat → Prop) (own : Bool) (es : List Ex) (fid : Nat) (caps : Array Value) (p : Ex → Bool) : Prop :=
 ∀ i (h : i < es.length) (v : Value) (w' : World), Below w.heap.size w w' → ax w' S own es[i] v → Calls Tryz.prog fid (#[v] ++ caps) w' fun e w'' => e = .returned (.bool (p es[i])) ∧ Below w'.heap.size w' w''
def Enters (fid : Nat) : Prop := ∀ (args : Array Value) (w : World), (callFunc fid args).run Tryz.prog w = .ok (.enter fid args) w
theorem oV {α : Type} (p : α → Bool) (l : List α) (k : Nat) (h : k < l.length) (h0 : (l.take k).any p = false) (h1 : p l[k] = false) : (l.take (k + 1)).any p = false := by
 rw [dM l k h, List.any_append, h0]; simp [h1]
theorem uf {α : Type} (p : α → Bool) (l : List α) (k : Nat) (h : k < l.length) (h1 : p l[k] = true) : l.any p = true :=
 List.any_eq_true.2 ⟨l[k], List.getElem_mem h, h1⟩
theorem vF (S : Nat → Prop) (own : Bool) (es : List Ex) (xs : List Value) (ad : Option Addr) (cap : Nat) (fid : Nat) (caps : Array Value) (p : Ex → Bool) (w : World)
  (hs : Sl w S own 4 es.length xs (.slice ad es.length cap)) (hes : az w S own es xs) (hcall : Enters fid) (hf : xz w S own es fid caps p) :
  Calls Tryz.prog 212 #[.slice ad es.length cap, .func (.func fid) #[] caps] w fun e w' => (∃ r : Int, e = .returned (.int .i64 r) ∧ -1 ≤ r ∧ r ≤ 9223372036854775807 ∧ decide (0 ≤ r) = es.any p) ∧ Below w.heap.size w w' := by
 have hlen := hs.2.1
 have HF := hid hf
 clear hf
 unfold Enters at hcall
 go_enter Tryz.func212, Tryz.ntmps212
 go_wp2_with fail
 go_loopw [5, 8] (fun _ i wr => ∃ j : Nat, j ≤ es.length ∧ i = .int .i64 j ∧ Hid ((es.take j).any p = false) ∧ Below w.heap.size w wr) (fun _ i _ => es.length - (intOf i).toNat)
 case atStart => exact ⟨0, by omega, rfl, hid (by simp), br⟩
 case round =>
  obtain ⟨j, hj, rfl, hno, hbel⟩ := hrel
  by_cases hlt : j < es.length
  ·obtain ⟨bl, off, k', a', b', ad', n', cap', rfl, _, g0, g1, g2, g3, _, ge⟩ := (hes.below hbel nl).part (hs.below (by omega) hbel nl) j hlt
   go_wp2_with fail
   refine (HF.out j hlt _ wr hbel ge).mono ?_
   rintro e w' ⟨rfl, hb1⟩
   have hsz := hbel.size
   by_cases hp : p es[j] = true
   ·rw [hp]
    have HP := hid (uf p es j hlt hp)
    clear hp
    go_wp2_with fail
    go_ret
    exact ⟨⟨j, rfl, by omega, by omega, by rw [HP.out]; simp⟩, hbel.trans (hb1.mono (by omega))⟩
   ·have hp' : p es[j] = false := by simpa using hp
    rw [hp']
    have HP := hid (oV p es j hlt hno.out hp')
    clear hp hp'
    go_wp2_with fail
    go_roundw
    case rel => exact ⟨j + 1, by omega, by go_num, HP, hbel.trans (hb1.mono (by omega))⟩
    case measure => simp [intOf]; omega
  ·have hj2 : j = es.length := by omega
   subst hj2
   go_wp2_with fail
   go_ret
   exact ⟨⟨-1, rfl, by omega, by omega, by have := hno.out; rw [List.take_length] at this; rw [this]; rfl⟩, hbel⟩
theorem vG (S : Nat → Prop) (own : Bool) (es : List Ex) (xs : List Value) (ad : Option Addr) (cap : Nat) (fid : Nat) (caps : Array Value) (p : Ex → Bool) (w : World)
  (hs : Sl w S own 4 es.length xs (.slice ad es.length cap)) (hes : az w S own es xs) (hcall : Enters fid) (hf : xz w S own es fid caps p) :
  Calls Tryz.prog 186 #[.slice ad es.length cap, .func (.func fid) #[] caps] w fun e w' => e = .returned (.bool (es.any p)) ∧ Below w.heap.size w w' := by
 have HI := hid (vF S own es xs ad cap fid caps p w hs hes hcall hf)
 clear hf hcall hs hes
 go_enter Tryz.func186, Tryz.ntmps186
 go_wp2_with fail
 refine HI.out.mono ?_
 rintro e w' ⟨⟨r, rfl, h0, h1, hr⟩, hb⟩
 have HR := hid hr
 clear hr
 go_wp2_with fail
 go_ret
 exact ⟨ah HR.out, hb⟩
theorem ug : Enters 187 := fun _ _ => by kernel_rfl
theorem xA (k : Nat) (a b n : Nat) (h : 1 ≤ k ∧ k ≤ 7) : iZ k a b n =
  !(decide ((n : Int) < fE k) || decide (gH k < (n : Int)) || decide (eU k < 2) && decide (0 < b) || decide (eU k < 1) && decide (0 < a) || (eU k == 2) && decide (a ≤ b)) := by
 have hc : k = 1 ∨ k = 2 ∨ k = 3 ∨ k = 4 ∨ k = 5 ∨ k = 6 ∨ k = 7 := by omega
 rw [Bool.eq_iff_iff]
 rcases hc with rfl | rfl | rfl | rfl | rfl | rfl | rfl
 all_goals (simp [iZ, fU, fE, gH, eU]; try omega)
theorem xB (k : Int) (a b n : Nat) (h : ¬ (1 ≤ k ∧ k ≤ 7)) : fU k a b n = false := by
 simp only [fU]
 rw [if_neg (by omega), if_neg (by omega), if_neg (by omega), if_neg (by omega), if_neg (by omega)]
theorem Bn (ps : List Ex) : Ex.okPs ps = !(ps.any fun e => !e.okP) := by
 rw [Ex.okPs_iff, List.all_eq_not_any_not]
theorem oW (d : Nat) : ∀ (S : Nat → Prop) (own : Bool) (e : Ex) (v : Value) (w : World), e.depth ≤ d → d ≤ 1000 → ax w S own e v →
  Calls Tryz.prog 126 #[v] w fun r w' => r = .returned (.bool e.okP) ∧ Below w.heap.size w w' := by
 induction d with
 | zero => intro S own e v w hd; cases e; simp [Ex.depth] at hd
 | succ d ih =>
  intro S own e v w hd hd2 hrep
  obtain ⟨k, a, b, ps⟩ := e
  simp only [ax] at hrep
  obtain ⟨s, xs, rfl, hk1, hk2, ha, hb, hs, hes⟩ := hrep
  obtain ⟨hxl, hlen, ad, cap, rfl, hcap⟩ := hs.shape
  have IH := hid ih
  clear ih
  have HXL := hid hxl
  clear hxl
  simp only [Ex.depth, Ex.okP] at hd ⊢
  have hb0 : Below w.heap.size w (w.alloc (.cells #[.int .i64 k, .int .u64 a, .int .u64 b, .slice ad ps.length cap] 70)) := br.alloc nl _
  have hasks : ∀ w1, Below w.heap.size w w1 → xz w1 S own ps 187 #[] (fun e => !e.okP) := by
   intro w1 hb1 i hi v w' hb2 hrep
   have hdi := Ex.depths_ge ps i hi
   obtain ⟨c0, c1, c2, c3, rfl⟩ := hrep.four
   show Calls Tryz.prog 187 #[.agg #[c0, c1, c2, c3]] _ _
   go_enter Tryz.func187, Tryz.ntmps187
   go_wp2_with fail
   refine (IH.out S own ps[i] _ _ (by omega) (by omega) (hrep.below (br.alloc nl _) nl)).mono ?_
   rintro e w'' ⟨rfl, hb3⟩
   go_wp2_with fail
   go_ret
   exact ⟨rfl, (br.alloc nl _).trans (hb3.mono (by simp))⟩
  have HA := hid hasks
  clear hasks
  go_enter Tryz.func126, Tryz.ntmps126
  go_wp2_with fail
  refine (xy k _ hk1 hk2).mono ?_
  rintro e1 w1 ⟨hin, hout, hb1⟩
  have hb2 : Below w.heap.size w w1 := hb0.trans (hb1.mono (by simp))
  obtain ⟨hc, hf⟩ := nI hb1
  have hz1 : w.heap.size + 1 ≤ w1.heap.size := by have := hb1.size; simpa using this
  have hz0 : w.heap.size < w1.heap.size := by omega
  by_cases hk : 1 ≤ k ∧ k ≤ 7
  ·obtain ⟨blk, hblk, hheap, rfl⟩ := hin hk
   clear hin hout hheap hblk
   obtain ⟨kn, rfl⟩ := Int.eq_ofNat_of_zero_le (show 0 ≤ k by omega)
   have HN := hid (xA kn a b ps.length (by omega))
   obtain ⟨fn, caps, hfn⟩ := nL kn blk
   rw [hfn]
   clear hfn
   generalize eU kn = c1 at *
   generalize fE kn = c2 at *
   generalize gH kn = c3 at *
   have hhs := hs.below (by omega) hb2 nl
   have hhe := hes.below hb2 nl
   have hbx : ∀ o, Below w.heap.size w (w1.alloc o) := fun o => hb2.alloc (by omega) _
   have hbx1 : ∀ o, Below w1.heap.size w1 (w1.alloc o) := fun o => br.alloc nl _
   have HX := hid (And.intro hbx hbx1)
   clear hbx hbx1
   have HS := hid (And.intro hhs hhe)
   clear hhs hhe
   go_wp2_with fail
   all_goals first
    | (refine (vG S own ps xs ad cap _ #[] (fun e => !e.okP) _ (HS.out.1.below (by omega) (HX.out.2 _) nl) (HS.out.2.below (HX.out.2 _) nl) ug (HA.out _ (HX.out.1 _))).mono ?_
       rintro e w' ⟨rfl, hb3⟩
       have hT : iZ (kn : Int) a b ps.length = true := by
        rw [HN.out]; simp only [Bool.not_eq_true', Bool.or_eq_false_iff, Bool.and_eq_false_iff, decide_eq_false_iff_not, beq_eq_false_iff_ne, Bool.not_eq_eq_eq_not, Bool.not_true]; omega
       have HT := hid hT
       clear hT
       go_wp2_with fail
       go_ret
       exact ⟨ah (by rw [HT.out, Bn]; simp), (HX.out.1 _).trans (hb3.mono (by simp; omega))⟩)
    | (have hT : iZ (kn : Int) a b ps.length = false := by
        rw [HN.out]; simp only [Bool.not_eq_false', Bool.or_eq_true, Bool.and_eq_true, decide_eq_true_eq, beq_iff_eq, Bool.not_eq_eq_eq_not, Bool.not_false]; omega
       go_ret
       exact ⟨ah (by rw [hT]; rfl), HX.out.1 _⟩)
  ·have he := hout hk
   subst he
   clear hin hout
   go_wp2_with fail
   go_ret
   exact ⟨ah (by rw [iZ, xB _ _ _ _ hk]; rfl), hb2.alloc (by have := hb2.size; omega) _⟩
end Go.Proofs.YtlpgokcapdjgjaaGreatDoor
