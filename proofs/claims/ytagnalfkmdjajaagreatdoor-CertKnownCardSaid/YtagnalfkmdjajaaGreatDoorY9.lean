/- Walks. -/
import Derived.Test.YtagnalfkmdjajaaGreatDoorY8
import Derived.Test.YtagnalfkmdjajaaGreatDoorYG06
import Derived.Laws.StructEq
set_option maxHeartbeats 4000000
set_option maxRecDepth 100000
namespace Go.Proofs.YtagnalfkmdjajaaGreatDoor
open Go.RowKit Go
set_option linter.unusedVariables false
set_option linter.unusedSimpArgs false
theorem kP : (Tryz.prog.info? 3).map (fun i => (i.zero, i.size, i.bytes)) = some (some (.int .i64 0), 1, 8) := by kernel_rfl
theorem qH : (Tryz.prog.info? 54).map (fun i => (i.zero, i.size, i.bytes)) = some (some (.agg #[.int .i64 0, .int .i64 0, .int .i64 0, .int .u64 0, .int .u64 0, .int .u64 0, .int .u64 0, .int .u64 0, .int .i64 0]), 9, 72) := by kernel_rfl
theorem aC {S : Nat → Prop} {w : World} {g : Nat} {cs : Array Value} (h : ¬ S g) : eu S w (w.setRow g cs) := fun b hb _ => setRow_other _ _ _ _ (fun e => h (e ▸ hb))
theorem mH (w : World) (base sz : Nat) (T : TypeId) (hb : base ≤ w.heap.size) : (w.alloc (.cells #[] T)).ownsRow base T sz (.slice (some ⟨w.heap.size, 0, none⟩) 0 0) 0 [] :=
 ⟨by simp, .inr ⟨w.heap.size, 0, #[], rfl, hb, heap_alloc_new _ _, Nat.le_refl _, by unfold maxLen; omega, by simp, by simp⟩⟩
theorem iZ (S : Nat → Prop) (own : Bool) (l : List Int) (v : Value) (w : World) (hr : bn w S own l v) (h47 : l.length ≤ 100000000) :
  Calls Tryz.prog 58 #[v] w fun e w' => ∃ v', e = .returned v' ∧ w'.ownsRow w.heap.size 3 1 v' l.length (ints l) ∧ Below w.heap.size w w' := by
 obtain ⟨i0, hi0, hz0, hz1, hz2⟩ := info_parts kP
 have hl := hr.2.1
 have HR := hid hr
 obtain ⟨_, _, ad, cap, rfl, hc⟩ := Sl.shape hr
 clear hr
 have hn := @Lib.run_eql_slice_nil Tryz.prog
 cases ad with
 | none =>
  have hl0 : l = [] := by
   rcases Nat.eq_zero_or_pos l.length with h | h
   ·exact List.eq_nil_of_length_eq_zero h
   ·obtain ⟨_, _, h1, _⟩ := Sl.cells HR.out h; cases h1
  subst hl0
  go_enter Tryz.func58, Tryz.ntmps58
  go_wp2_with fail
  go_ret
  exact ⟨_, rfl, World.ownsRow_nil _ _ _ _, br⟩
 | some a =>
  have HS := hid (Sl.below HR.out (by omega) (br.alloc nl (.cells #[] 3)) nl)
  have H0 := hid (mH w w.heap.size 1 3 nl)
  go_enter Tryz.func58, Tryz.ntmps58
  go_wp2_with (at_builtin; refine af _ rfl (.tmp 5) (.tmp 6) _ rfl w.heap.size 3 i0 _ 1 8 Tryz.underlying22 hi0 hz0 hz1 hz2 rfl (by omega) _ 0 [] rfl H0.out _ _ l.length (ints l) _ rfl HS.out (wG _) (by unfold maxLen; omega) (by omega) (by simp) ?_; intro v' w2 hown2 hgrow hat)
  go_ret
  exact ⟨v', rfl, by simpa using hown2, (br.alloc nl _).grown hgrow (by simp) (fun k hk => by cases hk; exact Nat.le_refl _)⟩
theorem mI (S : Nat → Prop) (own : Bool) (l : List Ed) (v : Value) (w : World) (hr : aX w S own l v) (h47 : l.length ≤ 100000000) :
  Calls Tryz.prog 59 #[v] w fun e w' => ∃ v', e = .returned v' ∧ w'.ownsRow w.heap.size 54 9 v' l.length (bD l) ∧ Below w.heap.size w w' := by
 obtain ⟨i0, hi0, hz0, hz1, hz2⟩ := info_parts qH
 have hl := hr.2.1
 have HR := hid hr
 obtain ⟨_, _, ad, cap, rfl, hc⟩ := Sl.shape hr
 clear hr
 have hn := @Lib.run_eql_slice_nil Tryz.prog
 cases ad with
 | none =>
  have hl0 : l = [] := by
   rcases Nat.eq_zero_or_pos l.length with h | h
   ·exact List.eq_nil_of_length_eq_zero h
   ·obtain ⟨_, _, h1, _⟩ := Sl.cells HR.out h; cases h1
  subst hl0
  go_enter Tryz.func59, Tryz.ntmps59
  go_wp2_with fail
  go_ret
  exact ⟨_, rfl, World.ownsRow_nil _ _ _ _, br⟩
 | some a =>
  have HS := hid (Sl.below HR.out (by omega) (br.alloc nl (.cells #[] 54)) nl)
  have H0 := hid (mH w w.heap.size 9 54 nl)
  go_enter Tryz.func59, Tryz.ntmps59
  go_wp2_with (at_builtin; refine af _ rfl (.tmp 5) (.tmp 6) _ rfl w.heap.size 54 i0 _ 9 72 Tryz.underlying23 hi0 hz0 hz1 hz2 rfl (by omega) _ 0 [] rfl H0.out _ _ l.length (bD l) _ rfl HS.out (Ce _) (by unfold maxLen; omega) (by omega) (by simp) ?_; intro v' w2 hown2 hgrow hat)
  go_ret
  exact ⟨v', rfl, by simpa using hown2, (br.alloc nl _).grown hgrow (by simp) (fun k hk => by cases hk; exact Nat.le_refl _)⟩
theorem qI (S : Nat → Prop) (own : Bool) (l : List Int) (v : Value) (w : World) (hr : bn w S own l v) (h47 : l.length ≤ 100000000) :
  Calls Tryz.prog 22 #[v] w (lV w ⟨1, l, 0, 0, []⟩) := by
 have HC := hid (iZ S own l v _ (hr.below (br.alloc nl (.cells #[.int .i64 0, .slice none 0 0, .int .i64 0, .int .i64 0, .slice none 0 0] 25)) nl) h47)
 have h0 := heap_alloc_new w (.cells #[.int .i64 0, .slice none 0 0, .int .i64 0, .int .i64 0, .slice none 0 0] 25)
 have hb0 : Below w.heap.size w (w.alloc (.cells #[.int .i64 0, .slice none 0 0, .int .i64 0, .int .i64 0, .slice none 0 0] 25)) := br.alloc nl _
 have hs0 : (w.alloc (.cells #[.int .i64 0, .slice none 0 0, .int .i64 0, .int .i64 0, .slice none 0 0] 25)).heap.size = w.heap.size + 1 := World.size_alloc _ _
 have H0 := hid (And.intro h0 (And.intro hb0 hs0))
 clear h0 hb0 hs0 hr
 go_enter Tryz.func22, Tryz.ntmps22
 go_wp2_with fail
 refine HC.out.mono ?_
 rintro e w1 ⟨v1, rfl, hown1, hb1⟩
 obtain ⟨h0, hb0, hs0⟩ := H0.out
 have g0 : w1.heap[w.heap.size]? = some (.cells #[.int .i64 0, .slice none 0 0, .int .i64 0, .int .i64 0, .slice none 0 0] 25 (0, 0)) := (hb1.block _ (by omega)).trans h0
 obtain ⟨ad, cap, rfl⟩ := ag hown1
 have H1 := hid (And.intro hown1 (hb0.trans (hb1.mono (by omega))))
 have hz1 := hb1.size
 clear hown1 hb1 hb0 h0
 go_wp2_with (refine wpList_store_row rfl 25 (.tmp 2) (.tmp 5) rfl rfl w.heap.size rfl _ rfl 25 _ g0 (by kernel_rfl) rfl (by simp [Value.oneCell']) ?_)
 refine bodyPost_ret (v := .agg #[.int .i64 1, .slice ad l.length cap, .int .i64 0, .int .i64 0, .slice none 0 0]) (results_cell_row rfl _ _ w.heap.size 25 _ _ _ rfl (setRow_heap _ _ _ _ _ _ g0) Tryz.underlying25 rfl (by kernel_rfl)) rfl ⟨_, rfl, ⟨_, _, rfl, ((bn.of_owns H1.out.1).keep (aC (g := w.heap.size) (fun h => by have h : _ ≤ w.heap.size := h; omega)) (fun b _ hb => by have hb : _ ≤ b := hb; omega)), aX.nil _ _ _⟩, below_setRow H1.out.2 _ _ nl⟩
theorem lJ (S : Nat → Prop) (own : Bool) (l : List Ed) (v : Value) (w : World) (hr : aX w S own l v) (h47 : l.length ≤ 100000000) :
  Calls Tryz.prog 23 #[v] w (lV w ⟨4, [], 0, 0, l⟩) := by
 have HC := hid (mI S own l v _ (hr.below (br.alloc nl (.cells #[.int .i64 0, .slice none 0 0, .int .i64 0, .int .i64 0, .slice none 0 0] 25)) nl) h47)
 have h0 := heap_alloc_new w (.cells #[.int .i64 0, .slice none 0 0, .int .i64 0, .int .i64 0, .slice none 0 0] 25)
 have hb0 : Below w.heap.size w (w.alloc (.cells #[.int .i64 0, .slice none 0 0, .int .i64 0, .int .i64 0, .slice none 0 0] 25)) := br.alloc nl _
 have hs0 : (w.alloc (.cells #[.int .i64 0, .slice none 0 0, .int .i64 0, .int .i64 0, .slice none 0 0] 25)).heap.size = w.heap.size + 1 := World.size_alloc _ _
 have H0 := hid (And.intro h0 (And.intro hb0 hs0))
 clear h0 hb0 hs0 hr
 go_enter Tryz.func23, Tryz.ntmps23
 go_wp2_with fail
 refine HC.out.mono ?_
 rintro e w1 ⟨v1, rfl, hown1, hb1⟩
 obtain ⟨h0, hb0, hs0⟩ := H0.out
 have g0 : w1.heap[w.heap.size]? = some (.cells #[.int .i64 0, .slice none 0 0, .int .i64 0, .int .i64 0, .slice none 0 0] 25 (0, 0)) := (hb1.block _ (by omega)).trans h0
 obtain ⟨ad, cap, rfl⟩ := ag hown1
 have H1 := hid (And.intro hown1 (hb0.trans (hb1.mono (by omega))))
 have hz1 := hb1.size
 clear hown1 hb1 hb0 h0
 go_wp2_with (refine wpList_store_row rfl 25 (.tmp 2) (.tmp 5) rfl rfl w.heap.size rfl _ rfl 25 _ g0 (by kernel_rfl) rfl (by simp [Value.oneCell']) ?_)
 refine bodyPost_ret (v := .agg #[.int .i64 4, .slice none 0 0, .int .i64 0, .int .i64 0, .slice ad l.length cap]) (results_cell_row rfl _ _ w.heap.size 25 _ _ _ rfl (setRow_heap _ _ _ _ _ _ g0) Tryz.underlying25 rfl (by kernel_rfl)) rfl ⟨_, rfl, ⟨_, _, rfl, bn.nil _ _ _, ((aX.of_owns H1.out.1).keep (aC (g := w.heap.size) (fun h => by have h : _ ≤ w.heap.size := h; omega)) (fun b _ hb => by have hb : _ ≤ b := hb; omega))⟩, below_setRow H1.out.2 _ _ nl⟩
theorem ve : (Tryz.prog.info? 108).map (fun i => (i.zero, i.size, i.bytes)) = some (some (.agg #[.int .i64 0, .int .i64 0, .int .i64 0, .int .u64 0, .int .u64 0, .int .u64 0, .int .u64 0, .int .u64 0, .int .i64 0]), 9, 72) := by kernel_rfl
theorem wT (k p q : Int) (ad ad' : Option Addr) (n m cp cp' most : Nat) (w : World) (hm : most ≤ 1000) :
  Calls Tryz.prog 5 #[.agg #[.int .i64 k, .slice ad n cp, .int .i64 p, .int .i64 q, .slice ad' m cp'], .int .i64 (most : Nat)] w fun e w' => e = .returned (.bool (decide (n ≤ most) && decide (m ≤ most))) ∧ Below w.heap.size w w' := by
 by_cases h : n ≤ most
 ·have t1 : decide (n ≤ most) = true := by simpa using h
  have HB : Hid ((decide (n ≤ most) && decide (m ≤ most)) = decide (m ≤ most)) := hid (by simp [h])
  clear h
  go_enter Tryz.func5, Tryz.ntmps5
  go_wp2_with fail
  go_ret
  exact ⟨by rw [HB.out]; rfl, br.alloc nl _⟩
 ·have t1 : decide (n ≤ most) = false := by simpa using h
  have HB : Hid ((decide (n ≤ most) && decide (m ≤ most)) = false) := hid (by simp [h])
  clear h
  go_enter Tryz.func5, Tryz.ntmps5
  go_wp2_with fail
  go_ret
  exact ⟨by rw [HB.out]; rfl, br.alloc nl _⟩
structure Sp (W : World) (bx B : Nat) (row : Array Value) (T : TypeId) (S : Nat → Prop) (wr : World) : Prop where
 bel : Below B W wr
 keep : eu (fun b => ¬ S b) W wr
 fro : ∀ b o, wr.frozen? ⟨b, o, none⟩ = W.frozen? ⟨b, o, none⟩
 sm : ∀ a, (wr.cell? a).isSome = (W.cell? a).isSome
 box : wr.heap[bx]? = some (.cells row T (0, 0))
theorem Sp.set {W : World} {bx B : Nat} {row : Array Value} {T : TypeId} {S : Nat → Prop} {wr : World} (h : Sp W bx B row T S wr) {bl off : Nat} (hS : S bl) (hB : B ≤ bl) (hx : bl ≠ bx) {u : Value} (hu : wr.cell? ⟨bl, off, none⟩ = some u) (v : Value) : Sp W bx B row T S (wr.setCell ⟨bl, off, none⟩ v) := by
 refine ⟨h.bel.setCell (by simp; omega) _, h.keep.trans h.bel.size (fun b hb _ => Below.heap_setCell _ _ _ _ (fun e => hb (by rw [e]; exact hS))), fun b o => ?_, fun a => ?_, ?_⟩
 ·rw [World.frozen?_setCell]; exact h.fro b o
 ·by_cases e : (⟨bl, off, none⟩ : Addr) = a
  ·subst e; rw [World.cell?_setCell_same _ _ _ hu, ← h.sm, hu]; rfl
  ·rw [World.cell?_setCell_other _ _ _ _ e]; exact h.sm a
 ·rw [Below.heap_setCell _ _ _ _ (fun e => hx e.symm)]; exact h.box
theorem gB (B : Nat) (S : Nat → Prop) (hSB : ∀ b, S b → B ≤ b) (c : Crt) (v : Value) (w : World) (hBN : B ≤ w.heap.size) (hr : aL w S true c v) :
  Calls Tryz.prog 55 #[v] w fun e w' => e = .returned (.tuple #[]) ∧ Below B w w' ∧ eu (fun b => ¬ S b) w w' := by
 obtain ⟨ad, cp, ad', cp', rfl, ho, hw, l1, l2, _, _⟩ := hr.shape
 have h0 := heap_alloc_new w (.cells #[.int .i64 c.k, .slice ad c.o.length cp, .int .i64 c.p, .int .i64 c.q, .slice ad' c.w.length cp'] 25)
 have hb0 : Below w.heap.size w (w.alloc (.cells #[.int .i64 c.k, .slice ad c.o.length cp, .int .i64 c.p, .int .i64 c.q, .slice ad' c.w.length cp'] 25)) := br.alloc nl _
 have ho' := ho.below hb0 nl
 have hw' := hw.below hb0 nl
 have hlo : ∀ (hn : 0 < c.o.length), ∃ bl off, ad = some ⟨bl, off, none⟩ ∧ bl < w.heap.size := fun hn => by obtain ⟨bl, off, h1, _, h2, _⟩ := ho.cell hn; exact ⟨bl, off, h1, h2⟩
 have hlw : ∀ (hn : 0 < c.w.length), ∃ bl off, ad' = some ⟨bl, off, none⟩ ∧ bl < w.heap.size := fun hn => by obtain ⟨bl, off, h1, _, h2, _⟩ := hw.cell hn; exact ⟨bl, off, h1, h2⟩
 clear hr ho hw
 have HW := hid hb0
 have HO := hid (And.intro ho' hlo)
 have HV := hid (And.intro hw' hlw)
 have HS := hid hSB
 clear hb0 ho' hw' hlo hlw hSB
 go_enter Tryz.func55, Tryz.ntmps55
 go_upto_region 1 with fail
 generalize w.alloc (.cells #[.int .i64 c.k, .slice ad c.o.length cp, .int .i64 c.p, .int .i64 c.q, .slice ad' c.w.length cp'] 25) = W at h0 HW HO HV ⊢
 have hW0 : Sp W w.heap.size B #[.int .i64 c.k, .slice ad c.o.length cp, .int .i64 c.p, .int .i64 c.q, .slice ad' c.w.length cp'] 25 S W := ⟨br, fun _ _ _ => rfl, fun _ _ => rfl, fun _ => rfl, h0⟩
 clear h0
 go_wp2_with fail
 go_loopw [2] (fun i wr => ∃ j : Nat, j ≤ c.o.length ∧ i = .int .i64 j ∧ Hid (Sp W w.heap.size B #[.int .i64 c.k, .slice ad c.o.length cp, .int .i64 c.p, .int .i64 c.q, .slice ad' c.w.length cp'] 25 S wr)) (fun i _ => c.o.length - (intOf i).toNat)
 case atStart => exact ⟨0, by omega, rfl, hid hW0⟩
 case round =>
  obtain ⟨j, hj, rfl, hsp⟩ := hrel
  have c1 : wr.cell? ⟨w.heap.size, 1, none⟩ = some (.slice ad c.o.length cp) := by rw [cell_of_row wr _ 1 _ _ _ hsp.out.box]; rfl
  by_cases hlt : j < c.o.length
  ·obtain ⟨bl, off, rfl, hS, _, hcell⟩ := HO.out.1.cell (by omega)
   obtain ⟨_, _, e0, hbl⟩ := HO.out.2 (by omega)
   injection e0 with e0; injection e0 with e0 e1; subst e0 e1
   obtain ⟨g, gf⟩ := hcell j hlt
   have q : (wr.cell? ⟨bl, off + j, none⟩).isSome = true := by rw [hsp.out.sm, g]; rfl
   obtain ⟨u, hu⟩ := Option.isSome_iff_exists.1 q
   have f : wr.frozen? ⟨bl, off + j, none⟩ = false := by rw [hsp.out.fro]; exact gf rfl
   have HN := hid (hsp.out.set hS (HS.out bl hS) (by omega) hu (.int .i64 77))
   clear hcell q g gf hsp
   go_wp2_with fail
   go_roundw
   case rel => exact ⟨j + 1, by omega, by go_num, HN⟩
   case measure => simp [intOf]; omega
  ·clear hW0
   go_wp2_with fail
   go_loopw [3] (fun i wr => ∃ j : Nat, j ≤ c.w.length ∧ i = .int .i64 j ∧ Hid (Sp W w.heap.size B #[.int .i64 c.k, .slice ad c.o.length cp, .int .i64 c.p, .int .i64 c.q, .slice ad' c.w.length cp'] 25 S wr)) (fun i _ => c.w.length - (intOf i).toNat)
   case atStart => exact ⟨0, by omega, rfl, hsp⟩
   case round =>
    obtain ⟨j2, hj2, rfl, hsp2⟩ := hrel
    have c4 : wr.cell? ⟨w.heap.size, 4, none⟩ = some (.slice ad' c.w.length cp') := by rw [cell_of_row wr _ 4 _ _ _ hsp2.out.box]; rfl
    by_cases hlt2 : j2 < c.w.length
    ·obtain ⟨bl, off, rfl, hS, _, hcell⟩ := HV.out.1.cell (by omega)
     obtain ⟨_, _, e0, hbl⟩ := HV.out.2 (by omega)
     injection e0 with e0; injection e0 with e0 e1; subst e0 e1
     obtain ⟨⟨_, _, _, _, _, _, _, _, g⟩, gf⟩ := hcell j2 hlt2
     have q : (wr.cell? ⟨bl, off + j2 * 9 + 8, none⟩).isSome = true := by rw [hsp2.out.sm, g]; rfl
     obtain ⟨u, hu⟩ := Option.isSome_iff_exists.1 q
     have f : wr.frozen? ⟨bl, off + j2 * 9 + 8, none⟩ = false := by rw [hsp2.out.fro]; exact gf rfl 8 (by omega)
     have HN := hid (hsp2.out.set hS (HS.out bl hS) (by omega) hu (.int .i64 77))
     clear hcell q g gf hsp2 hsp
     go_wp2_with fail
     go_roundw
     case rel => exact ⟨j2 + 1, by omega, by go_num, HN⟩
     case measure => simp [intOf]; omega
    ·have HE := hid (And.intro ((HW.out.mono hBN).trans hsp2.out.bel) (fun b (hb : ¬ S b) (hl : b < w.heap.size) => (hsp2.out.keep b hb (by have := HW.out.size; omega)).trans (HW.out.block b hl)))
     clear hsp hsp2
     go_wp2_with fail
     go_end0
     exact ⟨rfl, HE.out.1, HE.out.2⟩
theorem Aj (w : World) (cs : Array Value) (T : TypeId) (sz : Nat) (hs : cs.size = sz) (h0 : 0 < sz) : Sl (w.alloc (.cells cs T)) (fun _ => True) true sz 1 cs.toList (.slice (some ⟨w.heap.size, 0, none⟩) 1 1) := by
 refine ⟨by simp [hs], by omega, _, _, rfl, Nat.le_refl _, fun _ => ⟨_, _, rfl, trivial, fun j hj => ?_⟩⟩
 have hj2 : j < cs.size := by simpa using hj
 rw [cell_of_row _ _ (0 + j) cs T (0, 0) (heap_alloc_new w _), frozen_of_row _ _ (0 + j) cs T (heap_alloc_new w _)]
 simp [hj2]
theorem sK (S : Nat → Prop) (own : Bool) (l : List Ed) (v : Value) (w : World) (hr : aX w S own l v) (hn : ∀ e ∈ l, e.nums) (hl : l.length ≤ 100000) (hL : Lq w.heap.size w) :
  Calls Tryz.prog 50 #[v] w fun e w' => ∃ v', e = .returned v' ∧ w'.ownsRow w.heap.size 108 9 v' l.length (bD l) ∧ Below w.heap.size w w' := by
 obtain ⟨i0, hi0, hz0, hz1, hz2⟩ := info_parts ve
 obtain ⟨_, _, ad, cap, rfl, hc⟩ := Sl.shape hr
 have HR := hid (And.intro hr (And.intro hn hL))
 clear hr hn hL
 go_enter Tryz.func50, Tryz.ntmps50
 go_wp2_with fail
 go_loopw [3, 4] (fun sv i wr => ∃ j : Nat, j ≤ l.length ∧ i = .int .i64 j ∧ wr.ownsRow w.heap.size 108 9 sv j (bD (l.take j)) ∧ Below w.heap.size w wr) (fun _ i _ => l.length - (intOf i).toNat)
 case atStart => exact ⟨0, by omega, rfl, World.ownsRow_nil _ _ _ _, br⟩
 case round =>
  obtain ⟨j, hj, rfl, hown, hbel⟩ := hrel
  by_cases hlt : j < l.length
  ·obtain ⟨bl, off, rfl, _, hbl, hcell⟩ := HR.out.1.cell (by omega)
   obtain ⟨⟨g0, g1, g2, g3, g4, g5, g6, g7, g8⟩, _⟩ := hcell j hlt
   have q0 := (hbel.cell (p := ⟨bl, off + j * 9, none⟩) hbl).trans g0
   have q1 := (hbel.cell (p := ⟨bl, off + j * 9 + 1, none⟩) hbl).trans g1
   have q2 := (hbel.cell (p := ⟨bl, off + j * 9 + 2, none⟩) hbl).trans g2
   have q3 := (hbel.cell (p := ⟨bl, off + j * 9 + 3, none⟩) hbl).trans g3
   have q4 := (hbel.cell (p := ⟨bl, off + j * 9 + 4, none⟩) hbl).trans g4
   have q5 := (hbel.cell (p := ⟨bl, off + j * 9 + 5, none⟩) hbl).trans g5
   have q6 := (hbel.cell (p := ⟨bl, off + j * 9 + 6, none⟩) hbl).trans g6
   have q7 := (hbel.cell (p := ⟨bl, off + j * 9 + 7, none⟩) hbl).trans g7
   have q8 := (hbel.cell (p := ⟨bl, off + j * 9 + 8, none⟩) hbl).trans g8
   have hsz := hbel.size
   have hd := wS (e := l[j]) (HR.out.2.1 _ (List.getElem_mem hlt)) wr ((HR.out.2.2.below hbel).mono hsz)
   simp only [Ed.vals] at hd
   have HD := hid hd
   clear hd
   have HO := hid (And.intro hown hbel)
   have HT : Hid (bD (l.take (j + 1)) = bD (l.take j) ++ l[j].vals) := hid (by rw [List.take_succ_eq_append_getElem hlt, dG]; simp [bD])
   have x1 : (0 : Int) ≤ (j : Int) := by omega
   have x2 : (j : Int) < (l.length : Int) := by omega
   clear hcell g0 g1 g2 g3 g4 g5 g6 g7 g8 hown hbel
   go_wp2_with fail
   refine HD.out.mono ?_
   rintro e w1 ⟨rfl, hb1⟩
   have hs1 := hb1.size
   have HO1 := hid (And.intro (ownsRow_below HO.out.1 hb1 nl) (HO.out.2.trans (hb1.mono hsz)))
   clear hb1 q0 q1 q2 q3 q4 q5 q6 q7 q8
   go_wp2_with (at_builtin; go_loud (refine af _ rfl (.tmp 11) (.tmp 17) _ rfl w.heap.size 108 i0 _ 9 72 Tryz.underlying44 hi0 hz0 hz1 hz2 rfl (by omega) _ j (bD (l.take j)) rfl (HO1.out.1.alloc _) _ _ 1 [.int .i64 l[j].a, .int .i64 l[j].b, .int .i64 l[j].k, .int .u64 (l[j].x : Nat), .int .u64 (l[j].sw : Nat), .int .u64 (l[j].sn : Nat), .int .u64 (l[j].mw : Nat), .int .u64 (l[j].mn : Nat), .int .i64 l[j].p] _ rfl (Aj w1 #[.int .i64 l[j].a, .int .i64 l[j].b, .int .i64 l[j].k, .int .u64 (l[j].x : Nat), .int .u64 (l[j].sw : Nat), .int .u64 (l[j].sn : Nat), .int .u64 (l[j].mw : Nat), .int .u64 (l[j].mn : Nat), .int .i64 l[j].p] 108 9 rfl (by omega)) (by simp [Value.oneCell']) (by unfold maxLen; omega) (by omega) (by simp; omega) ?_); intro v' w2 hown2 hgrow hat)
   have hlo := HO1.out.1.lt
   have HO2 := hid (And.intro hown2 ((HO1.out.2.alloc (by omega) _).grown hgrow (by simp; omega) (fun k hk => (hlo k hk).1)))
   clear hown2 hgrow hat hlo
   go_wp2_with fail
   go_roundw
   case rel => exact ⟨j + 1, by omega, by go_num, by rw [HT.out]; exact HO2.out.1, HO2.out.2⟩
   case measure => simp [intOf]; omega
  ·have hj2 : j = l.length := by omega
   subst hj2
   have HO := hid (And.intro hown hbel)
   clear hown hbel
   go_wp2_with fail
   go_ret
   exact ⟨_, rfl, by have := HO.out.1; rwa [List.take_length] at this, HO.out.2⟩
theorem wp_store_row {P : Program} {o : Oper} {a : Act} {w : World} {K : Act → World → Prop} {Q : Exit → Act → World → Prop} (ty : TypeId) (x y : Operand) (ho : o.op = .store ty x y)
  (g : Nat) (hx : a.eval x = .pointer (some ⟨g, 0, none⟩)) (cs : Array Value) (hy : a.eval y = .agg cs) (t : TypeId) (cur : Array Value) (hg : w.heap[g]? = some (.cells cur t (0, 0)))
  (hi : (P.info? ty).map (·.size) = some cs.size) (hsz : cs.size = cur.size) (h1 : ∀ v ∈ cs.toList, v.oneCell' = true)
  (h : K (a.put o.dst undef) (w.setRow g cs)) : Oper.wp P o a w K Q := by
 unfold Oper.wp execOp
 simp only [ho, hx, hy, Instr.storeAt, Instr.sureAddr, Sem.run_bind, Sem.run_pure, Result.andThen_ok, run_storeVar_row w g t ty cur cs hg hi hsz h1]
 exact h
def Fg (l : List Ed) (S : Nat → Prop) (v : Value) (w : World) : Prop := aX w S true l v
theorem Bc (l : List Ed) : eG (Fg l) := fun S S' v w w' hk hs hS h => aX.keep (w := w) h hk hS
def EI (c : Crt) (va : Option Addr) (vc : Nat) (S : Nat → Prop) (v : Value) (w : World) : Prop := ∃ wv, v = .agg #[.int .i64 c.k, .slice va c.o.length vc, .int .i64 c.p, .int .i64 c.q, wv] ∧ aX w S true c.w wv
theorem Bd (c : Crt) (va : Option Addr) (vc : Nat) : eG (EI c va vc) := fun S S' v w w' hk hs hS h => by
 obtain ⟨wv, h1, h2⟩ := h
 exact ⟨wv, h1, h2.keep hk hS⟩
theorem aX.one {w : World} {S : Nat → Prop} {own : Bool} {l : List Ed} {v : Value} (h : aX w S own l v) : v.oneCell' = true := by
 obtain ⟨_, _, ad, cap, rfl, _⟩ := Sl.shape h
 rfl
theorem df (S : Nat → Prop) (own : Bool) (c : Crt) (v : Value) (w : World) (hr : aL w S own c v) (hn : c.nums) (h1 : c.o.length ≤ 100000) (h2 : c.w.length ≤ 100000) (hL : Lq w.heap.size w) :
  Calls Tryz.prog 18 #[v] w (lV w c) := by
 obtain ⟨i0, hi0, hz0, hz1, hz2⟩ := info_parts kP
 obtain ⟨ad, cp, ad', cp', rfl, ho, hw, _, _, k1, k2⟩ := hr.shape
 have HR := hid (And.intro ho (And.intro hw (And.intro hn hL)))
 clear hr ho hw hn hL
 go_enter Tryz.func18, Tryz.ntmps18
 go_upto_region 1 with fail
 have hb0 : Below w.heap.size w ((w.alloc (.cells #[.int .i64 c.k, .slice ad c.o.length cp, .int .i64 c.p, .int .i64 c.q, .slice ad' c.w.length cp'] 25)).alloc (.cells #[.int .i64 0, .slice none 0 0, .int .i64 0, .int .i64 0, .slice none 0 0] 46)) := (br.alloc nl _).alloc (by simp) _
 have e0 : ((w.alloc (.cells #[.int .i64 c.k, .slice ad c.o.length cp, .int .i64 c.p, .int .i64 c.q, .slice ad' c.w.length cp'] 25)).alloc (.cells #[.int .i64 0, .slice none 0 0, .int .i64 0, .int .i64 0, .slice none 0 0] 46)).heap[w.heap.size]? = some (.cells #[.int .i64 c.k, .slice ad c.o.length cp, .int .i64 c.p, .int .i64 c.q, .slice ad' c.w.length cp'] 25 (0, 0)) := (Below.heap_alloc _ _ _ (by simp)).trans (heap_alloc_new w _)
 have e1 : ((w.alloc (.cells #[.int .i64 c.k, .slice ad c.o.length cp, .int .i64 c.p, .int .i64 c.q, .slice ad' c.w.length cp'] 25)).alloc (.cells #[.int .i64 0, .slice none 0 0, .int .i64 0, .int .i64 0, .slice none 0 0] 46)).heap[w.heap.size + 1]? = some (.cells #[.int .i64 0, .slice none 0 0, .int .i64 0, .int .i64 0, .slice none 0 0] 46 (0, 0)) := by
  have := heap_alloc_new (w.alloc (.cells #[.int .i64 c.k, .slice ad c.o.length cp, .int .i64 c.p, .int .i64 c.q, .slice ad' c.w.length cp'] 25)) (.cells #[.int .i64 0, .slice none 0 0, .int .i64 0, .int .i64 0, .slice none 0 0] 46)
  rwa [World.size_alloc] at this
 have es : ((w.alloc (.cells #[.int .i64 c.k, .slice ad c.o.length cp, .int .i64 c.p, .int .i64 c.q, .slice ad' c.w.length cp'] 25)).alloc (.cells #[.int .i64 0, .slice none 0 0, .int .i64 0, .int .i64 0, .slice none 0 0] 46)).heap.size = w.heap.size + 2 := by rw [World.size_alloc, World.size_alloc]
 generalize (w.alloc (.cells #[.int .i64 c.k, .slice ad c.o.length cp, .int .i64 c.p, .int .i64 c.q, .slice ad' c.w.length cp'] 25)).alloc (.cells #[.int .i64 0, .slice none 0 0, .int .i64 0, .int .i64 0, .slice none 0 0] 46) = Y at hb0 e0 e1 es ⊢
 have HO := hid (HR.out.1.below hb0 nl)
 have HE := hid (And.intro hb0 (And.intro e0 (And.intro e1 es)))
 have y1 : Y.cell? ⟨w.heap.size, 1, none⟩ = some (.slice ad c.o.length cp) := by rw [cell_of_row Y _ 1 _ _ _ e0]; rfl
 clear hb0 e0 e1 es
 go_wp2_with (at_builtin; go_loud (refine af _ rfl (.tmp 4) (.tmp 6) _ rfl Y.heap.size 3 i0 _ 1 8 Tryz.underlying22 hi0 hz0 hz1 hz2 rfl (by omega) _ 0 [] rfl (World.ownsRow_nil _ _ _ _) _ _ c.o.length (ints c.o) _ rfl HO.out (wG _) (by unfold maxLen; omega) (by omega) (by omega) ?_); intro v1 X hown1 hgrow1 hat1)
 obtain ⟨hb0, e0, e1, es⟩ := HE.out
 have hYX : Below Y.heap.size Y X := br.grown hgrow1 nl (fun k hk => by cases hk)
 have hsX := hYX.size
 have f0 : X.heap[w.heap.size]? = _ := (hYX.block _ (by omega)).trans e0
 have hrow : X.heap[w.heap.size + 1]? = _ := (hYX.block _ (by omega)).trans e1
 have hbX : Below w.heap.size w X := hb0.trans (hYX.mono (by omega))
 rw [Nat.zero_add] at hown1
 obtain ⟨va, vc, rfl⟩ := ag hown1
 have d0 : X.cell? ⟨w.heap.size, 0, none⟩ = some (.int .i64 c.k) := by rw [cell_of_row X _ 0 _ _ _ f0]; rfl
 have d2 : X.cell? ⟨w.heap.size, 2, none⟩ = some (.int .i64 c.p) := by rw [cell_of_row X _ 2 _ _ _ f0]; rfl
 have d3 : X.cell? ⟨w.heap.size, 3, none⟩ = some (.int .i64 c.q) := by rw [cell_of_row X _ 3 _ _ _ f0]; rfl
 have d4 : X.cell? ⟨w.heap.size, 4, none⟩ = some (.slice ad' c.w.length cp') := by rw [cell_of_row X _ 4 _ _ _ f0]; rfl
 have lx : w.heap.size < X.heap.size := by omega
 have lr : w.heap.size + 1 < X.heap.size := by omega
 have HV := hid (And.intro (HR.out.2.1.below hbX nl) (And.intro HR.out.2.2.1.2.2.2.2 (And.intro h2 ((HR.out.2.2.2.below hbX).mono hbX.size))))
 have HOX : Hid (bn X (fun b => Y.heap.size ≤ b) true c.o (.slice va c.o.length vc)) := hid (bn.of_owns (by simpa using hown1))
 have HBX := hid (And.intro hbX es)
 clear hown1 hgrow1 hat1 hYX f0 hbX HO HE y1 e0 e1 es hb0 hsX
 refine ak (w0 := X) rfl [.eq (.pointer (some ⟨w.heap.size, 0, none⟩)), .eq (.int .i64 c.k), .eq (.slice va c.o.length vc), .eq (.pointer (some ⟨w.heap.size, 2, none⟩)), .eq (.int .i64 c.p), .eq (.pointer (some ⟨w.heap.size, 3, none⟩)), .eq (.int .i64 c.q), .eq (.pointer (some ⟨w.heap.size, 4, none⟩)), .eq (.slice ad' c.w.length cp'), .of (Fg c.w), .of (EI c va vc), .tail] 11 [] [] (by kernel_rfl) ⟨?_, ?_, ?_, ?_, ?_, ?_, ?_, ?_, ?_, ?_, ?_, ?_, ?_, trivial⟩ trivial [fun vs w' => ∃ wx wv, vs 10 = .agg #[.int .i64 c.k, .slice va c.o.length vc, .int .i64 c.p, .int .i64 c.q, wv] ∧ Below X.heap.size X wx ∧ aX wx (fun b => X.heap.size ≤ b) true c.w wv ∧ w' = wx.setRow (w.heap.size + 1) #[.int .i64 c.k, .slice va c.o.length vc, .int .i64 c.p, .int .i64 c.q, wv]] ⟨?_, trivial⟩ (fun vs => [(8, (.pointer (some ⟨w.heap.size, 0, none⟩))), (9, (.int .i64 c.k)), (10, (.slice va c.o.length vc)), (11, (.pointer (some ⟨w.heap.size, 2, none⟩))), (12, (.int .i64 c.p)), (13, (.pointer (some ⟨w.heap.size, 3, none⟩))), (14, (.int .i64 c.q)), (15, (.pointer (some ⟨w.heap.size, 4, none⟩))), (16, (.slice ad' c.w.length cp')), (17, vs 9), (18, vs 10)]) (fun _ => rfl) ?_
 ·refine rs fun S a wx K Q hR hK => ?_
  have t1 : a.tmps[1]? = some (.pointer (some ⟨w.heap.size, 0, none⟩)) := hR.o 1
  go_simp
  exact hK _ _ br rfl
 ·refine rs fun S a wx K Q hR hK => ?_
  have t8 := hR.q 0
  have y0 := (hR.bel.cell (p := ⟨w.heap.size, 0, none⟩) lx).trans d0
  go_simp
  exact hK _ _ br rfl
 ·refine rs fun S a wx K Q hR hK => ?_
  have t3 : a.tmps[3]? = some (.slice va c.o.length vc) := hR.o 3
  go_simp
  exact hK _ _ br rfl
 ·refine rs fun S a wx K Q hR hK => ?_
  have t1 : a.tmps[1]? = some (.pointer (some ⟨w.heap.size, 0, none⟩)) := hR.o 1
  go_simp
  exact hK _ _ br rfl
 ·refine rs fun S a wx K Q hR hK => ?_
  have t11 := hR.q 3
  have y0 := (hR.bel.cell (p := ⟨w.heap.size, 2, none⟩) lx).trans d2
  go_simp
  exact hK _ _ br rfl
 ·refine rs fun S a wx K Q hR hK => ?_
  have t1 : a.tmps[1]? = some (.pointer (some ⟨w.heap.size, 0, none⟩)) := hR.o 1
  go_simp
  exact hK _ _ br rfl
 ·refine rs fun S a wx K Q hR hK => ?_
  have t13 := hR.q 5
  have y0 := (hR.bel.cell (p := ⟨w.heap.size, 3, none⟩) lx).trans d3
  go_simp
  exact hK _ _ br rfl
 ·refine rs fun S a wx K Q hR hK => ?_
  have t1 : a.tmps[1]? = some (.pointer (some ⟨w.heap.size, 0, none⟩)) := hR.o 1
  go_simp
  exact hK _ _ br rfl
 ·refine rs fun S a wx K Q hR hK => ?_
  have t15 := hR.q 7
  have y0 := (hR.bel.cell (p := ⟨w.heap.size, 4, none⟩) lx).trans d4
  go_simp
  exact hK _ _ br rfl
 ·exact Bc _
 ·refine rs fun S a wx K Q hR hK => ?_
  have t16 := hR.q 8
  go_simp
  go_at_call 50
  refine (sK _ _ c.w _ wx (HV.out.1.below hR.bel nl) HV.out.2.1 HV.out.2.2.1 ((HV.out.2.2.2.below hR.bel).mono hR.bel.size)).mono ?_
  rintro e w' ⟨v1, rfl, hown1, hb1⟩
  exact hK _ _ hb1 ((aX.of_owns hown1).keep (fun _ _ _ => rfl) (fun b _ hb => hR.new b hb))
 ·exact Bd _ _ _
 ·refine rs fun S a wx K Q hR hK => ?_
  have t9 := hR.q 1
  have t10 := hR.q 2
  have t12 := hR.q 4
  have t14 := hR.q 6
  obtain ⟨u17, t17, f17⟩ := hR.f 9
  obtain ⟨_, _, a17, c17, rfl, _⟩ := Sl.shape (show aX wx S true c.w u17 from f17)
  go_simp
  exact hK _ _ br ⟨_, rfl, f17⟩
 ·refine ts fun vs a wx K Q hR hZ hK => ?_
  have t2 : a.tmps[2]? = some (.pointer (some ⟨w.heap.size + 1, 0, none⟩)) := hR.o 2
  have t18 := hR.d 10 18
  obtain ⟨hbel2, S2, hlow, hof⟩ := hZ
  obtain ⟨wv, ev, hwv⟩ : EI c va vc S2 (vs 10) wx := hof 10 _ rfl
  rw [ev] at t18
  have hg : wx.heap[w.heap.size + 1]? = some (.cells #[.int .i64 0, .slice none 0 0, .int .i64 0, .int .i64 0, .slice none 0 0] 46 (0, 0)) := (hbel2.block _ lr).trans hrow
  have hw1 := aX.one hwv
  refine wp_store_row 46 (.tmp 2) (.tmp 18) rfl (w.heap.size + 1) (aI t2) #[.int .i64 c.k, .slice va c.o.length vc, .int .i64 c.p, .int .i64 c.q, wv] (aI t18) 46 _ hg (by kernel_rfl) rfl (by simp [Value.oneCell']; exact hw1) ?_
  exact hK undef _ ⟨wx, wv, (upd_ne _ _ (by omega)).trans ev, hbel2, hwv.keep (fun _ _ _ => rfl) (fun b _ hb => hlow b hb), rfl⟩
 intro vs wN hE hZ
 obtain ⟨wx, wv, ev, hbel2, hwv, rfl⟩ := hZ
 obtain ⟨ax, cx, rfl⟩ : ∃ ax cx, wv = .slice ax c.w.length cx := by obtain ⟨_, _, ad, cap, rfl, _⟩ := Sl.shape hwv; exact ⟨_, _, rfl⟩
 have hg : wx.heap[w.heap.size + 1]? = some (.cells #[.int .i64 0, .slice none 0 0, .int .i64 0, .int .i64 0, .slice none 0 0] 46 (0, 0)) := (hbel2.block _ lr).trans hrow
 have HF : Hid (aL (wx.setRow (w.heap.size + 1) #[.int .i64 c.k, .slice va c.o.length vc, .int .i64 c.p, .int .i64 c.q, .slice ax c.w.length cx]) (fun b => w.heap.size ≤ b) true c (.agg #[.int .i64 c.k, .slice va c.o.length vc, .int .i64 c.p, .int .i64 c.q, .slice ax c.w.length cx]) ∧ Below w.heap.size w (wx.setRow (w.heap.size + 1) #[.int .i64 c.k, .slice va c.o.length vc, .int .i64 c.p, .int .i64 c.q, .slice ax c.w.length cx])) := hid ⟨⟨_, _, rfl,
  ((HOX.out.below hbel2 nl).keep (aC (g := w.heap.size + 1) (fun h => by have h : Y.heap.size ≤ w.heap.size + 1 := h; have := HBX.out.2; omega)) (fun b _ hb => by have hb : Y.heap.size ≤ b := hb; have := HBX.out.2; omega)),
  (hwv.keep (aC (g := w.heap.size + 1) (fun h => by have h : X.heap.size ≤ w.heap.size + 1 := h; omega)) (fun b _ hb => by have hb : X.heap.size ≤ b := hb; omega))⟩, below_setRow (HBX.out.1.trans (hbel2.mono HBX.out.1.size)) _ _ (by omega)⟩
 simp only [ev, aP, List.foldl_cons, List.foldl_nil]
 clear hE ev hbel2 hwv HOX HBX d0 d2 d3 d4 lx
 generalize vs 9 = v9
 go_simp
 (try (go_wp2_with fail))
 exact bodyPost_ret (v := .agg #[.int .i64 c.k, .slice va c.o.length vc, .int .i64 c.p, .int .i64 c.q, .slice ax c.w.length cx]) (results_cell_row rfl _ _ (w.heap.size + 1) 46 _ _ _ rfl (setRow_heap _ _ _ _ _ _ hg) Tryz.underlying46 rfl (by kernel_rfl)) rfl ⟨_, rfl, HF.out.1, HF.out.2⟩
theorem Ed.eq_dec (a b : Ed) : decide (a = b) = (decide (a.a = b.a) && decide (a.b = b.b) && decide (a.k = b.k) && decide (a.x = b.x) && decide (a.sw = b.sw) && decide (a.sn = b.sn) && decide (a.mw = b.mw) && decide (a.mn = b.mn) && decide (a.p = b.p)) := by
 cases a; cases b; rw [Bool.eq_iff_iff]; simp [and_assoc]
theorem Ev (a b : Ed) (w : World) : (binOp .neq 54 (.agg #[.int .i64 a.a, .int .i64 a.b, .int .i64 a.k, .int .u64 a.x, .int .u64 a.sw, .int .u64 a.sn, .int .u64 a.mw, .int .u64 a.mn, .int .i64 a.p]) (.agg #[.int .i64 b.a, .int .i64 b.b, .int .i64 b.k, .int .u64 b.x, .int .u64 b.sw, .int .u64 b.sn, .int .u64 b.mw, .int .u64 b.mn, .int .i64 b.p])).run Tryz.prog w = .ok (.bool (!decide (a = b))) w := by
 have hn : ∀ (d : Nat) (xs ys : Array Value) (w : World), (Op.equalIn (d + 1) 52 (.agg xs) (.agg ys)).run Tryz.prog w = (Op.eqFields d xs ys (Tryz.prog.fieldsOf 52).toList).run Tryz.prog w := fun d xs ys w => run_equalIn_agg w d 52 _ _ (by kernel_rfl) (by kernel_rfl)
 rw [run_neq_struct, show (10000 : Nat) = 9999 + 1 from rfl, run_equalIn_agg w 9999 54 _ _ (by kernel_rfl) (by kernel_rfl)]
 simp only [Program.fieldsOf, Tryz.underlying54]
 rw [Ed.eq_dec]
 go_simp
 have hc : ∀ p q : Nat, ((p : Int) = (q : Int)) ↔ p = q := fun p q => Int.ofNat_inj
 simp only [hc]
 (repeat' split) <;> simp [*]
theorem Cq (a b : Ed) (w : World) : (binOp .neq 108 (.agg #[.int .i64 a.a, .int .i64 a.b, .int .i64 a.k, .int .u64 a.x, .int .u64 a.sw, .int .u64 a.sn, .int .u64 a.mw, .int .u64 a.mn, .int .i64 a.p]) (.agg #[.int .i64 b.a, .int .i64 b.b, .int .i64 b.k, .int .u64 b.x, .int .u64 b.sw, .int .u64 b.sn, .int .u64 b.mw, .int .u64 b.mn, .int .i64 b.p])).run Tryz.prog w = .ok (.bool (!decide (a = b))) w := by
 have hn : ∀ (d : Nat) (xs ys : Array Value) (w : World), (Op.equalIn (d + 1) 106 (.agg xs) (.agg ys)).run Tryz.prog w = (Op.eqFields d xs ys (Tryz.prog.fieldsOf 106).toList).run Tryz.prog w := fun d xs ys w => run_equalIn_agg w d 106 _ _ (by kernel_rfl) (by kernel_rfl)
 rw [run_neq_struct, show (10000 : Nat) = 9999 + 1 from rfl, run_equalIn_agg w 9999 108 _ _ (by kernel_rfl) (by kernel_rfl)]
 simp only [Program.fieldsOf, Tryz.underlying108]
 rw [Ed.eq_dec]
 go_simp
 have hc : ∀ p q : Nat, ((p : Int) = (q : Int)) ↔ p = q := fun p q => Int.ofNat_inj
 simp only [hc]
 (repeat' split) <;> simp [*]
theorem yI (S S' : Nat → Prop) (own own' : Bool) (l m : List Int) (v v' : Value) (w : World) (h : bn w S own l v) (h' : bn w S' own' m v') :
  Calls Tryz.prog 44 #[v, v'] w fun e w' => e = .returned (.bool (decide (l = m))) ∧ Below w.heap.size w w' := by
 obtain ⟨_, hl, ad, cap, rfl, _⟩ := Sl.shape h
 obtain ⟨_, hl', ad', cap', rfl, _⟩ := Sl.shape h'
 have HH := hid (And.intro h h')
 clear h h'
 by_cases hlen : l.length = m.length
 ·have t1 : ((l.length : Int) != (m.length : Int)) = false := by simp [hlen]
  have HL := hid hlen
  clear hlen
  go_enter Tryz.func44, Tryz.ntmps44
  go_wp2_with fail
  go_loopw [13] (fun i wr => ∃ j : Nat, i = .int .i64 j ∧ j ≤ l.length ∧ l.take j = m.take j ∧ Below w.heap.size w wr) (fun i _ => l.length - (intOf i).toNat)
  case atStart => exact ⟨0, rfl, by omega, by simp, br⟩
  case round =>
   obtain ⟨j, rfl, hj, heq, hb⟩ := hrel
   have HB := hid hb
   have HE := hid heq
   by_cases hlt : j < l.length
   ·have hlt' : j < m.length := by have := HL.out; omega
    obtain ⟨bl, off, rfl, _, _, r1⟩ := (HH.out.1.below hb nl).cell (by omega)
    obtain ⟨bl', off', rfl, _, _, r2⟩ := (HH.out.2.below hb nl).cell (by omega)
    have r1 := (r1 j hlt).1
    have r2 := (r2 j hlt').1
    have c0 := r1
    have d0 := r2
    clear r1 r2
    clear hb heq
    have x1 : (0 : Int) ≤ (j : Int) := by omega
    have x2 : (j : Int) < (l.length : Int) := by omega
    have x3 : (j : Int) < (m.length : Int) := by omega
    by_cases he : l[j] = m[j]
    ·have HX := hid he
     have hq : (l[j] != m[j]) = false := by simp [he]
     clear he
     go_wp2_with fail
     go_quiet (fail)
     go_wp2_with fail
     go_roundw
     case rel => exact ⟨j + 1, by go_num, by omega, fu _ _ j hlt hlt' HE.out HX.out, below_drewN HB.out _⟩
     case measure => simp [intOf]; omega
    ·have HX := hid he
     have hq : (l[j] != m[j]) = true := by simp [he]
     clear he
     go_wp2_with fail
     go_quiet (fail)
     go_wp2_with fail
     go_ret
     exact ⟨ai (by rw [decide_eq_false]; intro e; subst e; exact HX.out rfl), below_drewN HB.out _⟩
   ·have hj2 : j = l.length := by omega
    subst hj2
    clear hb heq
    go_wp2_with fail
    go_ret
    refine ⟨ai ?_, HB.out⟩
    have h1 := HE.out
    rw [List.take_length, HL.out, List.take_length] at h1
    rw [decide_eq_true h1]
 ·have t1 : ((l.length : Int) != (m.length : Int)) = true := by simp; omega
  go_enter Tryz.func44, Tryz.ntmps44
  go_wp2_with fail
  go_ret
  exact ⟨ai (by rw [decide_eq_false]; intro e; exact hlen (by rw [e])), br⟩
theorem Be (S S' : Nat → Prop) (own own' : Bool) (l m : List Ed) (v v' : Value) (w : World) (h : aX w S own l v) (h' : aX w S' own' m v') :
  Calls Tryz.prog 45 #[v, v'] w fun e w' => e = .returned (.bool (decide (l = m))) ∧ Below w.heap.size w w' := by
 obtain ⟨_, hl, ad, cap, rfl, _⟩ := Sl.shape h
 obtain ⟨_, hl', ad', cap', rfl, _⟩ := Sl.shape h'
 have HH := hid (And.intro h h')
 clear h h'
 by_cases hlen : l.length = m.length
 ·have t1 : ((l.length : Int) != (m.length : Int)) = false := by simp [hlen]
  have HL := hid hlen
  clear hlen
  go_enter Tryz.func45, Tryz.ntmps45
  go_wp2_with fail
  go_loopw [13] (fun i wr => ∃ j : Nat, i = .int .i64 j ∧ j ≤ l.length ∧ l.take j = m.take j ∧ Below w.heap.size w wr) (fun i _ => l.length - (intOf i).toNat)
  case atStart => exact ⟨0, rfl, by omega, by simp, br⟩
  case round =>
   obtain ⟨j, rfl, hj, heq, hb⟩ := hrel
   have HB := hid hb
   have HE := hid heq
   by_cases hlt : j < l.length
   ·have hlt' : j < m.length := by have := HL.out; omega
    obtain ⟨bl, off, rfl, _, _, r1⟩ := (HH.out.1.below hb nl).cell (by omega)
    obtain ⟨bl', off', rfl, _, _, r2⟩ := (HH.out.2.below hb nl).cell (by omega)
    have r1 := (r1 j hlt).1
    have r2 := (r2 j hlt').1
    have c0 := r1.1
    have c1 := r1.2.1
    have c2 := r1.2.2.1
    have c3 := r1.2.2.2.1
    have c4 := r1.2.2.2.2.1
    have c5 := r1.2.2.2.2.2.1
    have c6 := r1.2.2.2.2.2.2.1
    have c7 := r1.2.2.2.2.2.2.2.1
    have c8 := r1.2.2.2.2.2.2.2.2
    have d0 := r2.1
    have d1 := r2.2.1
    have d2 := r2.2.2.1
    have d3 := r2.2.2.2.1
    have d4 := r2.2.2.2.2.1
    have d5 := r2.2.2.2.2.2.1
    have d6 := r2.2.2.2.2.2.2.1
    have d7 := r2.2.2.2.2.2.2.2.1
    have d8 := r2.2.2.2.2.2.2.2.2
    clear r1 r2
    clear hb heq
    have x1 : (0 : Int) ≤ (j : Int) := by omega
    have x2 : (j : Int) < (l.length : Int) := by omega
    have x3 : (j : Int) < (m.length : Int) := by omega
    have hm : Tryz.prog.eqGuardType Tryz.prog.depth 54 = false := by kernel_rfl
    by_cases he : l[j] = m[j]
    ·have HX := hid he
     have hq : ∀ W, (binOp .neq 54 (.agg #[.int .i64 l[j].a, .int .i64 l[j].b, .int .i64 l[j].k, .int .u64 l[j].x, .int .u64 l[j].sw, .int .u64 l[j].sn, .int .u64 l[j].mw, .int .u64 l[j].mn, .int .i64 l[j].p]) (.agg #[.int .i64 m[j].a, .int .i64 m[j].b, .int .i64 m[j].k, .int .u64 m[j].x, .int .u64 m[j].sw, .int .u64 m[j].sn, .int .u64 m[j].mw, .int .u64 m[j].mn, .int .i64 m[j].p])).run Tryz.prog W = .ok (.bool false) W := fun W => by rw [Ev]; simp [he]
     clear he
     go_wp2_with fail
     go_quiet (fail)
     go_wp2_with fail
     go_roundw
     case rel => exact ⟨j + 1, by go_num, by omega, fu _ _ j hlt hlt' HE.out HX.out, below_drewN HB.out _⟩
     case measure => simp [intOf]; omega
    ·have HX := hid he
     have hq : ∀ W, (binOp .neq 54 (.agg #[.int .i64 l[j].a, .int .i64 l[j].b, .int .i64 l[j].k, .int .u64 l[j].x, .int .u64 l[j].sw, .int .u64 l[j].sn, .int .u64 l[j].mw, .int .u64 l[j].mn, .int .i64 l[j].p]) (.agg #[.int .i64 m[j].a, .int .i64 m[j].b, .int .i64 m[j].k, .int .u64 m[j].x, .int .u64 m[j].sw, .int .u64 m[j].sn, .int .u64 m[j].mw, .int .u64 m[j].mn, .int .i64 m[j].p])).run Tryz.prog W = .ok (.bool true) W := fun W => by rw [Ev]; simp [he]
     clear he
     go_wp2_with fail
     go_quiet (fail)
     go_wp2_with fail
     go_ret
     exact ⟨ai (by rw [decide_eq_false]; intro e; subst e; exact HX.out rfl), below_drewN HB.out _⟩
   ·have hj2 : j = l.length := by omega
    subst hj2
    clear hb heq
    go_wp2_with fail
    go_ret
    refine ⟨ai ?_, HB.out⟩
    have h1 := HE.out
    rw [List.take_length, HL.out, List.take_length] at h1
    rw [decide_eq_true h1]
 ·have t1 : ((l.length : Int) != (m.length : Int)) = true := by simp; omega
  go_enter Tryz.func45, Tryz.ntmps45
  go_wp2_with fail
  go_ret
  exact ⟨ai (by rw [decide_eq_false]; intro e; exact hlen (by rw [e])), br⟩
theorem Crt.eq_dec (a b : Crt) : decide (a = b) = (decide (a.k = b.k) && decide (a.p = b.p) && decide (a.q = b.q) && decide (a.o = b.o) && decide (a.w = b.w)) := by
 cases a; cases b; rw [Bool.eq_iff_iff]; simp only [decide_eq_true_eq, Bool.and_eq_true, Crt.mk.injEq, and_assoc]
 constructor
 ·rintro ⟨h1, h2, h3, h4, h5⟩; exact ⟨h1, h3, h4, h2, h5⟩
 ·rintro ⟨h1, h2, h3, h4, h5⟩; exact ⟨h1, h4, h2, h3, h5⟩
theorem dK (S S' : Nat → Prop) (own own' : Bool) (c d : Crt) (v v' : Value) (w : World) (h : aL w S own c v) (h' : aL w S' own' d v') :
  Calls Tryz.prog 12 #[v, v'] w fun e w' => e = .returned (.bool (decide (c = d))) ∧ Below w.heap.size w w' := by
 obtain ⟨ad, cp, ad', cp', rfl, ho, hw, l1, l2, k1, k2⟩ := h.shape
 obtain ⟨bd, dp, bd', dp', rfl, ho', hw', m1, m2, j1, j2⟩ := h'.shape
 rw [Crt.eq_dec]
 have hb0 : Below w.heap.size w ((w.alloc (.cells #[.int .i64 c.k, .slice ad c.o.length cp, .int .i64 c.p, .int .i64 c.q, .slice ad' c.w.length cp'] 25)).alloc (.cells #[.int .i64 d.k, .slice bd d.o.length dp, .int .i64 d.p, .int .i64 d.q, .slice bd' d.w.length dp'] 25)) := (br.alloc nl _).alloc (by simp) _
 have HH := hid (And.intro (ho.below hb0 nl) (And.intro (hw.below hb0 nl) (And.intro (ho'.below hb0 nl) (hw'.below hb0 nl))))
 have HB0 := hid hb0
 clear hb0 ho hw ho' hw' h h'
 by_cases e1 : ¬ c.k = d.k
 ·have t1 : (c.k == d.k) = false := by simp [e1]
  have HE := hid e1
  clear e1
  go_enter Tryz.func12, Tryz.ntmps12
  go_wp2_with fail
  go_ret
  exact ⟨ai (by simp [HE.out]), HB0.out⟩
 have e1 := Classical.not_not.1 e1
 have t1 : (c.k == d.k) = true := by simp [e1]
 have HE1 := hid e1
 clear e1
 by_cases e2 : ¬ c.p = d.p
 ·have t2 : (c.p == d.p) = false := by simp [e2]
  have HE := hid e2
  clear e2
  go_enter Tryz.func12, Tryz.ntmps12
  go_wp2_with fail
  go_ret
  exact ⟨ai (by simp [HE.out]), HB0.out⟩
 have e2 := Classical.not_not.1 e2
 have t2 : (c.p == d.p) = true := by simp [e2]
 have HE2 := hid e2
 clear e2
 by_cases e3 : ¬ c.q = d.q
 ·have t3 : (c.q == d.q) = false := by simp [e3]
  have HE := hid e3
  clear e3
  go_enter Tryz.func12, Tryz.ntmps12
  go_wp2_with fail
  go_ret
  exact ⟨ai (by simp [HE.out]), HB0.out⟩
 have e3 := Classical.not_not.1 e3
 have t3 : (c.q == d.q) = true := by simp [e3]
 have HE3 := hid e3
 clear e3
 have HEI := hid (yI _ _ _ _ _ _ _ _ _ HH.out.1 HH.out.2.2.1)
 by_cases e4 : ¬ c.o = d.o
 ·have HE := hid e4
  have t4 : decide (c.o = d.o) = false := by simp [e4]
  clear e4
  go_enter Tryz.func12, Tryz.ntmps12
  go_wp2_with (go_at_call 44; refine HEI.out.mono ?_; rw [t4]; rintro e w1 ⟨rfl, hb1⟩)
  go_ret
  exact ⟨ai (by simp [HE.out]), HB0.out.trans (hb1.mono HB0.out.size)⟩
 have e4 := Classical.not_not.1 e4
 have t4 : decide (c.o = d.o) = true := by simp [e4]
 have HE4 := hid e4
 clear e4
 have HC : Hid (∀ w1, Below ((w.alloc (.cells #[.int .i64 c.k, .slice ad c.o.length cp, .int .i64 c.p, .int .i64 c.q, .slice ad' c.w.length cp'] 25)).alloc (.cells #[.int .i64 d.k, .slice bd d.o.length dp, .int .i64 d.p, .int .i64 d.q, .slice bd' d.w.length dp'] 25)).heap.size ((w.alloc (.cells #[.int .i64 c.k, .slice ad c.o.length cp, .int .i64 c.p, .int .i64 c.q, .slice ad' c.w.length cp'] 25)).alloc (.cells #[.int .i64 d.k, .slice bd d.o.length dp, .int .i64 d.p, .int .i64 d.q, .slice bd' d.w.length dp'] 25)) w1 → w1.cell? ⟨w.heap.size, 4, none⟩ = some (.slice ad' c.w.length cp') ∧ w1.cell? ⟨w.heap.size + 1, 4, none⟩ = some (.slice bd' d.w.length dp') ∧ Calls Tryz.prog 45 #[.slice ad' c.w.length cp', .slice bd' d.w.length dp'] w1 (fun e w' => e = .returned (.bool (decide (c.w = d.w))) ∧ Below w1.heap.size w1 w') ∧ Below w.heap.size w w1) := hid (fun w1 hb1 =>
  ⟨(hb1.cell (p := ⟨w.heap.size, 4, none⟩) (by simp; omega)).trans (by rw [cell_of_row _ _ 4 _ _ _ ((Below.heap_alloc _ _ _ (by simp)).trans (heap_alloc_new w _))]; rfl),
    (hb1.cell (p := ⟨w.heap.size + 1, 4, none⟩) (by simp)).trans (by rw [cell_of_row _ _ 4 _ _ _ (az _ _ _ (by simp))]; rfl),
    Be _ _ _ _ _ _ _ _ _ (HH.out.2.1.below hb1 nl) (HH.out.2.2.2.below hb1 nl), HB0.out.trans (hb1.mono HB0.out.size)⟩)
 go_enter Tryz.func12, Tryz.ntmps12
 go_wp2_with (first
  | (go_at_call 44; refine HEI.out.mono ?_; rw [t4]; rintro e w1 ⟨rfl, hb1⟩; obtain ⟨c4, d4, hq, hbw⟩ := HC.out w1 hb1; have HQ := hid hq; have HBW := hid hbw; clear hq hbw hb1)
  | (go_at_call 45; refine HQ.out.mono ?_; rintro e w2 ⟨rfl, hb2⟩)
  | fail)
 go_ret
 exact ⟨ai (by simp [HE1.out, HE2.out, HE3.out, HE4.out]), HBW.out.trans (hb2.mono HBW.out.size)⟩
theorem bB (S S' : Nat → Prop) (own own' : Bool) (c d : Crt) (v v' : Value) (w : World) (h : aL w S own c v) (h' : aL w S' own' d v') :
  Calls Tryz.prog 53 #[v, v'] w fun e w' => e = .returned (.bool (decide (c = d))) ∧ Below w.heap.size w w' := by
 obtain ⟨ad, cp, ad', cp', rfl, ho, hw, l1, l2, k1, k2⟩ := h.shape
 obtain ⟨bd, dp, bd', dp', rfl, ho', hw', m1, m2, j1, j2⟩ := h'.shape
 rw [Crt.eq_dec]
 have hb0 : Below w.heap.size w ((w.alloc (.cells #[.int .i64 c.k, .slice ad c.o.length cp, .int .i64 c.p, .int .i64 c.q, .slice ad' c.w.length cp'] 46)).alloc (.cells #[.int .i64 d.k, .slice bd d.o.length dp, .int .i64 d.p, .int .i64 d.q, .slice bd' d.w.length dp'] 46)) := (br.alloc nl _).alloc (by simp) _
 have HH := hid (And.intro (ho.below hb0 nl) (And.intro (hw.below hb0 nl) (And.intro (ho'.below hb0 nl) (hw'.below hb0 nl))))
 have HB0 := hid hb0
 clear hb0 ho hw ho' hw' h h'
 by_cases e1 : ¬ c.k = d.k
 ·have t1 : (c.k != d.k) = true := by simp; omega
  have HE := hid e1
  clear e1
  go_enter Tryz.func53, Tryz.ntmps53
  go_wp2_with fail
  go_ret
  exact ⟨ai (by simp [HE.out]), HB0.out⟩
 have e1 := Classical.not_not.1 e1
 have t1 : (c.k != d.k) = false := by simp [e1]
 have HE1 := hid e1
 clear e1
 by_cases e2 : ¬ c.p = d.p
 ·have t2 : (c.p != d.p) = true := by simp; omega
  have HE := hid e2
  clear e2
  go_enter Tryz.func53, Tryz.ntmps53
  go_wp2_with fail
  go_ret
  exact ⟨ai (by simp [HE.out]), HB0.out⟩
 have e2 := Classical.not_not.1 e2
 have t2 : (c.p != d.p) = false := by simp [e2]
 have HE2 := hid e2
 clear e2
 by_cases e3 : ¬ c.q = d.q
 ·have t3 : (c.q != d.q) = true := by simp; omega
  have HE := hid e3
  clear e3
  go_enter Tryz.func53, Tryz.ntmps53
  go_wp2_with fail
  go_ret
  exact ⟨ai (by simp [HE.out]), HB0.out⟩
 have e3 := Classical.not_not.1 e3
 have t3 : (c.q != d.q) = false := by simp [e3]
 have HE3 := hid e3
 clear e3
 by_cases e4 : ¬ c.o.length = d.o.length
 ·have t4 : ((c.o.length : Int) != (d.o.length : Int)) = true := by simp; omega
  have HE := hid e4
  clear e4
  go_enter Tryz.func53, Tryz.ntmps53
  go_wp2_with fail
  go_ret
  exact ⟨ai (by rw [decide_eq_false (show ¬ c.o = d.o from fun e => HE.out (by rw [e]))]; simp), HB0.out⟩
 have e4 := Classical.not_not.1 e4
 have t4 : ((c.o.length : Int) != (d.o.length : Int)) = false := by simp [e4]
 have HE4 := hid e4
 clear e4
 by_cases e5 : ¬ c.w.length = d.w.length
 ·have t5 : ((c.w.length : Int) != (d.w.length : Int)) = true := by simp; omega
  have HE := hid e5
  clear e5
  go_enter Tryz.func53, Tryz.ntmps53
  go_wp2_with fail
  go_ret
  exact ⟨ai (by rw [decide_eq_false (show ¬ c.w = d.w from fun e => HE.out (by rw [e]))]; simp), HB0.out⟩
 have e5 := Classical.not_not.1 e5
 have t5 : ((c.w.length : Int) != (d.w.length : Int)) = false := by simp [e5]
 have HE5 := hid e5
 clear e5
 go_enter Tryz.func53, Tryz.ntmps53
 go_upto_region 1 with fail
 have q0 : ((w.alloc (.cells #[.int .i64 c.k, .slice ad c.o.length cp, .int .i64 c.p, .int .i64 c.q, .slice ad' c.w.length cp'] 46)).alloc (.cells #[.int .i64 d.k, .slice bd d.o.length dp, .int .i64 d.p, .int .i64 d.q, .slice bd' d.w.length dp'] 46)).heap[w.heap.size]? = some (.cells #[.int .i64 c.k, .slice ad c.o.length cp, .int .i64 c.p, .int .i64 c.q, .slice ad' c.w.length cp'] 46 (0, 0)) := (Below.heap_alloc _ _ _ (by simp)).trans (heap_alloc_new w _)
 have q1 : ((w.alloc (.cells #[.int .i64 c.k, .slice ad c.o.length cp, .int .i64 c.p, .int .i64 c.q, .slice ad' c.w.length cp'] 46)).alloc (.cells #[.int .i64 d.k, .slice bd d.o.length dp, .int .i64 d.p, .int .i64 d.q, .slice bd' d.w.length dp'] 46)).heap[w.heap.size + 1]? = some (.cells #[.int .i64 d.k, .slice bd d.o.length dp, .int .i64 d.p, .int .i64 d.q, .slice bd' d.w.length dp'] 46 (0, 0)) := az _ _ _ (by simp)
 have zX : ((w.alloc (.cells #[.int .i64 c.k, .slice ad c.o.length cp, .int .i64 c.p, .int .i64 c.q, .slice ad' c.w.length cp'] 46)).alloc (.cells #[.int .i64 d.k, .slice bd d.o.length dp, .int .i64 d.p, .int .i64 d.q, .slice bd' d.w.length dp'] 46)).heap.size = w.heap.size + 2 := by rw [World.size_alloc, World.size_alloc]
 generalize ((w.alloc (.cells #[.int .i64 c.k, .slice ad c.o.length cp, .int .i64 c.p, .int .i64 c.q, .slice ad' c.w.length cp'] 46)).alloc (.cells #[.int .i64 d.k, .slice bd d.o.length dp, .int .i64 d.p, .int .i64 d.q, .slice bd' d.w.length dp'] 46)) = W at HH HB0 q0 q1 zX ⊢
 have lx : w.heap.size < W.heap.size := by omega
 have ly : w.heap.size + 1 < W.heap.size := by omega
 have a0 : W.cell? ⟨w.heap.size, 0, none⟩ = some (.int .i64 c.k) := by rw [cell_of_row W _ 0 _ _ _ q0]; rfl
 have a1 : W.cell? ⟨w.heap.size, 1, none⟩ = some (.slice ad c.o.length cp) := by rw [cell_of_row W _ 1 _ _ _ q0]; rfl
 have a2 : W.cell? ⟨w.heap.size, 2, none⟩ = some (.int .i64 c.p) := by rw [cell_of_row W _ 2 _ _ _ q0]; rfl
 have a3 : W.cell? ⟨w.heap.size, 3, none⟩ = some (.int .i64 c.q) := by rw [cell_of_row W _ 3 _ _ _ q0]; rfl
 have a4 : W.cell? ⟨w.heap.size, 4, none⟩ = some (.slice ad' c.w.length cp') := by rw [cell_of_row W _ 4 _ _ _ q0]; rfl
 have b0 : W.cell? ⟨w.heap.size + 1, 0, none⟩ = some (.int .i64 d.k) := by rw [cell_of_row W _ 0 _ _ _ q1]; rfl
 have b1 : W.cell? ⟨w.heap.size + 1, 1, none⟩ = some (.slice bd d.o.length dp) := by rw [cell_of_row W _ 1 _ _ _ q1]; rfl
 have b2 : W.cell? ⟨w.heap.size + 1, 2, none⟩ = some (.int .i64 d.p) := by rw [cell_of_row W _ 2 _ _ _ q1]; rfl
 have b3 : W.cell? ⟨w.heap.size + 1, 3, none⟩ = some (.int .i64 d.q) := by rw [cell_of_row W _ 3 _ _ _ q1]; rfl
 have b4 : W.cell? ⟨w.heap.size + 1, 4, none⟩ = some (.slice bd' d.w.length dp') := by rw [cell_of_row W _ 4 _ _ _ q1]; rfl
 have HL := hid (And.intro lx ly)
 clear q0 q1 zX lx ly
 go_wp2_with fail
 go_loopw [5] (fun i wr => ∃ j : Nat, i = .int .i64 j ∧ j ≤ c.o.length ∧ c.o.take j = d.o.take j ∧ Below W.heap.size W wr) (fun i _ => c.o.length - (intOf i).toNat)
 case atStart => exact ⟨0, rfl, by omega, by simp, br⟩
 case round =>
  obtain ⟨j, rfl, hj, heq, hb⟩ := hrel
  have HB := hid hb
  have HE := hid heq
  have p1 := (hb.cell (p := ⟨w.heap.size, 1, none⟩) HL.out.1).trans a1
  have p2 := (hb.cell (p := ⟨w.heap.size + 1, 1, none⟩) HL.out.2).trans b1
  by_cases hlt : j < c.o.length
  ·have hlt' : j < d.o.length := by have := HE4.out; omega
   obtain ⟨bl, off, rfl, _, _, r1⟩ := (HH.out.1.below hb nl).cell (by omega)
   obtain ⟨bl', off', rfl, _, _, r2⟩ := (HH.out.2.2.1.below hb nl).cell (by omega)
   have r1 := (r1 j hlt).1
   have r2 := (r2 j hlt').1
   have c0 := r1
   have d0 := r2
   clear r1 r2 hb heq
   have x1 : (0 : Int) ≤ (j : Int) := by omega
   have x2 : (j : Int) < (c.o.length : Int) := by omega
   have x3 : (j : Int) < (d.o.length : Int) := by omega
   by_cases he : c.o[j] = d.o[j]
   ·have HX := hid he
    have hq : (c.o[j] != d.o[j]) = false := by simp [he]
    clear he
    go_wp2_with fail
    go_quiet (fail)
    go_wp2_with fail
    go_roundw
    case rel => exact ⟨j + 1, by go_num, by omega, fu _ _ j hlt hlt' HE.out HX.out, below_drewN HB.out _⟩
    case measure => simp [intOf]; omega
   ·have HX := hid he
    have hq : (c.o[j] != d.o[j]) = true := by simp [he]
    clear he
    go_wp2_with fail
    go_quiet (fail)
    go_wp2_with fail
    go_ret
    exact ⟨ai (by rw [decide_eq_false (show ¬ c.o = d.o from fun e => HX.out (by simp [e]))]; simp), HB0.out.trans ((below_drewN HB.out _).mono HB0.out.size)⟩
  ·have hj2 : j = c.o.length := by omega
   subst hj2
   have HEq : Hid (c.o = d.o) := hid (by have h1 := HE.out; rwa [List.take_length, HE4.out, List.take_length] at h1)
   clear hb heq
   have p3 := (HB.out.cell (p := ⟨w.heap.size, 4, none⟩) HL.out.1).trans a4
   have p4 := (HB.out.cell (p := ⟨w.heap.size + 1, 4, none⟩) HL.out.2).trans b4
   clear hj
   have HB1 := HB
   have HEo := HEq
   clear HB HE HEq
   go_wp2_with fail
   go_loopw [6] (fun i wr => ∃ j : Nat, i = .int .i64 j ∧ j ≤ c.w.length ∧ c.w.take j = d.w.take j ∧ Below W.heap.size W wr) (fun i _ => c.w.length - (intOf i).toNat)
   case atStart => exact ⟨0, rfl, by omega, by simp, HB1.out⟩
   case round =>
    obtain ⟨j, rfl, hj, heq, hb⟩ := hrel
    have HB := hid hb
    have HE := hid heq
    have p3 := (hb.cell (p := ⟨w.heap.size, 4, none⟩) HL.out.1).trans a4
    have p4 := (hb.cell (p := ⟨w.heap.size + 1, 4, none⟩) HL.out.2).trans b4
    by_cases hlt : j < c.w.length
    ·have hlt' : j < d.w.length := by have := HE5.out; omega
     obtain ⟨bl, off, rfl, _, _, r1⟩ := (HH.out.2.1.below hb nl).cell (by omega)
     obtain ⟨bl', off', rfl, _, _, r2⟩ := (HH.out.2.2.2.below hb nl).cell (by omega)
     have r1 := (r1 j hlt).1
     have r2 := (r2 j hlt').1
     have c0 := r1.1
     have c1 := r1.2.1
     have c2 := r1.2.2.1
     have c3 := r1.2.2.2.1
     have c4 := r1.2.2.2.2.1
     have c5 := r1.2.2.2.2.2.1
     have c6 := r1.2.2.2.2.2.2.1
     have c7 := r1.2.2.2.2.2.2.2.1
     have c8 := r1.2.2.2.2.2.2.2.2
     have d0 := r2.1
     have d1 := r2.2.1
     have d2 := r2.2.2.1
     have d3 := r2.2.2.2.1
     have d4 := r2.2.2.2.2.1
     have d5 := r2.2.2.2.2.2.1
     have d6 := r2.2.2.2.2.2.2.1
     have d7 := r2.2.2.2.2.2.2.2.1
     have d8 := r2.2.2.2.2.2.2.2.2
     clear r1 r2 hb heq
     have x1 : (0 : Int) ≤ (j : Int) := by omega
     have x2 : (j : Int) < (c.w.length : Int) := by omega
     have x3 : (j : Int) < (d.w.length : Int) := by omega
     have hm : Tryz.prog.eqGuardType Tryz.prog.depth 108 = false := by kernel_rfl
     by_cases he : c.w[j] = d.w[j]
     ·have HX := hid he
      have hq : ∀ W, (binOp .neq 108 (.agg #[.int .i64 c.w[j].a, .int .i64 c.w[j].b, .int .i64 c.w[j].k, .int .u64 c.w[j].x, .int .u64 c.w[j].sw, .int .u64 c.w[j].sn, .int .u64 c.w[j].mw, .int .u64 c.w[j].mn, .int .i64 c.w[j].p]) (.agg #[.int .i64 d.w[j].a, .int .i64 d.w[j].b, .int .i64 d.w[j].k, .int .u64 d.w[j].x, .int .u64 d.w[j].sw, .int .u64 d.w[j].sn, .int .u64 d.w[j].mw, .int .u64 d.w[j].mn, .int .i64 d.w[j].p])).run Tryz.prog W = .ok (.bool false) W := fun W => by rw [Cq]; simp [he]
      clear he
      go_wp2_with fail
      go_quiet (fail)
      go_wp2_with fail
      go_roundw
      case rel => exact ⟨j + 1, by go_num, by omega, fu _ _ j hlt hlt' HE.out HX.out, below_drewN HB.out _⟩
      case measure => simp [intOf]; omega
     ·have HX := hid he
      have hq : ∀ W, (binOp .neq 108 (.agg #[.int .i64 c.w[j].a, .int .i64 c.w[j].b, .int .i64 c.w[j].k, .int .u64 c.w[j].x, .int .u64 c.w[j].sw, .int .u64 c.w[j].sn, .int .u64 c.w[j].mw, .int .u64 c.w[j].mn, .int .i64 c.w[j].p]) (.agg #[.int .i64 d.w[j].a, .int .i64 d.w[j].b, .int .i64 d.w[j].k, .int .u64 d.w[j].x, .int .u64 d.w[j].sw, .int .u64 d.w[j].sn, .int .u64 d.w[j].mw, .int .u64 d.w[j].mn, .int .i64 d.w[j].p])).run Tryz.prog W = .ok (.bool true) W := fun W => by rw [Cq]; simp [he]
      clear he
      go_wp2_with fail
      go_quiet (fail)
      go_wp2_with fail
      go_ret
      exact ⟨ai (by rw [decide_eq_false (show ¬ c.w = d.w from fun e => HX.out (by simp [e]))]; simp), HB0.out.trans ((below_drewN HB.out _).mono HB0.out.size)⟩
    ·have hj2 : j = c.w.length := by omega
     subst hj2
     have HEq : Hid (c.w = d.w) := hid (by have h1 := HE.out; rwa [List.take_length, HE5.out, List.take_length] at h1)
     clear hb heq
     go_wp2_with fail
     go_ret
     exact ⟨ai (by simp [HE1.out, HE2.out, HE3.out, HEo.out, HEq.out]), HB0.out.trans (HB.out.mono HB0.out.size)⟩
end Go.Proofs.YtagnalfkmdjajaaGreatDoor
