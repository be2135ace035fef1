/- Walks. -/
import Derived.Test.YtlpgokcapdjgjaaGreatDoorY25
import Derived.Test.YtlpgokcapdjgjaaGreatDoorYV21
set_option maxHeartbeats 8000000
set_option maxRecDepth 100000
namespace Go.Proofs.YtlpgokcapdjgjaaGreatDoor
open Go.RowKit Go
set_option linter.unusedVariables false
set_option linter.unusedSimpArgs false
theorem qO : ∀ (l : List (List UInt8)) (s : List UInt8), fP (l ++ [s]) = (fP l).bind fun es => (lh s).map fun e => es ++ [e]
 | [], s => by simp only [List.nil_append, fP, Option.bind_some]; cases lh s <;> rfl
 | a :: l, s => by
  simp only [List.cons_append, fP, qO l s]
  cases lh a with
  | none => rfl
  | some e =>
   simp only [Option.bind_some]
   cases fP l with
   | none => rfl
   | some es => cases lh s <;> rfl
theorem lK {l : List (List UInt8)} {j : Nat} (h : j < l.length) : fP (l.take (j + 1)) = (fP (l.take j)).bind fun es => (lh l[j]).map fun e => es ++ [e] := by
 rw [List.take_succ_eq_append_getElem h, qO]
theorem yT {l : List (List UInt8)} {j : Nat} (h : j < l.length) (hn : lh l[j] = none) : fP l = none := by
 have key : ∀ k, j + 1 ≤ k → k ≤ l.length → fP (l.take k) = none := by
  intro k
  induction k with
  | zero => intro h1; omega
  | succ k ih =>
   intro h1 h2
   by_cases e : k = j
   ·subst e; rw [lK h, hn]; cases fP (l.take k) <;> rfl
   ·rw [lK (by omega), ih (by omega) (by omega)]; rfl
 have := key l.length (by omega) nl
 rwa [List.take_length] at this
theorem yU {s a b f : List UInt8} (h : cuts 58 s = [a, b, f]) : lh s = some ⟨aj a, (bV b).1, (bV b).2, decide (f = [49])⟩ := by unfold lh; rw [h]
theorem yV {s : List UInt8} (h : (cuts 58 s).length ≠ 3) : lh s = none := by
 unfold lh
 split
 ·rename_i a b f hc; rw [hc] at h; simp at h
 ·rfl
structure EcZ (g gw base j : Nat) (TR TE : TypeId) (rowf : Value → Array Value) (sa : Option Addr) (sc : Nat) (es : List Ent) (e : Ent) (A B C : ByteArray) (wr : World) (st : Nat) (vs : Nat → Value) (w : World) : Prop where
 rg : Below g wr w ∧ (∀ b, b < base → b ≠ g → w.heap[b]? = wr.heap[b]?) ∧ wr.heap.size ≤ w.heap.size
 lt : g < base ∧ base ≤ wr.heap.size ∧ gw < wr.heap.size
 old : st ≤ 2 → w.heap[g]? = some (.cells (rowf (.slice sa j sc)) TR (0, 0))
 own : st ≤ 1 → w.ownsRow base TE 4 (.slice sa j sc) j (aN es)
 wd : st = 0 → w.cell? ⟨gw, 0, none⟩ = some (.string A) ∧ w.cell? ⟨gw, 1, none⟩ = some (.string B) ∧ w.cell? ⟨gw, 2, none⟩ = some (.string C)
 one : st = 1 → ∃ bb, vs 15 = .slice (some ⟨bb, 0, none⟩) 1 1 ∧ w.heap[bb]? = some (.cells (jI e) TE (0, 0))
 two : 2 ≤ st → ∃ gg gcap, vs 16 = .slice (some ⟨gg, 0, none⟩) (j + 1) gcap ∧ w.ownsRow base TE 4 (.slice (some ⟨gg, 0, none⟩) (j + 1) gcap) (j + 1) (aN (es ++ [e]))
 new : 3 ≤ st → w.heap[g]? = some (.cells (rowf (vs 16)) TR (0, 0))
section
variable {g gw base j : Nat} {TR TE : TypeId} {rowf : Value → Array Value} {sa : Option Addr} {sc : Nat} {es : List Ent} {e : Ent} {A B C : ByteArray} {wr : World} {st : Nat} {vs : Nat → Value} {w : World}
theorem EcZ.c10 (h : EcZ g gw base j TR TE rowf sa sc es e A B C wr st vs w) (hs : st ≤ 2) (hr : ∀ v, (rowf v)[10]? = some v) :
  w.cell? ⟨g, 10, none⟩ = some (.slice sa j sc) ∧ w.frozen? ⟨g, 10, none⟩ = false := ⟨by rw [cell_of_row w _ 10 _ _ _ (h.old hs)]; exact hr _, by rw [frozen_of_row w _ 10 _ _ (h.old hs)]⟩
theorem EcZ.grow {w' : World} (h : EcZ g gw base j TR TE rowf sa sc es e A B C wr st vs w) (hs : st = 0) (hb : Below w.heap.size w w') : EcZ g gw base j TR TE rowf sa sc es e A B C wr st vs w' := by
 have hz := hb.size
 have hl := h.lt
 have hgw := h.rg.2.2
 obtain ⟨q0, q1, q2⟩ := h.wd hs
 have hgl : gw < w.heap.size := by omega
 refine ⟨⟨h.rg.1.trans (hb.mono (by omega)), fun b hb1 hn => (hb.block b (by omega)).trans (h.rg.2.1 b hb1 hn), by omega⟩, hl, fun _ => (hb.block _ (by omega)).trans (h.old (by omega)), fun _ => ownsRow_below (h.own (by omega)) hb nl, fun _ => ⟨(hb.cell hgl).trans q0, (hb.cell hgl).trans q1, (hb.cell hgl).trans q2⟩, (fun h => by omega), (fun h => by omega), (fun h => by omega)⟩
theorem EcZ.build (h : EcZ g gw base j TR TE rowf sa sc es e A B C wr 0 vs w) : EcZ g gw base j TR TE rowf sa sc es e A B C wr 1 (upd vs 15 (.slice (some ⟨w.heap.size, 0, none⟩) 1 1)) (w.alloc (.cells (jI e) TE)) := by
 have hl := h.lt
 have hgw := h.rg.2.2
 refine ⟨⟨h.rg.1.alloc (by omega) _, fun b hb1 hn => (ai _ _ _ (by omega)).trans (h.rg.2.1 b hb1 hn), by simp; omega⟩, hl, fun _ => (ai _ _ _ (by omega)).trans (h.old (by omega)), fun _ => (h.own (by omega)).alloc _, (fun h => by omega), fun _ => ⟨_, upd_self _ _ _, aa _ _ _ rfl⟩, (fun h => by omega), (fun h => by omega)⟩
theorem EcZ.app {gg gcap : Nat} {w3 : World} (h : EcZ g gw base j TR TE rowf sa sc es e A B C wr 1 vs w) (hown : w3.ownsRow base TE 4 (.slice (some ⟨gg, 0, none⟩) (j + 1) gcap) (j + 1) (aN (es ++ [e]))) (hg : w.grownBy w3 (Value.slice sa j sc).ownBlock) :
  EcZ g gw base j TR TE rowf sa sc es e A B C wr 2 (upd vs 16 (.slice (some ⟨gg, 0, none⟩) (j + 1) gcap)) w3 := by
 have hl := h.lt
 have hgw := h.rg.2.2
 have hob := (h.own (by omega)).lt
 have hgs := hg.size
 have hne : ∀ b, b < base → some b ≠ (Value.slice sa j sc).ownBlock := fun b hb e => by have := hob b e.symm; omega
 exact ⟨⟨Below.grown2 h.rg.1 hg (fun k hk => by have := (hob k hk).1; omega) (by omega) (by omega), fun b hb1 hn => (iw hg (by omega) (hne b hb1)).trans (h.rg.2.1 b hb1 hn), by omega⟩, hl, fun _ => (iw hg (by omega) (hne _ hl.1)).trans (h.old (by omega)), (fun h => by omega), (fun h => by omega), (fun h => by omega), fun _ => ⟨gg, gcap, upd_self _ _ _, hown⟩, (fun h => by omega)⟩
theorem EcZ.sto {v u : Value} {i : Nat} (h : EcZ g gw base j TR TE rowf sa sc es e A B C wr 2 vs w) (hi : i ≠ 16) (hv : vs 16 = v) (hr : ∀ u v, rowf v = (rowf u).setIfInBounds 10 v) : EcZ g gw base j TR TE rowf sa sc es e A B C wr 3 (upd vs i u) (w.setCell ⟨g, 10, none⟩ v) := by
 have hl := h.lt
 have hgw := h.rg.2.2
 obtain ⟨gg, gcap, ev, ho⟩ := h.two (by omega)
 refine ⟨⟨h.rg.1.setCell (by simp) _, fun b hb1 hn => (Below.heap_setCell _ _ _ _ (by simpa using hn)).trans (h.rg.2.1 b hb1 hn), by simp; omega⟩, hl, (fun h => by omega), (fun h => by omega), (fun h => by omega), (fun h => by omega), fun _ => ⟨gg, gcap, (upd_ne _ _ (fun e => hi e.symm)).trans ev, ownsRow_setCell_below ho (by simp; omega) _⟩, fun _ => ?_⟩
 rw [upd_ne _ _ (fun e => hi e.symm), hv]
 exact ae (h.old (by omega)) (hr _ _)
end
structure EcR (g base m : Nat) (TR TE : TypeId) (rowf : Value → Array Value) (tl : List (List UInt8)) (W : World) (j : Nat) (wr : World) : Prop where
 le : j ≤ m
 ex : ∃ es sv, fP (tl.take j) = some es ∧ es.length = j ∧ wr.heap[g]? = some (.cells (rowf sv) TR (0, 0)) ∧ wr.ownsRow base TE 4 sv j (aN es)
 bel : Below g W wr
 keep : ∀ b, b < base → b ≠ g → wr.heap[b]? = W.heap[b]?
 size : base ≤ wr.heap.size
theorem DD {α : Type} {l : List α} (h : 2 ≤ l.length) : ∃ a b r, l = a :: b :: r := by
 match l, h with
 | a :: b :: r, _ => exact ⟨a, b, r, rfl⟩
theorem yX {s l0 l1 l2 : List UInt8} {tl lr : List (List UInt8)} (hc : cuts 32 s = l0 :: lr) (hl : lr = l1 :: l2 :: tl) (hk : kindOf l0 = 5) : dS s = (bU l2).bind fun p => (fP tl).map fun es => ⟨5, aj l1, 0, 0, 0, 0, p, es⟩ := by
 unfold dS
 rw [hc, hl]
 simp only
 rw [if_neg (by omega), hk]
 rfl
theorem DF {s l0 l1 l2 : List UInt8} {tl lr : List (List UInt8)} (hc : cuts 32 s = l0 :: lr) (hl : lr = l1 :: l2 :: tl) (hk : kindOf l0 = 5) (hr : bU l2 = none) : aM s = none := by
 rw [← dU, yX hc hl hk, hr]; rfl
theorem DI {s l0 l1 l2 : List UInt8} {tl lr : List (List UInt8)} {j : Nat} (hc : cuts 32 s = l0 :: lr) (hl : lr = l1 :: l2 :: tl) (hk : kindOf l0 = 5) (hj : j < tl.length) (hr : lh tl[j] = none) : aM s = none := by
 rw [← dU, yX hc hl hk, yT hj hr]
 cases bU l2 <;> rfl
theorem yY (s : ByteArray) (w : World) (hs : s.size ≤ 800) (l0 : List UInt8) (lr : List (List UInt8)) (HC : Hid (cuts 32 s.data.toList = l0 :: lr)) (HKD : Hid (kindOf l0 = 5)) :
  Calls Tryz.prog 29 #[.string s] w (eZ (aM s.data.toList) w) := by
 have hb0 : Below w.heap.size w (w.alloc (.cells #[.int .i64 0, .int .u64 0, .int .u64 0, .int .u64 0, .int .u64 0, .int .u64 0, .int .i64 0, .int .u64 0, .int .u64 0, .slice none 0 0, .slice none 0 0] 65)) := br.alloc nl _
 have hMem := aV 32 s.data.toList
 have hLen := bJ 32 s.data.toList
 rw [HC.out] at hMem hLen
 rw [af] at hMem hLen
 have HCU := hid (dn 32 s (w.alloc (.cells #[.int .i64 0, .int .u64 0, .int .u64 0, .int .u64 0, .int .u64 0, .int .u64 0, .int .i64 0, .int .u64 0, .int .u64 0, .slice none 0 0, .slice none 0 0] 65)) (by omega))
 obtain ⟨N, hN⟩ : ∃ N, N = lr.length + 1 := ⟨_, rfl⟩
 have HMM := hid (And.intro hMem (And.intro hLen hN))
 have HB0 := hid hb0
 have hN0 : 0 < N := by omega
 have hN1 : N ≤ 1000 := by rw [List.length_cons] at hLen; omega
 clear hb0 hMem hLen hN
 go_enter Tryz.func29, Tryz.ntmps29
 go_wp2_with fail
 refine HCU.out.mono ?_
 rintro e W1 ⟨v, rfl, hown, hb1⟩
 rw [HC.out] at hown
 obtain ⟨gg, gc, rfl, hgb, hgl, hcell⟩ := dI hown (by simp)
 rw [List.length_cons, ← HMM.out.2.2]
 simp only [World.size_alloc] at hgb
 have hz1 := hb1.size
 simp only [World.size_alloc] at hz1
 obtain ⟨rb, hrb⟩ : ∃ rb, rb = W1.heap.size := ⟨_, rfl⟩
 obtain ⟨W2, hW2⟩ : ∃ W2, W2 = W1.alloc (.cells #[.int .i64 0, .int .u64 0, .int .u64 0, .int .u64 0, .int .u64 0, .int .u64 0, .int .i64 0, .int .u64 0, .int .u64 0, .slice none 0 0, .slice none 0 0] 65) := ⟨_, rfl⟩
 have hb2 : Below W1.heap.size W1 W2 := by rw [hW2]; exact br.alloc nl _
 have hr2 : W2.heap[rb]? = some (.cells #[.int .i64 0, .int .u64 0, .int .u64 0, .int .u64 0, .int .u64 0, .int .u64 0, .int .i64 0, .int .u64 0, .int .u64 0, .slice none 0 0, .slice none 0 0] 65 (0, 0)) := by rw [hW2, hrb]; exact aa _ _ _ rfl
 have hz2 : W2.heap.size = rb + 1 := by rw [hW2, hrb]; simp
 have ho2 : W2.heap[w.heap.size]? = some (.cells #[.int .i64 0, .int .u64 0, .int .u64 0, .int .u64 0, .int .u64 0, .int .u64 0, .int .i64 0, .int .u64 0, .int .u64 0, .slice none 0 0, .slice none 0 0] 65 (0, 0)) := (hb2.block _ (by omega)).trans ((hb1.block _ (by simp)).trans (aa _ _ _ rfl))
 have hl2 : ∀ (i : Nat) (x : List UInt8), (l0 :: lr)[i]? = some x → W2.cell? ⟨gg, i, none⟩ = some (.string ⟨x.toArray⟩) := fun i x hx => (hb2.cell hgl).trans (hcell i _ (by simp only [strs, List.getElem?_map, hx]; rfl))
 have hB2 : Below w.heap.size w W2 := HB0.out.trans ((hb1.mono (by simp)).trans (hb2.mono (by omega)))
 have lgr : gg < rb := by omega
 have lgn : gg ≠ rb := by omega
 have lwr : w.heap.size < rb := by omega
 have lwn : w.heap.size ≠ rb := by omega
 have lwg : w.heap.size < gg := by omega
 have H2 := hid (And.intro hr2 (And.intro ho2 (And.intro hl2 hB2)))
 have HRB := hid (And.intro hrb hW2)
 clear hown hb1 hb2 hr2 ho2 hl2 hB2 hcell hgb hz1 hgl HB0 HCU hrb hW2
 go_upto_region 3 with fail
 rw [← HRB.out.2, ← HRB.out.1]
 clear HRB
 go_wp2_with fail
 go_loopw [6] (fun i wr => ∃ j : Nat, i = .int .i64 (j : Nat) ∧ 1 ≤ j ∧ j ≤ 8 ∧ Rg rb W2 wr ∧ wr.heap[rb]? = some (.cells #[.int .i64 ((if 5 < j then 5 else 0 : Nat) : Int), .int .u64 0, .int .u64 0, .int .u64 0, .int .u64 0, .int .u64 0, .int .i64 0, .int .u64 0, .int .u64 0, .slice none 0 0, .slice none 0 0] 65 (0, 0))) (fun i _ => 8 - (intOf i).toNat)
 case atStart => exact ⟨1, rfl, by omega, by omega, Rg.refl _ _, by rw [if_neg (by omega)]; exact H2.out.1⟩
 case round =>
  obtain ⟨j, rfl, hj1, hj8, hrg, hrow⟩ := hrel
  have hzr := hrg.size
  by_cases hj : j < 8
  ·obtain ⟨WJ, hWJ⟩ : ∃ WJ : ByteArray, WJ = ⟨(ay j).toArray⟩ := ⟨_, rfl⟩
   obtain ⟨L0, hL0⟩ : ∃ L0 : ByteArray, L0 = ⟨l0.toArray⟩ := ⟨_, rfl⟩
   have HWJ : Hid (eT[j]? = some (.string WJ)) := hid (by rw [hWJ]; exact cu j hj1 (by omega))
   have cl : wr.cell? ⟨gg, 0, none⟩ = some (.string L0) := by rw [hL0]; exact hrg.cell (H2.out.2.2.1 0 l0 rfl) lgn
   have lg : gg < wr.heap.size := by omega
   have eWJ : WJ.toList = ay j := by rw [hWJ, ByteArray.toList_eq]
   have eL0 : L0.toList = l0 := by rw [hL0, ByteArray.toList_eq]
   have i1 : (j : Int) < 8 := by omega
   have i0 : (0 : Int) ≤ (j : Int) := by omega
   have i2 : (0 : Int) < (N : Int) := by omega
   have c0 : wr.cell? ⟨rb, 0, none⟩ = some (.int .i64 ((if 5 < j then 5 else 0 : Nat) : Int)) := by rw [cell_of_row wr _ 0 _ _ _ hrow]; rfl
   have f0 : wr.frozen? ⟨rb, 0, none⟩ = false := by rw [frozen_of_row wr _ 0 _ _ hrow]
   have lrb : rb < wr.heap.size := (Array.getElem?_eq_some_iff.1 hrow).1
   have HG := hid (And.intro hrg hrow)
   clear hrg hrow hWJ hL0
   by_cases hw : ay j = l0
   ·have hkj : j = 5 := ((bK hj1 (by omega) l0).2 hw).symm.trans HKD.out
    have hq : (WJ.toList == L0.toList) = true := by rw [eWJ, eL0]; simpa using hw
    clear eWJ eL0
    have HKJ := hid hkj
    clear hkj
    go_wp2_with fail
    refine av (w0 := wr) rfl [.of (aZ), .eq (.int .i64 (j : Nat)), .of (aQ WJ), .eq (.string WJ), .eq (.slice (some ⟨gg, 0, none⟩) N gc), .eq (.pointer (some ⟨gg, 0, none⟩)), .eq (.string L0), .eq (.bool true)] (by kernel_rfl) ⟨?_, ?_, ?_, ?_, ?_, ?_, ?_, ?_, ?_, ?_, trivial⟩ (fun vs => [(18, vs 0), (19, (.int .i64 (j : Nat))), (20, vs 2), (21, (.string WJ)), (22, (.slice (some ⟨gg, 0, none⟩) N gc)), (23, (.pointer (some ⟨gg, 0, none⟩))), (24, (.string L0)), (25, (.bool true))]) (fun _ => rfl) ?_
    ·exact aW
    ·refine rs fun S a wx K Q hR hK => ?_
     go_simp
     go_at_call 52
     refine (aP _).mono ?_
     rintro e w' ⟨rfl, rfl⟩
     exact hK _ _ (br.alloc nl _) ⟨_, rfl, by simp, hR.new _ nl, aa _ _ _ rfl⟩
    ·refine rs fun S a wx K Q hR hK => ?_
     have t6 : a.tmps[6]? = some (.int .i64 (j : Nat)) := hR.o 6
     go_simp
     exact hK _ _ br rfl
    ·exact aR _
    ·refine rs fun S a wx K Q hR hK => ?_
     obtain ⟨u18, t18, f18⟩ := hR.f 0
     have t19 := hR.q 1
     obtain ⟨g9, rfl, hg9, hS9, hw9⟩ := (show aZ S u18 wx from f18)
     go_simp
     exact hK _ _ br ⟨g9, j, by simp, hg9, hS9, by rw [cell_of_row wx _ _ _ _ _ hw9]; exact HWJ.out⟩
    ·refine rs fun S a wx K Q hR hK => ?_
     obtain ⟨u20, t20, f20⟩ := hR.f 2
     obtain ⟨g12, o12, rfl, _, _, y12⟩ := (show aQ WJ S u20 wx from f20)
     go_simp
     exact hK _ _ br rfl
    ·refine rs fun S a wx K Q hR hK => ?_
     have t4 : a.tmps[4]? = some (.slice (some ⟨gg, 0, none⟩) N gc) := hR.o 4
     go_simp
     exact hK _ _ br rfl
    ·refine rs fun S a wx K Q hR hK => ?_
     have t22 := hR.q 4
     go_simp
     exact hK _ _ br rfl
    ·refine rs fun S a wx K Q hR hK => ?_
     have t23 := hR.q 5
     have y0 := (hR.bel.cell lg).trans cl
     go_simp
     exact hK _ _ br rfl
    ·refine rs fun S a wx K Q hR hK => ?_
     have t21 := hR.q 3
     have t24 := hR.q 6
     go_simp
     (try go_ints)
     exact hK _ _ br rfl
    intro S1 vs w1 hD
    have hb1 := hD.bel
    have c0' := (hb1.cell lrb).trans c0
    have f0' : w1.frozen? ⟨rb, 0, none⟩ = false := by rw [frozen_of_row w1 _ 0 _ _ ((hb1.block _ lrb).trans HG.out.2)]
    have HB1 := hid hb1
    simp only [aH, List.foldl_cons, List.foldl_nil]
    clear hD cl c0 f0 hb1
    go_simp
    go_wp2_with fail
    go_roundw
    case rel =>
     refine ⟨j + 1, by go_num, by omega, by omega, (HG.out.1.trans (Rg.of_below HB1.out)).setCell _ _, ?_⟩
     rw [if_pos (by rw [HKJ.out]; omega)]
     exact ae ((HB1.out.block _ lrb).trans HG.out.2) (by rw [HKJ.out]; rfl)
    case measure => simp [intOf]; omega
   ·have hkj : 5 ≠ j := fun e => hw ((bK hj1 (by omega) l0).1 (HKD.out.trans e))
    have hq : (WJ.toList == L0.toList) = false := by rw [eWJ, eL0]; simpa using hw
    clear eWJ eL0
    go_wp2_with fail
    refine av (w0 := wr) rfl [.of (aZ), .eq (.int .i64 (j : Nat)), .of (aQ WJ), .eq (.string WJ), .eq (.slice (some ⟨gg, 0, none⟩) N gc), .eq (.pointer (some ⟨gg, 0, none⟩)), .eq (.string L0), .eq (.bool false)] (by kernel_rfl) ⟨?_, ?_, ?_, ?_, ?_, ?_, ?_, ?_, ?_, ?_, trivial⟩ (fun vs => [(18, vs 0), (19, (.int .i64 (j : Nat))), (20, vs 2), (21, (.string WJ)), (22, (.slice (some ⟨gg, 0, none⟩) N gc)), (23, (.pointer (some ⟨gg, 0, none⟩))), (24, (.string L0)), (25, (.bool false))]) (fun _ => rfl) ?_
    ·exact aW
    ·refine rs fun S a wx K Q hR hK => ?_
     go_simp
     go_at_call 52
     refine (aP _).mono ?_
     rintro e w' ⟨rfl, rfl⟩
     exact hK _ _ (br.alloc nl _) ⟨_, rfl, by simp, hR.new _ nl, aa _ _ _ rfl⟩
    ·refine rs fun S a wx K Q hR hK => ?_
     have t6 : a.tmps[6]? = some (.int .i64 (j : Nat)) := hR.o 6
     go_simp
     exact hK _ _ br rfl
    ·exact aR _
    ·refine rs fun S a wx K Q hR hK => ?_
     obtain ⟨u18, t18, f18⟩ := hR.f 0
     have t19 := hR.q 1
     obtain ⟨g9, rfl, hg9, hS9, hw9⟩ := (show aZ S u18 wx from f18)
     go_simp
     exact hK _ _ br ⟨g9, j, by simp, hg9, hS9, by rw [cell_of_row wx _ _ _ _ _ hw9]; exact HWJ.out⟩
    ·refine rs fun S a wx K Q hR hK => ?_
     obtain ⟨u20, t20, f20⟩ := hR.f 2
     obtain ⟨g12, o12, rfl, _, _, y12⟩ := (show aQ WJ S u20 wx from f20)
     go_simp
     exact hK _ _ br rfl
    ·refine rs fun S a wx K Q hR hK => ?_
     have t4 : a.tmps[4]? = some (.slice (some ⟨gg, 0, none⟩) N gc) := hR.o 4
     go_simp
     exact hK _ _ br rfl
    ·refine rs fun S a wx K Q hR hK => ?_
     have t22 := hR.q 4
     go_simp
     exact hK _ _ br rfl
    ·refine rs fun S a wx K Q hR hK => ?_
     have t23 := hR.q 5
     have y0 := (hR.bel.cell lg).trans cl
     go_simp
     exact hK _ _ br rfl
    ·refine rs fun S a wx K Q hR hK => ?_
     have t21 := hR.q 3
     have t24 := hR.q 6
     go_simp
     (try go_ints)
     exact hK _ _ br rfl
    intro S1 vs w1 hD
    have HB1 := hid hD.bel
    simp only [aH, List.foldl_cons, List.foldl_nil]
    clear hD cl
    go_simp
    go_wp2_with fail
    go_roundw
    case rel => exact ⟨j + 1, by go_num, by omega, by omega, HG.out.1.trans (Rg.of_below HB1.out), by
     have h := (HB1.out.block _ lrb).trans HG.out.2
     have e : (if 5 < j + 1 then 5 else 0 : Nat) = (if 5 < j then 5 else 0) := by split <;> split <;> omega
     rw [e]; exact h⟩
    case measure => simp [intOf]; omega
  ·have hj2 : j = 8 := by omega
   subst hj2
   rw [if_pos (by omega)] at hrow
   have c0 : wr.cell? ⟨rb, 0, none⟩ = some (.int .i64 5) := by rw [cell_of_row wr _ 0 _ _ _ hrow]; rfl
   have lrb : rb < wr.heap.size := (Array.getElem?_eq_some_iff.1 hrow).1
   have HG := hid (And.intro hrg hrow)
   clear hrg hrow
   go_upto_region 9 with fail
   obtain ⟨W4, hW4⟩ : ∃ W4, W4 = wr.alloc (.cells #[.int .i64 0, .int .i64 2, .int .i64 4, .int .i64 4, .int .i64 3, .int .i64 3, .int .i64 2, .int .i64 2] 3) := ⟨_, rfl⟩
   have hb4 : Below wr.heap.size wr W4 := by rw [hW4]; exact br.alloc nl _
   have hrg4 : Rg rb W2 W4 := HG.out.1.trans (Rg.of_below hb4)
   have hrow4 : W4.heap[rb]? = some (.cells #[.int .i64 5, .int .u64 0, .int .u64 0, .int .u64 0, .int .u64 0, .int .u64 0, .int .i64 0, .int .u64 0, .int .u64 0, .slice none 0 0, .slice none 0 0] 65 (0, 0)) := (hb4.block _ lrb).trans HG.out.2
   have hz4 : W4.heap[w.heap.size]? = some (.cells #[.int .i64 0, .int .u64 0, .int .u64 0, .int .u64 0, .int .u64 0, .int .u64 0, .int .i64 0, .int .u64 0, .int .u64 0, .slice none 0 0, .slice none 0 0] 65 (0, 0)) := (hrg4.keep _ (by omega) lwn).trans H2.out.2.1
   have hl4 : ∀ (i : Nat) (x : List UInt8), (l0 :: lr)[i]? = some x → W4.cell? ⟨gg, i, none⟩ = some (.string ⟨x.toArray⟩) := fun i x hx => hrg4.cell (H2.out.2.2.1 i x hx) lgn
   have hB4 : Below w.heap.size w W4 := H2.out.2.2.2.trans ((hrg4.below (by omega)).mono (by omega))
   have hzz4 := hrg4.size
   have l4 : rb < W4.heap.size := by omega
   have H4 := hid (And.intro hrow4 (And.intro hz4 (And.intro hl4 (And.intro hB4 hrg4))))
   rw [← hW4]
   have c0 : W4.cell? ⟨rb, 0, none⟩ = some (.int .i64 5) := by rw [cell_of_row W4 _ 0 _ _ _ hrow4]; rfl
   clear hW4 hb4 hrow4 hz4 hl4 hB4 hrg4 hzr HG
   by_cases hlt : N < 3
   ·have t1 : decide ((N : Int) < 3) = true := by simp; omega
    have HLN : Hid (aM s.data.toList = none) := hid (eG HC.out HKD.out (by have := HMM.out.2.2; simp [jE]; omega))
    go_upto_region 10 with fail
    go_wp2_with (refine wpList_store_row rfl 65 (.tmp 2) (.tmp 53) rfl rfl w.heap.size rfl _ rfl 65 _ H4.out.2.1 (by kernel_rfl) rfl (by simp [Value.oneCell']) ?_)
    exact bodyPost_ret (v := .tuple #[.agg #[.int .i64 0, .int .u64 0, .int .u64 0, .int .u64 0, .int .u64 0, .int .u64 0, .int .i64 0, .int .u64 0, .int .u64 0, .slice none 0 0, .slice none 0 0], .int .i64 50]) (ag rfl _ _ w.heap.size 65 _ _ _ _ rfl (setRow_heap _ _ _ _ _ _ H4.out.2.1) Tryz.underlying65 rfl (by kernel_rfl) rfl) rfl (aG HLN.out (below_setRow H4.out.2.2.2.1 _ _ nl))
   have t1 : decide ((N : Int) < 3) = false := by simp; omega
   obtain ⟨l1, l2, tl, hlr⟩ : ∃ l1 l2 tl, lr = l1 :: l2 :: tl := DD (by have := HMM.out.2.2; omega)
   obtain ⟨m, hm⟩ : ∃ m, m = tl.length := ⟨_, rfl⟩
   have hN4 : N = m + 3 := by have := HMM.out.2.2; rw [hlr] at this; simp at this; omega
   subst hN4
   have HLR := hid (And.intro hlr hm)
   have c21 : W4.cell? ⟨gg, 1, none⟩ = some (.string ⟨l1.toArray⟩) := H4.out.2.2.1 1 l1 (by rw [hlr]; rfl)
   have c22 : W4.cell? ⟨gg, 2, none⟩ = some (.string ⟨l2.toArray⟩) := H4.out.2.2.1 2 l2 (by rw [hlr]; rfl)
   have z1 : (ByteArray.mk l1.toArray).size ≤ 1000000 := by have := HMM.out.1 l1 (by rw [hlr]; simp); rw [← af]; simp; omega
   have z2 : (ByteArray.mk l2.toArray).size ≤ 800 := by have := HMM.out.1 l2 (by rw [hlr]; simp); rw [← af]; simp; omega
   have HZ2 := hid z2
   have r1 : W4.cell? ⟨rb, 1, none⟩ = some (.int .u64 0) := by rw [cell_of_row W4 _ 1 _ _ _ H4.out.1]; rfl
   have f1 : W4.frozen? ⟨rb, 1, none⟩ = false := by rw [frozen_of_row W4 _ 1 _ _ H4.out.1]
   have i1 : (1 : Int) < ((m + 3 : Nat) : Int) := by omega
   have i2 : (2 : Int) < ((m + 3 : Nat) : Int) := by omega
   clear hlr hm z2
   go_wp2_with (go_at_call 53; refine (dm _ _ (by assumption)).mono ?_; rintro e w' ⟨rfl, hw'⟩; rw [hw']; clear hw' w')
   obtain ⟨W5, hW5⟩ : ∃ W5, W5 = (W4.setCell ⟨rb, 1, none⟩ (.int .u64 (aj l1 : Nat))) := ⟨_, rfl⟩
   have hrow5 : W5.heap[rb]? = some (.cells #[.int .i64 5, .int .u64 (aj l1 : Nat), .int .u64 0, .int .u64 0, .int .u64 0, .int .u64 0, .int .i64 0, .int .u64 0, .int .u64 0, .slice none 0 0, .slice none 0 0] 65 (0, 0)) := by rw [hW5]; exact ae H4.out.1 rfl
   have hrg5 : Rg rb W4 W5 := by rw [hW5]; exact (Rg.refl _ _).setCell _ _
   rw [← hW5]
   have H5 := hid (And.intro hrow5 hrg5)
   clear hW5 hrow5 hrg5 c0 c21 c22 r1 f1
   refine (vM ⟨l2.toArray⟩ W5 HZ2.out).mono ?_
   rintro e w6 ⟨pv, rfl, hp, hb6⟩
   have hl2 : (ByteArray.mk l2.toArray).data.toList = l2 := by simp
   rw [hl2] at hp ⊢
   obtain ⟨q0, q1, q2, q3, q4, q5, rfl⟩ := hp.conc
   have l5 : rb < W5.heap.size := (Array.getElem?_eq_some_iff.1 H5.out.1).1
   have hz65 := hb6.size
   have hrow6 := (hb6.block _ l5).trans H5.out.1
   have hrg6 : Rg rb W4 w6 := H5.out.2.trans (Rg.of_below hb6)
   have HP6 := hid (And.intro hrow6 (And.intro hrg6 hp))
   clear hb6 hrow6 hrg6 hp hl2
   cases hrd : bU l2 with
   | none =>
    have HRD := hid hrd
    clear hrd
    go_upto_region 24 with fail
    obtain ⟨W7, hW7⟩ : ∃ W7, W7 = (w6.alloc (.cells #[.int .i64 q0, .int .u64 (q1 : Nat), .int .u64 (q2 : Nat), .slice q3 q4 q5] 62)) := ⟨_, rfl⟩
    have hrg7 : Rg rb W4 W7 := by rw [hW7]; exact HP6.out.2.1.trans (Rg.of_below (br.alloc nl _))
    rw [← hW7]
    have hz7 : W7.heap[w.heap.size]? = some (.cells #[.int .i64 0, .int .u64 0, .int .u64 0, .int .u64 0, .int .u64 0, .int .u64 0, .int .i64 0, .int .u64 0, .int .u64 0, .slice none 0 0, .slice none 0 0] 65 (0, 0)) := (hrg7.keep _ (by omega) lwn).trans H4.out.2.1
    have hB7 : Below w.heap.size w W7 := H4.out.2.2.2.1.trans ((hrg7.below (by omega)).mono (by omega))
    have HLN : Hid (aM s.data.toList = none) := hid (DF HC.out HLR.out.1 HKD.out HRD.out)
    have H7 := hid (And.intro hz7 hB7)
    clear hW7 hrg7 hz7 hB7
    go_wp2_with (refine wpList_store_row rfl 65 (.tmp 2) (.tmp 103) rfl rfl w.heap.size rfl _ rfl 65 _ H7.out.1 (by kernel_rfl) rfl (by simp [Value.oneCell']) ?_)
    exact bodyPost_ret (v := .tuple #[.agg #[.int .i64 0, .int .u64 0, .int .u64 0, .int .u64 0, .int .u64 0, .int .u64 0, .int .i64 0, .int .u64 0, .int .u64 0, .slice none 0 0, .slice none 0 0], .int .i64 50]) (ag rfl _ _ w.heap.size 65 _ _ _ _ rfl (setRow_heap _ _ _ _ _ _ H7.out.1) Tryz.underlying65 rfl (by kernel_rfl) rfl) rfl (aG HLN.out (below_setRow H7.out.2 _ _ nl))
   | some p =>
    have hpr := (gT hrd).1
    have HRD := hid (And.intro hrd hpr)
    clear hrd hpr
    rw [show code (some p) = 0 from rfl]
    go_upto_region 25 with fail
    obtain ⟨W7, hW7⟩ : ∃ W7, W7 = (w6.alloc (.cells #[.int .i64 q0, .int .u64 (q1 : Nat), .int .u64 (q2 : Nat), .slice q3 q4 q5] 62)) := ⟨_, rfl⟩
    obtain ⟨pb, hpb⟩ : ∃ pb, pb = w6.heap.size := ⟨_, rfl⟩
    have hb7 : Below w6.heap.size w6 W7 := by rw [hW7]; exact br.alloc nl _
    have hh7 : W7.heap[pb]? = some (.cells #[.int .i64 q0, .int .u64 (q1 : Nat), .int .u64 (q2 : Nat), .slice q3 q4 q5] 62 (0, 0)) := by rw [hW7, hpb]; exact aa _ _ _ rfl
    rw [← hW7, ← hpb]
    have l6 : rb < w6.heap.size := (Array.getElem?_eq_some_iff.1 HP6.out.1).1
    have hrow7 := (hb7.block _ l6).trans HP6.out.1
    have hne7 : pb ≠ rb := by omega
    have p0 : W7.cell? ⟨pb, 0, none⟩ = some (.int .i64 q0) := by rw [cell_of_row W7 _ 0 _ _ _ hh7]; rfl
    have p1 : W7.cell? ⟨pb, 1, none⟩ = some (.int .u64 (q1 : Nat)) := by rw [cell_of_row W7 _ 1 _ _ _ hh7]; rfl
    have p2 : W7.cell? ⟨pb, 2, none⟩ = some (.int .u64 (q2 : Nat)) := by rw [cell_of_row W7 _ 2 _ _ _ hh7]; rfl
    have p3 : W7.cell? ⟨pb, 3, none⟩ = some (.slice q3 q4 q5) := by rw [cell_of_row W7 _ 3 _ _ _ hh7]; rfl
    have r6 : W7.cell? ⟨rb, 6, none⟩ = some (.int .i64 0) := by rw [cell_of_row W7 _ 6 _ _ _ hrow7]; rfl
    have r7 : W7.cell? ⟨rb, 7, none⟩ = some (.int .u64 0) := by rw [cell_of_row W7 _ 7 _ _ _ hrow7]; rfl
    have r8 : W7.cell? ⟨rb, 8, none⟩ = some (.int .u64 0) := by rw [cell_of_row W7 _ 8 _ _ _ hrow7]; rfl
    have r9 : W7.cell? ⟨rb, 9, none⟩ = some (.slice none 0 0) := by rw [cell_of_row W7 _ 9 _ _ _ hrow7]; rfl
    have f6 : W7.frozen? ⟨rb, 6, none⟩ = false := by rw [frozen_of_row W7 _ 6 _ _ hrow7]
    have f7 : W7.frozen? ⟨rb, 7, none⟩ = false := by rw [frozen_of_row W7 _ 7 _ _ hrow7]
    have f8 : W7.frozen? ⟨rb, 8, none⟩ = false := by rw [frozen_of_row W7 _ 8 _ _ hrow7]
    have f9 : W7.frozen? ⟨rb, 9, none⟩ = false := by rw [frozen_of_row W7 _ 9 _ _ hrow7]
    have hp7 : ax W7 (fun b => W5.heap.size ≤ b) true p (.agg #[.int .i64 q0, .int .u64 (q1 : Nat), .int .u64 (q2 : Nat), .slice q3 q4 q5]) := by have h := HP6.out.2.2; rw [HRD.out.1] at h; exact ax.below h hb7 nl
    have H7 := hid (And.intro hrow7 (And.intro (HP6.out.2.1.trans (Rg.of_below hb7)) hp7))
    clear hW7 hpb hb7 hh7 hrow7 hp7
    go_upto_region 26 with fail
    obtain ⟨W8, hW8⟩ : ∃ W8, W8 = ((((W7.setCell ⟨rb, 6, none⟩ (.int .i64 q0)).setCell ⟨rb, 7, none⟩ (.int .u64 (q1 : Nat))).setCell ⟨rb, 8, none⟩ (.int .u64 (q2 : Nat))).setCell ⟨rb, 9, none⟩ (.slice q3 q4 q5)) := ⟨_, rfl⟩
    have hrow8 : W8.heap[rb]? = some (.cells #[.int .i64 5, .int .u64 (aj l1 : Nat), .int .u64 0, .int .u64 0, .int .u64 0, .int .u64 0, .int .i64 q0, .int .u64 (q1 : Nat), .int .u64 (q2 : Nat), .slice q3 q4 q5, .slice none 0 0] 65 (0, 0)) := by rw [hW8]; exact ae (ae (ae (ae H7.out.1 rfl) rfl) rfl) rfl
    have hrg78 : Rg rb W7 W8 := by rw [hW8]; exact ((((Rg.refl _ _).setCell _ _).setCell _ _).setCell _ _).setCell _ _
    rw [← hW8]
    have hrg8 : Rg rb W4 W8 := H7.out.2.1.trans hrg78
    have hp8 : ax W8 (fun b => rb < b) true p (.agg #[.int .i64 q0, .int .u64 (q1 : Nat), .int .u64 (q2 : Nat), .slice q3 q4 q5]) := ax.keep (w := W7) (S := fun b => W5.heap.size ≤ b) (fun b hb hl => hrg78.keep b hl (by omega)) (fun b _ hb => by omega) H7.out.2.2
    have H8 := hid (And.intro hrow8 (And.intro hrg8 hp8))
    obtain ⟨base, hbase⟩ : ∃ base, base = W8.heap.size := ⟨_, rfl⟩
    have l8 : rb < base := by rw [hbase]; exact (Array.getElem?_eq_some_iff.1 hrow8).1
    have HBS := hid hbase
    clear hW8 hrow8 hrg78 hrg8 hp8 p0 p1 p2 p3 r6 r7 r8 r9 f6 f7 f8 f9 hbase
    go_wp2_with fail
    go_loopw [10] (fun i wr => ∃ j : Nat, i = .int .i64 ((j + 3 : Nat) : Int) ∧ EcR rb base m 65 130 (fun sv => #[.int .i64 5, .int .u64 (aj l1 : Nat), .int .u64 0, .int .u64 0, .int .u64 0, .int .u64 0, .int .i64 q0, .int .u64 (q1 : Nat), .int .u64 (q2 : Nat), .slice q3 q4 q5, sv]) tl W8 j wr) (fun i _ => m + 3 - (intOf i).toNat)
    case atStart => exact ⟨0, rfl, ⟨by omega, ⟨[], .slice none 0 0, rfl, rfl, H8.out.1, World.ownsRow_nil _ _ _ _⟩, br, fun _ _ _ => rfl, by rw [HBS.out]; omega⟩⟩
    case round =>
     obtain ⟨j, rfl, hR⟩ := hrel
     have hjm := hR.le
     have hrgr : Rg rb W4 wr := H8.out.2.1.trans ⟨hR.bel.os, hR.bel.tape, hR.bel.output, hR.bel.size, fun b hl hn => hR.keep b (by rw [HBS.out]; exact hl) hn⟩
     have hzwr := hR.size
     have hBr : Below w.heap.size w wr := H4.out.2.2.2.1.trans ((hrgr.below (by omega)).mono (by omega))
     have hzr8 : wr.heap[w.heap.size]? = some (.cells #[.int .i64 0, .int .u64 0, .int .u64 0, .int .u64 0, .int .u64 0, .int .u64 0, .int .i64 0, .int .u64 0, .int .u64 0, .slice none 0 0, .slice none 0 0] 65 (0, 0)) := (hrgr.keep _ (by omega) lwn).trans H4.out.2.1
     have i3 : (0 : Int) ≤ ((j + 3 : Nat) : Int) := by omega
     by_cases hlt : j < m
     ·have hltE : j < tl.length := by rw [← HLR.out.2]; exact hlt
      have cw : wr.cell? ⟨gg, j + 3, none⟩ = some (.string ⟨tl[j].toArray⟩) := hrgr.cell (H4.out.2.2.1 (j + 3) tl[j] (by rw [HLR.out.1]; simp)) lgn
      have hwz : tl[j].length ≤ 800 := by have := HMM.out.1 tl[j] (by rw [HLR.out.1]; simp); omega
      obtain ⟨X, hX⟩ : ∃ X : ByteArray, X = ⟨tl[j].toArray⟩ := ⟨_, rfl⟩
      have hXl : X.data.toList = tl[j] := by rw [hX]
      have HCX := hid (dn 58 X wr (by rw [← af, hXl]; omega))
      rw [← hX] at cw
      have i4 : ((j + 3 : Nat) : Int) < ((m + 3 : Nat) : Int) := by omega
      have HR := hid (And.intro hR (And.intro hrgr (And.intro hBr hzr8)))
      have HXL := hid hXl
      clear hR hrgr hBr hzr8 hX hXl
      go_wp2_with fail
      clear cw i4
      refine HCX.out.mono ?_
      rintro e w9 ⟨v9, rfl, hown, hb9⟩
      obtain ⟨ad9, cap9, rfl⟩ := au hown
      have hz9 := hb9.size
      rw [HXL.out] at hown ⊢
      by_cases h3 : (cuts 58 tl[j]).length = 3
      ·obtain ⟨a, b, f, habf⟩ := qw h3
       rw [habf] at hown ⊢
       obtain ⟨gw, gwc, hvv, hgb, hgl, hcell⟩ := dI hown (by simp)
       have hm9 := aV 58 tl[j]
       rw [habf] at hm9
       have la := hm9 a (by simp)
       have lb := hm9 b (by simp)
       have hEV := yU habf
       obtain ⟨A, hA⟩ : ∃ A : ByteArray, A = ⟨a.toArray⟩ := ⟨_, rfl⟩
       obtain ⟨B, hB⟩ : ∃ B : ByteArray, B = ⟨b.toArray⟩ := ⟨_, rfl⟩
       obtain ⟨C, hC⟩ : ∃ C : ByteArray, C = ⟨f.toArray⟩ := ⟨_, rfl⟩
       obtain ⟨VA, hVA⟩ : ∃ VA, VA = aj a := ⟨_, rfl⟩
       obtain ⟨VB, hVB⟩ : ∃ VB, VB = (bV b).1 := ⟨_, rfl⟩
       obtain ⟨VC, hVC⟩ : ∃ VC, VC = (bV b).2 := ⟨_, rfl⟩
       obtain ⟨FM, hFM⟩ : ∃ FM, FM = decide (f = [49]) := ⟨_, rfl⟩
       rw [← hVA, ← hVB, ← hVC, ← hFM] at hEV
       have HVA := hid (And.intro (fun W => show Calls Tryz.prog 53 #[.string A] W (fun e w' => e = .returned (.int .u64 (VA : Nat)) ∧ w' = W) by rw [hA, hVA]; exact dm ⟨a.toArray⟩ W (by rw [← af]; simp; omega)) (And.intro (fun W => show Calls Tryz.prog 54 #[.string B] W (fun e w' => e = .returned (.agg #[.int .u64 (VB : Nat), .int .u64 (VC : Nat)]) ∧ Below W.heap.size W w') by rw [hB, hVB, hVC]; exact ky ⟨b.toArray⟩ W (by rw [← af]; simp; omega)) trivial))
       have HFM : Hid ((C.toList == [49]) = FM) := hid (by rw [hC, hFM, ByteArray.toList_eq]; by_cases h : f = [49] <;> simp [h])
       obtain ⟨es, sv, hes, hel, hrow, hownE⟩ := HR.out.1.ex
       obtain ⟨sa, sc, rfl⟩ := au hownE
       obtain ⟨i0, hi0, hzi0, hzi1, hzi2⟩ := info_parts wQ
       have HI := hid (And.intro hi0 (And.intro hzi0 (And.intro hzi1 hzi2)))
       have hZ9 : EcZ rb gw base j 65 130 (fun sv => #[.int .i64 5, .int .u64 (aj l1 : Nat), .int .u64 0, .int .u64 0, .int .u64 0, .int .u64 0, .int .i64 q0, .int .u64 (q1 : Nat), .int .u64 (q2 : Nat), .slice q3 q4 q5, sv]) sa sc es ⟨VA, VB, VC, FM⟩ A B C w9 0 (fun _ => undef) w9.drew := ⟨⟨br.drew, fun _ _ _ => rfl, Nat.le_refl _⟩, ⟨l8, by omega, hgl⟩, fun _ => (hb9.block _ (by omega)).trans hrow, fun _ => ownsRow_below hownE (hb9.trans br.drew) nl, fun _ => ⟨by rw [hA]; exact hcell 0 _ rfl, by rw [hB]; exact hcell 1 _ rfl, by rw [hC]; exact hcell 2 _ rfl⟩, (fun h => by omega), (fun h => by omega), (fun h => by omega)⟩
       have HZ9 := hid hZ9
       have HES := hid (And.intro hes (And.intro hel (And.intro hEV hb9)))
       rw [hvv]
       simp only [List.length_cons, List.length_nil, Nat.zero_add]
       clear hown hcell hm9 la lb hEV hA hB hC hVA hVB hVC hFM hes hel hrow hownE hi0 hzi0 hzi1 hzi2 hZ9 hvv habf h3 hb9
       have hjl : j ≤ 1000 := by omega
       go_wp2_with fail
       refine aD (w0 := w9) rfl [.eq (.pointer (some ⟨rb, 10, none⟩)), .eq (.slice sa j sc), .eq (.slice (some ⟨gw, 0, none⟩) 3 gwc), .eq (.pointer (some ⟨gw, 0, none⟩)), .eq (.string A), .eq (.int .u64 (VA : Nat)), .eq (.slice (some ⟨gw, 0, none⟩) 3 gwc), .eq (.pointer (some ⟨gw, 1, none⟩)), .eq (.string B), .eq (.agg #[.int .u64 (VB : Nat), .int .u64 (VC : Nat)]), .eq (.slice (some ⟨gw, 0, none⟩) 3 gwc), .eq (.pointer (some ⟨gw, 2, none⟩)), .eq (.string C), .eq (.bool FM), .eq (.agg #[.int .u64 (VA : Nat), .int .u64 (VB : Nat), .int .u64 (VC : Nat), .bool FM]), .wr, .wr, .eq (.pointer (some ⟨rb, 10, none⟩)), .wr] (EcZ rb gw base j 65 130 (fun sv => #[.int .i64 5, .int .u64 (aj l1 : Nat), .int .u64 0, .int .u64 0, .int .u64 0, .int .u64 0, .int .i64 q0, .int .u64 (q1 : Nat), .int .u64 (q2 : Nat), .slice q3 q4 q5, sv]) sa sc es ⟨VA, VB, VC, FM⟩ A B C w9) (by kernel_rfl) (⟨fun _ => undef, HZ9.out⟩) ⟨?_, ?_, ?_, ?_, ?_, ?_, ?_, ?_, ?_, ?_, ?_, ?_, ?_, ?_, ?_, ?_, ?_, ?_, ?_, trivial⟩ (fun vs => [(121, .pointer (some ⟨rb, 10, none⟩)), (122, .slice sa j sc), (123, .slice (some ⟨gw, 0, none⟩) 3 gwc), (124, .pointer (some ⟨gw, 0, none⟩)), (125, .string A), (126, .int .u64 (VA : Nat)), (127, .slice (some ⟨gw, 0, none⟩) 3 gwc), (128, .pointer (some ⟨gw, 1, none⟩)), (129, .string B), (130, .agg #[.int .u64 (VB : Nat), .int .u64 (VC : Nat)]), (131, .slice (some ⟨gw, 0, none⟩) 3 gwc), (132, .pointer (some ⟨gw, 2, none⟩)), (133, .string C), (134, .bool FM), (135, .agg #[.int .u64 (VA : Nat), .int .u64 (VB : Nat), .int .u64 (VC : Nat), .bool FM]), (136, vs 15), (137, vs 16), (138, .pointer (some ⟨rb, 10, none⟩))]) (fun _ => rfl) 3 (by kernel_rfl) ?_
       ·refine cp fun t vs ac wx K Q hR hZ hK => ?_
        have t5 : ac.tmps[5]? = some (.pointer (some ⟨rb, 0, none⟩)) := hR.o 5
        go_simp
        exact hK _ hZ
       ·refine cp fun t vs ac wx K Q hR hZ hK => ?_
        have t121 := hR.q 0
        have y0 := (hZ.c10 (by have h : t ≤ 1 := hR.hi 16 .wr rfl rfl (by kernel_rfl); omega) (fun _ => rfl)).1
        go_simp
        exact hK _ hZ
       ·refine cp fun t vs ac wx K Q hR hZ hK => ?_
        have t11 : ac.tmps[11]? = some (.slice (some ⟨gw, 0, none⟩) 3 gwc) := hR.o 11
        go_simp
        exact hK _ hZ
       ·refine cp fun t vs ac wx K Q hR hZ hK => ?_
        have t123 := hR.q 2
        go_simp
        exact hK _ hZ
       ·refine cp fun t vs ac wx K Q hR hZ hK => ?_
        have t124 := hR.q 3
        have y0 := (hZ.wd (by have h : t ≤ 0 := hR.hi 15 .wr rfl rfl (by kernel_rfl); omega)).1
        go_simp
        exact hK _ hZ
       ·refine cp fun t vs ac wx K Q hR hZ hK => ?_
        have t125 := hR.q 4
        go_simp
        go_at_call 53
        refine (HVA.out.1 _).mono ?_
        rintro e w' ⟨rfl, hw'⟩
        rw [hw']
        exact hK _ hZ
       ·refine cp fun t vs ac wx K Q hR hZ hK => ?_
        have t11 : ac.tmps[11]? = some (.slice (some ⟨gw, 0, none⟩) 3 gwc) := hR.o 11
        go_simp
        exact hK _ hZ
       ·refine cp fun t vs ac wx K Q hR hZ hK => ?_
        have t127 := hR.q 6
        go_simp
        exact hK _ hZ
       ·refine cp fun t vs ac wx K Q hR hZ hK => ?_
        have t128 := hR.q 7
        have y0 := (hZ.wd (by have h : t ≤ 0 := hR.hi 15 .wr rfl rfl (by kernel_rfl); omega)).2.1
        go_simp
        exact hK _ hZ
       ·refine cp fun t vs ac wx K Q hR hZ hK => ?_
        have t129 := hR.q 8
        have ht0 : t = 0 := (by have h : t ≤ 0 := hR.hi 15 .wr rfl rfl (by kernel_rfl); omega)
        go_simp
        go_at_call 54
        refine (HVA.out.2.1 _).mono ?_
        rintro e w' ⟨rfl, hbx⟩
        exact hK _ (hZ.grow ht0 hbx)
       ·refine cp fun t vs ac wx K Q hR hZ hK => ?_
        have t11 : ac.tmps[11]? = some (.slice (some ⟨gw, 0, none⟩) 3 gwc) := hR.o 11
        go_simp
        exact hK _ hZ
       ·refine cp fun t vs ac wx K Q hR hZ hK => ?_
        have t131 := hR.q 10
        go_simp
        exact hK _ hZ
       ·refine cp fun t vs ac wx K Q hR hZ hK => ?_
        have t132 := hR.q 11
        have y0 := (hZ.wd (by have h : t ≤ 0 := hR.hi 15 .wr rfl rfl (by kernel_rfl); omega)).2.2
        go_simp
        exact hK _ hZ
       ·refine cp fun t vs ac wx K Q hR hZ hK => ?_
        have t133 := hR.q 12
        have q0 := HFM.out
        go_simp
        (try go_ints)
        exact hK _ hZ
       ·refine cp fun t vs ac wx K Q hR hZ hK => ?_
        have t126 := hR.q 5
        have t130 := hR.q 9
        have t134 := hR.q 13
        go_simp
        exact hK _ hZ
       ·refine cw fun vs ac wx K Q hR hZ hK => ?_
        have t135 := hR.q 14
        go_simp
        exact hK _ _ nofun hZ.build
       ·refine cw fun vs ac wx K Q hR hZ hK => ?_
        have t122 := hR.q 1
        have t136 := hR.w 15
        obtain ⟨bb, ev, hbb⟩ := hZ.one rfl
        rw [ev] at t136
        obtain ⟨hi0, hz0, hz1, hz2⟩ := HI.out
        have hob := (hZ.own (by omega)).lt
        have hrz := hZ.rg.2.2
        have hlz := hZ.lt
        refine wp_append_lies wx (.tmp 122) (.tmp 136) 63 rfl base 130 i0 _ 4 32 Tryz.underlying63 hi0 hz0 hz1 hz2 rfl (by omega) (.slice sa j sc) j (aN es) (fo t122) (hZ.own (by omega)) ⟨bb, 0, none⟩ 1 1 (jI ⟨VA, VB, VC, FM⟩).toList (fo t136) rfl (World.news_of_block hbb) (by simp [jI, Ent.cells, Value.oneCell']) (by omega) (by unfold maxLen; omega) (by omega) (by omega) wx.heap.size rfl ?_
        intro gg2 gcap w3 hown2 hgrow hat hlt3
        rw [← qA] at hown2
        exact hK _ _ nofun (hZ.app hown2 hgrow)
       ·refine cp fun t vs ac wx K Q hR hZ hK => ?_
        have t5 : ac.tmps[5]? = some (.pointer (some ⟨rb, 0, none⟩)) := hR.o 5
        go_simp
        exact hK _ hZ
       ·refine cw fun vs ac wx K Q hR hZ hK => ?_
        have t138 := hR.q 17
        have t137 := hR.w 16
        obtain ⟨gg2, gcap, ev, ho⟩ := hZ.two (by omega)
        rw [ev] at t137
        obtain ⟨c5, f5⟩ := hZ.c10 (by omega) (fun _ => rfl)
        have HO := hid ev
        clear ev ho
        go_simp
        exact hK undef _ nofun (hZ.sto (by omega) HO.out (fun _ _ => rfl))
       intro vs wN hZ
       obtain ⟨gg2, gcap, ev, ho⟩ := hZ.two (by omega)
       have HZ := hid hZ
       simp only [aH, List.foldl_cons, List.foldl_nil]
       rw [ev]
       clear hZ ev ho
       generalize vs 15 = v15
       go_simp
       go_wp2_with fail
       go_roundw
       case rel =>
        obtain ⟨gg3, gcap3, ev, ho⟩ := HZ.out.two (by omega)
        have hnew := HZ.out.new (by omega)
        rw [ev] at hnew
        have hzn := HZ.out.rg.2.2
        refine ⟨j + 1, by go_num, ⟨by omega, ⟨es ++ [⟨VA, VB, VC, FM⟩], _, by rw [lK hltE, HES.out.1, HES.out.2.2.1]; rfl, by rw [List.length_append, HES.out.2.1]; rfl, hnew, ho⟩, HR.out.1.bel.trans ((HES.out.2.2.2.mono (by omega)).trans HZ.out.rg.1), fun b hb hn => (HZ.out.rg.2.1 b hb hn).trans ((HES.out.2.2.2.block b (by omega)).trans (HR.out.1.keep b hb hn)), by omega⟩⟩
       case measure => simp [intOf]; omega
      ·have t3 : (((cuts 58 tl[j]).length : Int) != 3) = true := by simp; omega
       have HLN : Hid (aM s.data.toList = none) := hid (DI HC.out HLR.out.1 HKD.out hltE (yV h3))
       have hz9w : w9.heap[w.heap.size]? = some (.cells #[.int .i64 0, .int .u64 0, .int .u64 0, .int .u64 0, .int .u64 0, .int .u64 0, .int .i64 0, .int .u64 0, .int .u64 0, .slice none 0 0, .slice none 0 0] 65 (0, 0)) := (hb9.block _ (by omega)).trans HR.out.2.2.2
       have H9 := hid (And.intro hz9w (HR.out.2.2.1.trans (hb9.mono (by omega))))
       obtain ⟨n9, hn9⟩ : ∃ n9, n9 = (cuts 58 tl[j]).length := ⟨_, rfl⟩
       rw [← hn9] at t3 ⊢
       clear hown hb9 hz9w h3 hn9
       go_upto_region 31 with fail
       go_wp2_with (refine wpList_store_row rfl 65 (.tmp 2) (.tmp 120) rfl rfl w.heap.size rfl _ rfl 65 _ H9.out.1 (by kernel_rfl) rfl (by simp [Value.oneCell']) ?_)
       exact bodyPost_ret (v := .tuple #[.agg #[.int .i64 0, .int .u64 0, .int .u64 0, .int .u64 0, .int .u64 0, .int .u64 0, .int .i64 0, .int .u64 0, .int .u64 0, .slice none 0 0, .slice none 0 0], .int .i64 50]) (ag rfl _ _ w.heap.size 65 _ _ _ _ rfl (setRow_heap _ _ _ _ _ _ H9.out.1) Tryz.underlying65 rfl (by kernel_rfl) rfl) rfl (aG HLN.out (below_setRow H9.out.2 _ _ nl))
     ·have hj2 : j = m := by omega
      obtain ⟨es, sv, hes, hel, hrow, hownE⟩ := hR.ex
      obtain ⟨sa, sc, rfl⟩ := au hownE
      subst hj2
      have htk : tl.take j = tl := by rw [HLR.out.2]; exact List.take_length
      rw [htk] at hes
      have hpn := (gT HRD.out.1).2.1
      have hpr := HRD.out.2
      have hsz : (Rec.p (⟨5, aj l1, 0, 0, 0, 0, p, es⟩ : Rec)).size ≤ 900 := by simp [Ex.right] at hpr; show p.size ≤ 900; omega
      have hle : (Rec.es (⟨5, aj l1, 0, 0, 0, 0, p, es⟩ : Rec)).length ≤ 10000 := by show es.length ≤ 10000; omega
      have HCAND : Hid (dS s.data.toList = some ⟨5, aj l1, 0, 0, 0, 0, p, es⟩) := hid (by rw [yX HC.out HLR.out.1 HKD.out, HRD.out.1, hes]; rfl)
      have hpw : ax wr (fun b => w.heap.size < b) true p (.agg #[.int .i64 q0, .int .u64 (q1 : Nat), .int .u64 (q2 : Nat), .slice q3 q4 q5]) := ax.keep (w := W8) (S := fun b => rb < b) (fun b hb hl => hR.keep b (by rw [HBS.out]; exact hl) (by omega)) (fun b _ hb => by omega) H8.out.2.2
      have hnw : eX wr (fun b => w.heap.size < b) true es (.slice sa j sc) := by have h := Sl.of_owns hownE (by omega); rw [← hel] at h ⊢; exact Sl.keep h (by omega) (fun _ _ _ => rfl) (fun b _ hb => by have := hb.2; omega)
      have HRC : Hid (aI wr (fun b => w.heap.size < b) true ⟨5, aj l1, 0, 0, 0, 0, p, es⟩ (.agg #[.int .i64 5, .int .u64 (aj l1 : Nat), .int .u64 0, .int .u64 0, .int .u64 0, .int .u64 0, .int .i64 q0, .int .u64 (q1 : Nat), .int .u64 (q2 : Nat), .slice q3 q4 q5, .slice sa j sc])) := hid ⟨_, _, _, _, _, rfl, by simp, by simp, ⟨cK _, by simp, by simp, by simp, by simp, hpn, pQ hes⟩, hpw, hnw⟩
      have H6 := hid (And.intro hrow (And.intro hzr8 hBr))
      obtain ⟨W6, hW6⟩ : ∃ W6, W6 = wr := ⟨_, rfl⟩
      rw [← hW6] at H6 HRC ⊢
      clear hR hrgr hBr hzr8 hes hel hrow hownE htk hpn hpr hpw hnw hW6
      go_wp2_with (refine wpList_load_row rfl 65 (.tmp 5) rfl rb rfl 65 _ (0, 0) _ H6.out.1 Tryz.underlying65 rfl (by kernel_rfl) ?_)
      refine (fQ _ true (⟨5, aj l1, 0, 0, 0, 0, p, es⟩) _ W6 hsz hle HRC.out).mono ?_
      rintro e w7 ⟨rfl, hb7⟩
      obtain ⟨TB, hTB⟩ : ∃ TB : ByteArray, TB = ⟨(Rec.text (⟨5, aj l1, 0, 0, 0, 0, p, es⟩)).toArray⟩ := ⟨_, rfl⟩
      have eTB : TB.toList = Rec.text (⟨5, aj l1, 0, 0, 0, 0, p, es⟩) := by rw [hTB, ByteArray.toList_eq]
      rw [← hTB]
      have l6 : rb < W6.heap.size := (Array.getElem?_eq_some_iff.1 H6.out.1).1
      have hrow7 := (hb7.block _ l6).trans H6.out.1
      have hz7 := (hb7.block _ (by omega)).trans H6.out.2.1
      have hB7 : Below w.heap.size w w7 := H6.out.2.2.trans (hb7.mono (by omega))
      have hrc7 := HRC.out.below hb7 nl
      have H7 := hid (And.intro hrow7 (And.intro hz7 (And.intro hB7 hrc7)))
      clear hTB hb7 hrow7 hz7 hB7 hrc7
      by_cases hq : Rec.text (⟨5, aj l1, 0, 0, 0, 0, p, es⟩) = s.data.toList
      ·have hne : (TB.toList == s.toList) = true := by rw [eTB, hq, ByteArray.toList_eq]; simp
       have HLN : Hid (aM s.data.toList = some (⟨5, aj l1, 0, 0, 0, 0, p, es⟩)) := hid (by rw [← dU, HCAND.out]; simp [hq])
       clear hq eTB
       go_wp2_with (first
        | (refine wpList_load_row rfl 65 (.tmp 5) rfl rb rfl 65 _ (0, 0) _ H7.out.1 Tryz.underlying65 rfl (by kernel_rfl) ?_)
        | (refine wpList_store_row rfl 65 (.tmp 2) (.tmp 144) rfl rfl w.heap.size rfl _ rfl 65 _ H7.out.2.1 (by kernel_rfl) rfl (by simp [Value.oneCell']) ?_))
       exact bodyPost_ret (v := .tuple #[.agg #[.int .i64 5, .int .u64 (aj l1 : Nat), .int .u64 0, .int .u64 0, .int .u64 0, .int .u64 0, .int .i64 q0, .int .u64 (q1 : Nat), .int .u64 (q2 : Nat), .slice q3 q4 q5, .slice sa j sc], .int .i64 0]) (ag rfl _ _ w.heap.size 65 _ _ _ _ rfl (setRow_heap _ _ _ _ _ _ H7.out.2.1) Tryz.underlying65 rfl (by kernel_rfl) rfl) rfl (dP _ HLN.out (aI.keep H7.out.2.2.2 (fun b hb _ => setRow_other _ _ _ _ (by omega)) (fun b _ hb => by omega)) (below_setRow H7.out.2.2.1 _ _ nl))
      ·have hne : (TB.toList == s.toList) = false := by rw [eTB, ByteArray.toList_eq]; simpa using hq
       have HLN : Hid (aM s.data.toList = none) := hid (by rw [← dU, HCAND.out]; simp [hq])
       clear hq eTB
       go_upto_region 34 with fail
       go_wp2_with (refine wpList_store_row rfl 65 (.tmp 2) (.tmp 143) rfl rfl w.heap.size rfl _ rfl 65 _ H7.out.2.1 (by kernel_rfl) rfl (by simp [Value.oneCell']) ?_)
       exact bodyPost_ret (v := .tuple #[.agg #[.int .i64 0, .int .u64 0, .int .u64 0, .int .u64 0, .int .u64 0, .int .u64 0, .int .i64 0, .int .u64 0, .int .u64 0, .slice none 0 0, .slice none 0 0], .int .i64 50]) (ag rfl _ _ w.heap.size 65 _ _ _ _ rfl (setRow_heap _ _ _ _ _ _ H7.out.2.1) Tryz.underlying65 rfl (by kernel_rfl) rfl) rfl (aG HLN.out (below_setRow H7.out.2.2.1 _ _ nl))
theorem oq (s : ByteArray) (w : World) (hs : s.size ≤ 800) : Calls Tryz.prog 29 #[.string s] w (eZ (aM s.data.toList) w) := by
 obtain ⟨l0, lr, hc⟩ : ∃ l0 lr, cuts 32 s.data.toList = l0 :: lr := by
  cases h : cuts 32 s.data.toList with
  | nil => exact absurd h (dR _ _)
  | cons a b => exact ⟨a, b, rfl⟩
 have h7 := sV l0
 obtain ⟨K, hK⟩ : ∃ K, kindOf l0 = K := ⟨_, rfl⟩
 have hc8 : K = 0 ∨ K = 1 ∨ K = 2 ∨ K = 3 ∨ K = 4 ∨ K = 5 ∨ K = 6 ∨ K = 7 := by omega
 rcases hc8 with rfl | rfl | rfl | rfl | rfl | rfl | rfl | rfl
 ·exact yO s w hs l0 lr (hid hc) (hid hK)
 ·exact lJ 1 (.inl rfl) s w hs l0 lr (hid hc) (hid hK)
 ·exact yP s w hs l0 lr (hid hc) (hid hK)
 ·exact yQ s w hs l0 lr (hid hc) (hid hK)
 ·exact yR s w hs l0 lr (hid hc) (hid hK)
 ·exact yY s w hs l0 lr (hid hc) (hid hK)
 ·exact lJ 6 (.inr (.inl rfl)) s w hs l0 lr (hid hc) (hid hK)
 ·exact lJ 7 (.inr (.inr rfl)) s w hs l0 lr (hid hc) (hid hK)
end Go.Proofs.YtlpgokcapdjgjaaGreatDoor
