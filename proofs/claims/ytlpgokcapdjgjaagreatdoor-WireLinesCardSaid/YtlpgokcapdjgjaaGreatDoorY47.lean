/- Walks. -/
import Derived.Test.YtlpgokcapdjgjaaGreatDoorY14
import Derived.Deep.RegionLaw
set_option maxHeartbeats 1000000
set_option maxRecDepth 100000
namespace Go.Proofs.YtlpgokcapdjgjaaGreatDoor
open Go.RowKit Go
set_option linter.unusedVariables false
set_option linter.unusedSimpArgs false
def Wr (TW TB : TypeId) (w : World) (wb : Nat) (sv : Value) (l : List UInt8) : Prop := w.heap[wb]? = some (.cells #[sv] TW (0, 0)) ∧ w.ownsRow (wb + 1) TB 1 sv l.length (bytes l)
structure Wrote (wb : Nat) (sv sv' : Value) (w w' : World) : Prop where
 os : w'.os = w.os
 tape : w'.tape = w.tape
 output : w'.output = w.output
 size : w.heap.size ≤ w'.heap.size
 keep : ∀ b, b < w.heap.size → b ≠ wb → sv.ownBlock ≠ some b → w'.heap[b]? = w.heap[b]?
 row : sv'.ownBlock = sv.ownBlock ∨ ∃ b, sv'.ownBlock = some b ∧ w.heap.size ≤ b
theorem Wrote.refl (wb : Nat) (sv : Value) (w : World) : Wrote wb sv sv w w := ⟨rfl, rfl, rfl, Nat.le_refl _, fun _ _ _ _ => rfl, .inl rfl⟩
theorem Wrote.trans {wb : Nat} {sv sv' sv'' : Value} {w w' w'' : World} (h : Wrote wb sv sv' w w') (k : Wrote wb sv' sv'' w' w'') : Wrote wb sv sv'' w w'' := by
 refine ⟨k.os.trans h.os, k.tape.trans h.tape, k.output.trans h.output, Nat.le_trans h.size k.size, fun b hb h1 h2 => ?_, ?_⟩
 ·have hs := h.size
  rw [k.keep b (by omega) h1 (fun e => ?_), h.keep b hb h1 h2]
  rcases h.row with hr | ⟨b', hr, hl⟩
  ·exact h2 (by rw [← hr]; exact e)
  ·rw [hr] at e; injection e with e; omega
 ·rcases k.row with hr | ⟨b, hr, hl⟩
  ·rw [hr]; exact h.row
  ·exact .inr ⟨b, hr, by have := h.size; omega⟩
theorem Wrote.of_below {wb : Nat} {sv : Value} {w w' : World} (h : Below w.heap.size w w') : Wrote wb sv sv w w' := ⟨h.os, h.tape, h.output, h.size, fun b hb _ _ => h.block b hb, .inl rfl⟩
theorem Wr.lt {TW TB : TypeId} {w : World} {wb : Nat} {sv : Value} {l : List UInt8} (h : Wr TW TB w wb sv l) : wb < w.heap.size ∧ ∀ k, sv.ownBlock = some k → wb + 1 ≤ k ∧ k < w.heap.size := ⟨(Array.getElem?_eq_some_iff.1 h.1).1, h.2.lt⟩
theorem Wrote.below {TW TB : TypeId} {wb : Nat} {sv sv' : Value} {w w' : World} {l : List UInt8} (h : Wrote wb sv sv' w w') (hw : Wr TW TB w wb sv l) : Below wb w w' :=
 ⟨h.os, h.tape, h.output, h.size, fun b hb => h.keep b (by have := hw.lt.1; omega) (by omega) (fun e => by have := (hw.lt.2 b e).1; omega)⟩
theorem Wr.below {TW TB : TypeId} {w w' : World} {wb : Nat} {sv : Value} {l : List UInt8} (h : Wr TW TB w wb sv l) (hb : Below w.heap.size w w') : Wr TW TB w' wb sv l :=
 ⟨by rw [hb.block _ h.lt.1]; exact h.1, ownsRow_below h.2 hb nl⟩
theorem Wr.cell {TW TB : TypeId} {w : World} {wb : Nat} {sv : Value} {l : List UInt8} (h : Wr TW TB w wb sv l) : w.cell? ⟨wb, 0, none⟩ = some sv ∧ w.frozen? ⟨wb, 0, none⟩ = false :=
 ⟨by rw [cell_of_row w _ 0 _ _ _ h.1]; rfl, by rw [frozen_of_row w _ 0 _ _ h.1]⟩
theorem Wr.push {TW TB : TypeId} {w w1 w2 : World} {wb : Nat} {sv v' : Value} {l m : List UInt8} (h : Wr TW TB w wb sv l) (hb : Below w.heap.size w w1) (hown : w2.ownsRow (wb + 1) TB 1 v' (l.length + m.length) (bytes l ++ bytes m)) (hg : w1.grownBy w2 sv.ownBlock)
  (hat : v'.ownBlock = sv.ownBlock ∨ v'.ownBlock = some w1.heap.size) : Wr TW TB (w2.setCell ⟨wb, 0, none⟩ v') wb v' (l ++ m) ∧ Wrote wb sv v' w (w2.setCell ⟨wb, 0, none⟩ v') := by
 have hl := h.lt
 have hs := hb.size
 have hne : some wb ≠ sv.ownBlock := fun e => by have := (hl.2 _ e.symm).1; omega
 have h2 : w2.heap[wb]? = some (.cells #[sv] TW (0, 0)) := by rw [hg.block _ (by omega) hne, hb.block _ hl.1]; exact h.1
 refine ⟨⟨ae h2 (by simp), ?_⟩, ?_⟩
 ·refine ownsRow_setCell_below ?_ (by simp) v'
  simpa [bytes] using hown
 ·refine ⟨hg.os.trans hb.os, hg.tape.trans hb.tape, hg.output.trans hb.output, ?_, fun b hb' h1 h3 => ?_, ?_⟩
  ·have := hg.size; simp; omega
  ·rw [Below.heap_setCell _ _ _ _ (by simpa using h1), hg.block _ (by omega) (fun e => h3 e.symm), hb.block _ hb']
  ·rcases hat with h1 | h1
   ·exact .inl h1
   ·exact .inr ⟨_, h1, by omega⟩
def Wg (TW TB : TypeId) (w : World) (wb : Nat) (sv : Value) (l : List UInt8) (r : Value) (e : Ending) (w' : World) : Prop := e = .returned r ∧ ∃ sv', Wr TW TB w' wb sv' l ∧ Wrote wb sv sv' w w'
def nums (l : List Nat) : List Value := l.map fun (n : Nat) => .int .u64 (n : Int)
@[simp] theorem nums_length (l : List Nat) : (nums l).length = l.length := by simp [nums]
def bC (l : List Nat) : List UInt8 := l.flatMap dA
theorem xw (l : List Nat) (k : Nat) (h : k < l.length) : bC (l.take (k + 1)) = bC (l.take k) ++ dA l[k] := by
 unfold bC; rw [List.take_succ_eq_append_getElem h, List.flatMap_append]; simp
theorem bA (l : List Nat) : (bC l).length ≤ 10 * l.length := by
 unfold bC
 induction l with
 | nil => simp
 | cons n l ih => have := dF n; simp at ih ⊢; omega
theorem rY {TW : TypeId} (S : Nat → Prop) (own : Bool) (wb : Nat) (sv : Value) (l m : List UInt8) (v : Value) (w : World) (hw : Wr TW 5 w wb sv l) (hr : aF w S own m v) (h47 : l.length + m.length ≤ 140737488355328) :
  Calls Tryz.prog 85 #[.pointer (some ⟨wb, 0, none⟩), v] w (Wg TW 5 w wb sv (l ++ m) (.int .i64 0)) := by
 obtain ⟨i0, hi0, hz0, hz1, hz2⟩ := info_parts infoByte
 have hl := hr.2.1
 have HR := hid hr
 obtain ⟨_, ad, cap, rfl, hc⟩ := hr.shape
 clear hr
 obtain ⟨c0, f0⟩ := hw.cell
 have hlt := hw.lt
 have hl1 : wb < w.heap.size := hlt.1
 have HW := hid hw
 clear hw
 obtain ⟨sa, sc, rfl⟩ := au HW.out.2
 go_enter Tryz.func85, Tryz.ntmps85
 go_wp2_with (at_builtin; go_loud (refine bL _ rfl (.tmp 11) (.tmp 12) _ rfl (wb + 1) 5 i0 _ 1 1 Tryz.underlying32 hi0 hz0 hz1 hz2 rfl (by omega) _ l.length (bytes l) rfl HW.out.2 _ _ m.length (bytes m) _ rfl HR.out (iP _) (by unfold maxLen; omega) (by omega) (by omega) ?_); intro v' w2 hown2 hgrow hat; obtain ⟨va, vc, rfl⟩ := au hown2
              have hne : some wb ≠ (Value.slice sa l.length sc).ownBlock := fun e => (by have := (hlt.2 _ e.symm).1; omega)
              have c5 : w2.cell? ⟨wb, 0, none⟩ = some (.slice sa l.length sc) := (by rw [hgrow.cell_far _ (by omega) hne]; exact c0)
              have f5 : w2.frozen? ⟨wb, 0, none⟩ = false := (by rw [hgrow.frozen_far _ (by omega) hne]; exact f0))
 go_ret
 have h := Wr.push HW.out br hown2 hgrow hat
 exact ⟨rfl, _, h.1, h.2⟩
theorem lS {TW : TypeId} (own : Bool) (wb : Nat) (sv : Value) (l : List UInt8) (ns : List Nat) (v : Value) (w : World) (hw : Wr TW 5 w wb sv l) (hr : Sl w (fun b => b ≠ wb ∧ sv.ownBlock ≠ some b) own 1 ns.length (nums ns) v)
  (hns : ∀ n ∈ ns, n < 18446744073709551616) (hsmall : l.length + 10 * ns.length ≤ 1000000) :
  Calls Tryz.prog 83 #[.pointer (some ⟨wb, 0, none⟩), v] w (Wg TW 5 w wb sv (l ++ bC ns) (.int .i64 0)) := by
 obtain ⟨i0, hi0, hz0, hz1, hz2⟩ := info_parts infoByte
 obtain ⟨_, hl63, ad, cap, rfl, hcap, hc⟩ := hr
 have hlt := hw.lt
 have HW := hid hw
 clear hw
 go_enter Tryz.func83, Tryz.ntmps83
 go_wp2_with fail
 go_loopw [11] (fun i wr => ∃ j : Nat, ∃ sv', j ≤ ns.length ∧ i = .int .i64 j ∧ Wr TW 5 wr wb sv' (l ++ bC (ns.take j)) ∧ Wrote wb sv sv' w wr) (fun i _ => ns.length - (intOf i).toNat)
 case atStart => exact ⟨0, sv, by omega, rfl, by simpa [bC] using HW.out, Wrote.refl _ _ _⟩
 case round =>
  obtain ⟨j, sv', hj, rfl, hwr, hwt⟩ := hrel
  by_cases hjl : j < ns.length
  ·obtain ⟨bl, off, rfl, ⟨hS1, hS2⟩, hcell⟩ := hc (by omega)
   have g0 := (hcell j (by simpa using hjl)).1
   have hbl : bl < w.heap.size := World.block_lt_of_cell? w _ g0
   have g : wr.cell? ⟨bl, off + j, none⟩ = some (.int .u64 (ns[j] : Nat)) := by
    rw [World.cell?_of_block (w := w) (a := ⟨bl, off + j, none⟩) (hwt.keep bl hbl hS1 hS2), g0]; simp [nums]
   have hn64 : ns[j] < 18446744073709551616 := hns _ (List.getElem_mem hjl)
   have hpl := bA (ns.take j)
   have hpl2 := dF ns[j]
   have hln : (ns.take j).length ≤ ns.length := by simp; omega
   have PS := hid (xw ns j hjl)
   obtain ⟨c0, f0⟩ := hwr.cell
   have hlt' := hwr.lt
   have l0 : bl < wr.heap.size := by have := hwt.size; omega
   have hlen : (l ++ bC (ns.take j)).length ≤ l.length + 10 * ns.length := by simp; omega
   obtain ⟨L, hL⟩ : ∃ L, L = l ++ bC (ns.take j) := ⟨_, rfl⟩
   rw [← hL] at hwr hlen
   have HL := hid hL
   clear hL
   obtain ⟨sa, sc, rfl⟩ := au hwr.2
   have HWR := hid hwr
   have hl1 : wb < wr.heap.size := hlt'.1
   clear hwr hcell g0 hpl hln
   go_wp2_with fail
   go_region_law (first
    | (go_simp; go_at_call 124; refine (kX ns[j] _ hn64).mono ?_; rintro e w1 ⟨v1, rfl, hown1, hb1⟩; obtain ⟨hc1, hf1⟩ := nI hb1; have hx1 := ((hb1.cell (p := ⟨wb, 0, none⟩) hl1).trans c0); obtain ⟨sa1, sc1, rfl⟩ := au hown1)
    | (refine oM _ (by rfl) (.tmp 19) (.tmp 21) 32 (by rfl) (wb + 1) 5 i0 _ 1 1 Tryz.underlying32 hi0 hz0 hz1 hz2 rfl (by omega) (.slice sa L.length sc) L.length (bytes L) (by rfl) (HWR.out.below (br.drew.trans hb1)).2
        _ _ (dA ns[j]).length (bytes (dA ns[j])) _ (by rfl) (Sl.of_owns hown1 (by omega)) (iP _) (by unfold maxLen; omega) (by omega) (by have := hb1.size; simp at this ⊢; omega) ?_; intro v' w2 hown2 hgrow hat; obtain ⟨va, vc, rfl⟩ := au hown2
       have hne : some wb ≠ (Value.slice sa L.length sc).ownBlock := fun e => (by have := (hlt'.2 _ e.symm).1; omega)
       have hzz : wb < w1.heap.size := (by have := hb1.size; simp at this; omega)
       have c5 : w2.cell? ⟨wb, 0, none⟩ = some (.slice sa L.length sc) := (by rw [hgrow.cell_far _ (by omega) hne]; exact hx1)
       have f5 : w2.frozen? ⟨wb, 0, none⟩ = false := (by rw [hgrow.frozen_far _ (by omega) hne, hf1 _ _ hl1]; exact f0)))
   all_goals
    have HP := hid (Wr.push HWR.out (br.drew.trans hb1) hown2 hgrow hat)
    clear hown2 hgrow hat hown1
    go_wp2_with fail
    go_roundw
    case rel =>
     refine ⟨j + 1, _, by omega, by go_num, ?_, hwt.trans HP.out.2⟩
     rw [PS.out, ← List.append_assoc, ← HL.out]
     exact HP.out.1
    case measure => simp [intOf]; omega
  ·have hj2 : j = ns.length := by omega
   subst hj2
   rw [List.take_length] at hwr
   go_wp2_with fail
   go_ret
   exact ⟨rfl, sv', hwr, hwt⟩
theorem nJ {TW : TypeId} (wb : Nat) (sv : Value) (l : List UInt8) (w : World) (hw : Wr TW 5 w wb sv l) (h47 : l.length ≤ 140737488355328) :
  Calls Tryz.prog 84 #[.pointer (some ⟨wb, 0, none⟩)] w (oN 5 w l) := by
 obtain ⟨c0, f0⟩ := hw.cell
 have HC := hid (fI _ _ l sv w (aF.of_owns hw.2) h47)
 go_enter Tryz.func84, Tryz.ntmps84
 go_wp2_with fail
 refine HC.out.mono ?_
 rintro e w1 ⟨v1, rfl, hown1, hb1⟩
 go_wp2_with fail
 go_ret
 exact ⟨v1, rfl, hown1, hb1⟩
end Go.Proofs.YtlpgokcapdjgjaaGreatDoor
