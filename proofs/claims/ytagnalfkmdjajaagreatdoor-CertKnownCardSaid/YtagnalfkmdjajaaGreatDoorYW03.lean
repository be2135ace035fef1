/- Walks. -/
import Derived.Test.YtagnalfkmdjajaaGreatDoorYW02
import Derived.Deep.RegionLaw
set_option maxHeartbeats 1000000
set_option maxRecDepth 100000
namespace Go.Proofs.YtagnalfkmdjajaaGreatDoor
open Go.RowKit Go
set_option linter.unusedVariables false
set_option linter.unusedSimpArgs false
theorem uj {TW : TypeId} (S : Nat → Prop) (own : Bool) (wb : Nat) (sv : Value) (l m : List UInt8) (v : Value) (w : World) (hw : Wr TW 5 w wb sv l) (hr : au w S own m v) (h47 : l.length + m.length ≤ 140737488355328) :
  Calls Tryz.prog 65 #[.pointer (some ⟨wb, 0, none⟩), v] w (Wg TW 5 w wb sv (l ++ m) (.int .i64 0)) := by
 obtain ⟨i0, hi0, hz0, hz1, hz2⟩ := info_parts infoByte
 have hl := hr.2.1
 have HR := hid hr
 obtain ⟨_, ad, cap, rfl, hc⟩ := hr.shape
 clear hr
 obtain ⟨c0, f0⟩ := hw.cell
 have hlt := hw.lt
 have hl1 : wb < w.heap.size := hlt.1
 have HW := hid hw
 clear hw
 obtain ⟨sa, sc, rfl⟩ := ag HW.out.2
 go_enter Tryz.func65, Tryz.ntmps65
 go_wp2_with (at_builtin; go_loud (refine af _ rfl (.tmp 11) (.tmp 12) _ rfl (wb + 1) 5 i0 _ 1 1 Tryz.underlying29 hi0 hz0 hz1 hz2 rfl (by omega) _ l.length (bytes l) rfl HW.out.2 _ _ m.length (bytes m) _ rfl HR.out (dU _) (by unfold maxLen; omega) (by omega) (by omega) ?_); intro v' w2 hown2 hgrow hat; obtain ⟨va, vc, rfl⟩ := ag hown2
              have hne : some wb ≠ (Value.slice sa l.length sc).ownBlock := fun e => (by have := (hlt.2 _ e.symm).1; omega)
              have c5 : w2.cell? ⟨wb, 0, none⟩ = some (.slice sa l.length sc) := (by rw [hgrow.cell_far _ (by omega) hne]; exact c0)
              have f5 : w2.frozen? ⟨wb, 0, none⟩ = false := (by rw [hgrow.frozen_far _ (by omega) hne]; exact f0))
 go_ret
 have h := Wr.push HW.out br hown2 hgrow hat
 exact ⟨rfl, _, h.1, h.2⟩
theorem gZ {TW : TypeId} (own : Bool) (wb : Nat) (sv : Value) (l : List UInt8) (ns : List Nat) (v : Value) (w : World) (hw : Wr TW 5 w wb sv l) (hr : Sl w (fun b => b ≠ wb ∧ sv.ownBlock ≠ some b) own 1 ns.length (nums ns) v)
  (hns : ∀ n ∈ ns, n < 18446744073709551616) (hsmall : l.length + 10 * ns.length ≤ 1000000) :
  Calls Tryz.prog 94 #[.pointer (some ⟨wb, 0, none⟩), v] w (Wg TW 5 w wb sv (l ++ ae ns) (.int .i64 0)) := by
 obtain ⟨i0, hi0, hz0, hz1, hz2⟩ := info_parts infoByte
 obtain ⟨_, hl63, ad, cap, rfl, hcap, hc⟩ := hr
 have hlt := hw.lt
 have HW := hid hw
 clear hw
 go_enter Tryz.func94, Tryz.ntmps94
 go_wp2_with fail
 go_loopw [11] (fun i wr => ∃ j : Nat, ∃ sv', j ≤ ns.length ∧ i = .int .i64 j ∧ Wr TW 5 wr wb sv' (l ++ ae (ns.take j)) ∧ Wrote wb sv sv' w wr) (fun i _ => ns.length - (intOf i).toNat)
 case atStart => exact ⟨0, sv, by omega, rfl, by simpa [ae] using HW.out, Wrote.refl _ _ _⟩
 case round =>
  obtain ⟨j, sv', hj, rfl, hwr, hwt⟩ := hrel
  by_cases hjl : j < ns.length
  ·obtain ⟨bl, off, rfl, ⟨hS1, hS2⟩, hcell⟩ := hc (by omega)
   have g0 := (hcell j (by simpa using hjl)).1
   have hbl : bl < w.heap.size := World.block_lt_of_cell? w _ g0
   have g : wr.cell? ⟨bl, off + j, none⟩ = some (.int .u64 (ns[j] : Nat)) := by
    rw [World.cell?_of_block (w := w) (a := ⟨bl, off + j, none⟩) (hwt.keep bl hbl hS1 hS2), g0]; simp [nums]
   have hn64 : ns[j] < 18446744073709551616 := hns _ (List.getElem_mem hjl)
   have hpl := aJ (ns.take j)
   have hpl2 := bO ns[j]
   have hln : (ns.take j).length ≤ ns.length := by simp; omega
   have PS := hid (pX ns j hjl)
   obtain ⟨c0, f0⟩ := hwr.cell
   have hlt' := hwr.lt
   have l0 : bl < wr.heap.size := by have := hwt.size; omega
   have hlen : (l ++ ae (ns.take j)).length ≤ l.length + 10 * ns.length := by simp; omega
   obtain ⟨L, hL⟩ : ∃ L, L = l ++ ae (ns.take j) := ⟨_, rfl⟩
   rw [← hL] at hwr hlen
   have HL := hid hL
   clear hL
   obtain ⟨sa, sc, rfl⟩ := ag hwr.2
   have HWR := hid hwr
   have hl1 : wb < wr.heap.size := hlt'.1
   clear hwr hcell g0 hpl hln
   go_wp2_with fail
   go_region_law (first
    | (go_simp; go_at_call 102; refine (lW ns[j] _ hn64).mono ?_; rintro e w1 ⟨v1, rfl, hown1, hb1⟩; obtain ⟨hc1, hf1⟩ := EW hb1; have hx1 := ((hb1.cell (p := ⟨wb, 0, none⟩) hl1).trans c0); obtain ⟨sa1, sc1, rfl⟩ := ag hown1)
    | (refine iC _ (by rfl) (.tmp 19) (.tmp 21) 29 (by rfl) (wb + 1) 5 i0 _ 1 1 Tryz.underlying29 hi0 hz0 hz1 hz2 rfl (by omega) (.slice sa L.length sc) L.length (bytes L) (by rfl) (HWR.out.below (br.drew.trans hb1)).2
        _ _ (bi ns[j]).length (bytes (bi ns[j])) _ (by rfl) (Sl.of_owns hown1 (by omega)) (dU _) (by unfold maxLen; omega) (by omega) (by have := hb1.size; simp at this ⊢; omega) ?_; intro v' w2 hown2 hgrow hat; obtain ⟨va, vc, rfl⟩ := ag hown2
       have hne : some wb ≠ (Value.slice sa L.length sc).ownBlock := fun e => (by have := (hlt'.2 _ e.symm).1; omega)
       have hzz : wb < w1.heap.size := (by have := hb1.size; simp at this; omega)
       have c5 : w2.cell? ⟨wb, 0, none⟩ = some (.slice sa L.length sc) := (by rw [hgrow.cell_far _ (by omega) hne]; exact hx1)
       have f5 : w2.frozen? ⟨wb, 0, none⟩ = false := (by rw [hgrow.frozen_far _ (by omega) hne, hf1 _ _ hl1]; exact f0)))
   all_goals
    have HP := hid (Wr.push HWR.out (br.drew.trans hb1) hown2 hgrow hat)
    clear hown2 hgrow hat hown1
    go_wp2_with fail
    go_roundw
    case rel =>
     refine ⟨j + 1, _, by omega, by go_num, ?_, hwt.trans HP.out.2⟩
     rw [PS.out, ← List.append_assoc, ← HL.out]
     exact HP.out.1
    case measure => simp [intOf]; omega
  ·have hj2 : j = ns.length := by omega
   subst hj2
   rw [List.take_length] at hwr
   go_wp2_with fail
   go_ret
   exact ⟨rfl, sv', hwr, hwt⟩
theorem oq {TW : TypeId} (wb : Nat) (sv : Value) (l : List UInt8) (w : World) (hw : Wr TW 5 w wb sv l) (h47 : l.length ≤ 140737488355328) :
  Calls Tryz.prog 31 #[.pointer (some ⟨wb, 0, none⟩)] w (jo 5 w l) := by
 obtain ⟨c0, f0⟩ := hw.cell
 have HC := hid (iH _ _ l sv w (au.of_owns hw.2) h47)
 go_enter Tryz.func31, Tryz.ntmps31
 go_wp2_with fail
 refine HC.out.mono ?_
 rintro e w1 ⟨v1, rfl, hown1, hb1⟩
 go_wp2_with fail
 go_ret
 exact ⟨v1, rfl, hown1, hb1⟩
end Go.Proofs.YtagnalfkmdjajaaGreatDoor
