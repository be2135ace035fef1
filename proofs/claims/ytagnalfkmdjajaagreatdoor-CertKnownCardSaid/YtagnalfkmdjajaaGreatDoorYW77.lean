/- Walks. -/
import Derived.Test.YtagnalfkmdjajaaGreatDoorYW02
set_option maxRecDepth 100000
namespace Go.Proofs.YtagnalfkmdjajaaGreatDoor
open Go.RowKit Go
set_option linter.unusedVariables false
set_option linter.unusedSimpArgs false
theorem nW (l : List UInt8) (j : Nat) (x : UInt8) : bytes (l.set j x) = (bytes l).set j (.int .u8 (x.toNat : Int)) := by
 unfold bytes
 rw [List.map_set]
theorem au.set {w : World} {S : Nat → Prop} {l : List UInt8} {bl off cap : Nat} (h : au w S true l (.slice (some ⟨bl, off, none⟩) l.length cap)) {j : Nat} (hj : j < l.length) (x : UInt8) :
  au (w.setCell ⟨bl, off + j, none⟩ (.int .u8 (x.toNat : Int))) S true (l.set j x) (.slice (some ⟨bl, off, none⟩) l.length cap) := by
 obtain ⟨bl', off', ha, hS, hc⟩ := au.cell h (by omega)
 have ha' : bl = bl' ∧ off = off' := by simpa using ha
 obtain ⟨rfl, rfl⟩ := ha'
 obtain ⟨_, ad, cap', hv, hcap⟩ := h.shape
 have hcap' : l.length ≤ cap := by simp only [Value.slice.injEq] at hv; omega
 have hl := h.2.1
 refine ⟨by simp, by rw [List.length_set]; exact hl, _, cap, by rw [List.length_set], by rw [List.length_set]; exact hcap', fun _ => ⟨bl, off, rfl, hS, fun i hi => ?_⟩⟩
 have hi' : i < l.length := by simpa using hi
 obtain ⟨c1, c2⟩ := hc i (by omega)
 refine ⟨?_, fun ho => by rw [World.frozen?_setCell]; exact c2 ho⟩
 by_cases e : i = j
 ·subst e
  rw [World.cell?_setCell_same _ _ _ c1]
  simp [nW]
 ·rw [World.cell?_setCell_other _ _ _ _ (by intro h; simp only [Addr.mk.injEq] at h; omega), c1]
  simp only [nW]
  rw [List.getElem_set_ne (by omega)]
  simp [bytes]
theorem Ep (i : Int) (n : Nat) (h : 0 < n) : ∃ j : Nat, j < n ∧ (i.tmod n + n).tmod n = (j : Int) := by
 have h1 := Int.tmod_lt_of_pos i (show (0 : Int) < n by omega)
 have h2 : -(n : Int) < i.tmod n := by
  have := Int.lt_tmod_of_pos i (show (0 : Int) < n by omega)
  omega
 have h3 : (0 : Int) ≤ (i.tmod n + n).tmod n := Int.tmod_nonneg _ (by omega)
 have h4 := Int.tmod_lt_of_pos (i.tmod n + n) (show (0 : Int) < n by omega)
 exact ⟨((i.tmod n + n).tmod n).toNat, by omega, by omega⟩
theorem Dt (i : Int) (n : Nat) (w : World) (hi : -9223372036854775808 ≤ i ∧ i ≤ 9223372036854775807) (h0 : 0 < n) (hn : n ≤ 1000000) :
  Calls Tryz.prog 15 #[.int .i64 i, .int .i64 n] w fun e w' => (∃ j : Nat, j < n ∧ e = .returned (.int .i64 j)) ∧ Below w.heap.size w w' := by
 obtain ⟨j, hj, he⟩ := Ep i n h0
 have HJ := hid (And.intro hj he)
 have t1 : ¬ ((n : Int) ≤ 0) := by omega
 clear hj he
 go_enter Tryz.func15, Tryz.ntmps15
 go_wp2_with fail
 go_ret
 refine ⟨⟨j, HJ.out.1, ?_⟩, br⟩
 have h1 := Int.tmod_lt_of_pos i (show (0 : Int) < n by omega)
 have h2 := Int.lt_tmod_of_pos i (show (0 : Int) < n by omega)
 have e1 : wrap64 (i.tmod n + n) = i.tmod n + n := by unfold wrap64; omega
 rw [e1, HJ.out.2]
 rfl
end Go.Proofs.YtagnalfkmdjajaaGreatDoor
