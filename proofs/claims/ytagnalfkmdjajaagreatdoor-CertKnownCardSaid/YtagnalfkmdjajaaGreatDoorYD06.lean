/- Walks. -/
import Derived.Test.YtagnalfkmdjajaaGreatDoorY25
set_option maxRecDepth 100000
namespace Go.Proofs.YtagnalfkmdjajaaGreatDoor
open Go.RowKit Go
set_option linter.unusedVariables false
set_option linter.unusedSimpArgs false
theorem Rg.cellOf {rb b : Nat} {w w' : World} (h : Rg rb w w') (hb : b < w.heap.size) (hne : b ≠ rb) (o : Nat) : w'.cell? ⟨b, o, none⟩ = w.cell? ⟨b, o, none⟩ := World.cell?_of_block (w := w) (a := ⟨b, o, none⟩) (h.keep b hb hne)
theorem Rg.frozenOf {rb b : Nat} {w w' : World} (h : Rg rb w w') (hb : b < w.heap.size) (hne : b ≠ rb) (o : Nat) : w'.frozen? ⟨b, o, none⟩ = w.frozen? ⟨b, o, none⟩ := by
 unfold World.frozen?
 rw [h.keep b hb hne]
theorem mY (s : Option (List UInt8)) : (aB s).1 < 18446744073709551616 := by
 unfold aB
 split
 ·decide
 ·split
  ·rename_i h; exact mP h
  ·decide
theorem zD (cb rb nb no : Nat) (l : List UInt8) (sv : Value) (s : Option (List UInt8)) (bad : Bool) (x0 : Value) (w : World) (h : w.heap[cb]? = some (.cells #[.pointer (some ⟨rb, 0, none⟩), .bool bad] 84 (0, 0))) (hv : VrS w rb l sv s) (hnb : nb ≠ rb)
  (hn : w.cell? ⟨nb, no, none⟩ = some x0) (hf : w.frozen? ⟨nb, no, none⟩ = false) (hx : x0.oneCell' = true) :
  Calls Tryz.prog 173 #[.pointer (some ⟨cb, 0, none⟩), .pointer (some ⟨nb, no, none⟩)] w fun e w' => e = .returned (.tuple #[]) ∧ ∃ w2, Rg rb w w2 ∧ VrS w2 rb l sv (aB s).2 ∧ w' = w2.setCell ⟨nb, no, none⟩ (.int .u64 ((aB s).1 : Nat)) := by
 have c0 : w.cell? ⟨cb, 0, none⟩ = some (.pointer (some ⟨rb, 0, none⟩)) := by rw [cell_of_row w _ 0 _ _ _ h]; rfl
 have HN := hid (jc rb l sv s w hv)
 have hlt := World.block_lt_of_cell? w _ hn
 clear h hv
 go_enter Tryz.func173, Tryz.ntmps173
 go_wp2_with fail
 refine HN.out.mono ?_
 rintro e w2 ⟨rfl, hv2, hg⟩
 have n2 := (hg.cellOf hlt hnb no).trans hn
 have f2 := (hg.frozenOf hlt hnb no).trans hf
 have HV := hid (And.intro hg hv2)
 clear hg hv2 hn hf c0
 go_wp2_with fail
 go_end0
 exact ⟨rfl, w2, HV.out.1, HV.out.2, rfl⟩
theorem xL (cb rb nb no m : Nat) (l : List UInt8) (sv : Value) (s : Option (List UInt8)) (bad : Bool) (x0 : Value) (w : World) (h : w.heap[cb]? = some (.cells #[.pointer (some ⟨rb, 0, none⟩), .bool bad] 84 (0, 0))) (hv : VrS w rb l sv s) (hcr : cb ≠ rb) (hnb : nb ≠ rb) (hnc : nb ≠ cb) (hm : m ≤ 1)
  (hn : w.cell? ⟨nb, no, none⟩ = some x0) (hf : w.frozen? ⟨nb, no, none⟩ = false) (hx : x0.oneCell' = true) :
  Calls Tryz.prog 175 #[.pointer (some ⟨cb, 0, none⟩), .pointer (some ⟨nb, no, none⟩), .int .i64 (m : Nat)] w fun e w' => e = .returned (.tuple #[]) ∧ ∃ w2, Rg rb w w2 ∧ VrS w2 rb l sv (aB s).2 ∧
   w' = (w2.setCell ⟨cb, 1, none⟩ (.bool (bad || decide (9223372036854775807 + m < (aB s).1)))).setCell ⟨nb, no, none⟩ (.int .i64 (IntKind.i64.wrap (IntKind.i64.wrap ((aB s).1 : Nat) - (m : Nat)))) := by
 have c0 : w.cell? ⟨cb, 0, none⟩ = some (.pointer (some ⟨rb, 0, none⟩)) := by rw [cell_of_row w _ 0 _ _ _ h]; rfl
 have c1 : w.cell? ⟨cb, 1, none⟩ = some (.bool bad) := by rw [cell_of_row w _ 1 _ _ _ h]; rfl
 have c1f : w.frozen? ⟨cb, 1, none⟩ = false := by rw [frozen_of_row w _ 1 _ _ h]
 have hcl := (Array.getElem?_eq_some_iff.1 h).1
 have HN := hid (jc rb l sv s w hv)
 have hlt := World.block_lt_of_cell? w _ hn
 have hxl := mY s
 obtain ⟨X, hX⟩ : ∃ X, X = (aB s).1 := ⟨_, rfl⟩
 rw [← hX] at HN hxl ⊢
 have e1 : IntKind.u64.wrap (m : Int) = (m : Int) := by rw [IntKind.wrap_u64]; omega
 have e2 : IntKind.u64.wrap (9223372036854775807 + (m : Int)) = 9223372036854775807 + (m : Int) := by rw [IntKind.wrap_u64]; omega
 clear h hv hX
 go_enter Tryz.func175, Tryz.ntmps175
 go_wp2_with fail
 refine HN.out.mono ?_
 rintro e w2 ⟨rfl, hv2, hg⟩
 have n2 := (hg.cellOf hlt hnb no).trans hn
 have f2 := (hg.frozenOf hlt hnb no).trans hf
 have b2 := (hg.cellOf hcl hcr 1).trans c1
 have bf2 := (hg.frozenOf hcl hcr 1).trans c1f
 have HV := hid (And.intro hg hv2)
 clear hg hv2 hn hf c0 c1 c1f
 have hw : ∀ n, wrap64 n = IntKind.i64.wrap n := fun n => by rw [IntKind.wrap_i64]; simp only [wrap64]; try omega
 have HW := hid hw
 clear hw
 cases bad with
 | true =>
  go_wp2_with fail
  go_end0
  exact ⟨rfl, w2, HV.out.1, HV.out.2, by rw [HW.out, HW.out, Bool.true_or]⟩
 | false =>
  go_wp2_with fail
  go_end0
  exact ⟨rfl, w2, HV.out.1, HV.out.2, by rw [HW.out, HW.out, show decide (9223372036854775807 + (m : Int) < (X : Int)) = decide (9223372036854775807 + m < X) from decide_eq_decide.2 (by omega), Bool.false_or]⟩
theorem oP (rb : Nat) (l : List UInt8) (sv : Value) (s : Option (List UInt8)) (w : World) (h : VrS w rb l sv s) :
  Calls Tryz.prog 38 #[.pointer (some ⟨rb, 0, none⟩)] w fun r w' => ∃ k : Nat, r = .returned (.int .i64 (k : Nat)) ∧ k ≤ 1000000 ∧ (∀ x, s = some x → k = x.length) ∧ ∃ n, w' = w.drewN n := by
 obtain ⟨a, e, h, rfl⟩ := h
 have ha := h.2.2
 refine (yZ rb a e l sv w h).mono ?_
 rintro r w' ⟨rfl, n, rfl⟩
 refine ⟨l.length - a, by congr 2; omega, by omega, fun x hx => ?_, n, rfl⟩
 split at hx
 ·injection hx with hx; rw [← hx]; simp
 ·cases hx
def aG (s : Option (List UInt8)) : Nat × Bool := match (aB s).2 with
 | some r => if r.length < (aB s).1 then (0, true) else ((aB s).1, false)
 | none => (0, false)
def Aw (cb : Nat) (s : Option (List UInt8)) (w : World) : World := if (aG s).2 then w.setCell ⟨cb, 1, none⟩ (.bool true) else w
theorem uK {s : Option (List UInt8)} (h : (aB s).2 = none) : (aB s).1 = 0 := by
 unfold aB at h ⊢
 split at h
 ·rfl
 ·split at h
  ·cases h
  ·rename_i hg; simp [hg]
theorem zF (cb rb : Nat) (z : Int) (l : List UInt8) (sv : Value) (s : Option (List UInt8)) (bad : Bool) (w : World) (h : w.heap[cb]? = some (.cells #[.pointer (some ⟨rb, 0, none⟩), .bool bad] 84 (0, 0))) (hv : VrS w rb l sv s) (hcr : cb ≠ rb) :
  Calls Tryz.prog 174 #[.pointer (some ⟨cb, 0, none⟩), .int .i64 z] w fun e w' => e = .returned (.int .i64 ((aG s).1 : Nat)) ∧ ∃ w2, Rg rb w w2 ∧ VrS w2 rb l sv (aB s).2 ∧
   w' = Aw cb s w2 := by
 have c0 : w.cell? ⟨cb, 0, none⟩ = some (.pointer (some ⟨rb, 0, none⟩)) := by rw [cell_of_row w _ 0 _ _ _ h]; rfl
 have c1 : w.cell? ⟨cb, 1, none⟩ = some (.bool bad) := by rw [cell_of_row w _ 1 _ _ _ h]; rfl
 have c1f : w.frozen? ⟨cb, 1, none⟩ = false := by rw [frozen_of_row w _ 1 _ _ h]
 have hcl := (Array.getElem?_eq_some_iff.1 h).1
 have HN := hid (jc rb l sv s w hv)
 have hxl := mY s
 obtain ⟨X, hX⟩ : ∃ X, X = (aB s).1 := ⟨_, rfl⟩
 rw [← hX] at HN hxl
 have HX := hid hX
 clear h hv hX
 go_enter Tryz.func174, Tryz.ntmps174
 go_wp2_with fail
 refine HN.out.mono ?_
 rintro e w2 ⟨rfl, hv2, hg⟩
 have b0 := (hg.cellOf hcl hcr 0).trans c0
 have b1 := (hg.cellOf hcl hcr 1).trans c1
 have bf1 := (hg.frozenOf hcl hcr 1).trans c1f
 have HL := hid (oP rb l sv _ w2 hv2)
 have HV := hid (And.intro hg hv2)
 clear hg hv2 c0 c1 c1f
 go_wp2_with fail
 refine HL.out.mono ?_
 rintro e w3 ⟨k, rfl, hk, hkx, nq, rfl⟩
 have HKX := hid hkx
 have HD : Hid (Rg rb w (w2.drewN nq) ∧ VrS (w2.drewN nq) rb l sv (aB s).2) := hid ⟨HV.out.1.trans (Rg.of_below (below_drewN br nq)), HV.out.2.keep (fun _ _ => rfl)⟩
 have d1 : (w2.drewN nq).cell? ⟨cb, 1, none⟩ = some (.bool bad) := b1
 have df1 : (w2.drewN nq).frozen? ⟨cb, 1, none⟩ = false := bf1
 have e1 : IntKind.u64.wrap (k : Int) = (k : Int) := by rw [IntKind.wrap_u64]; omega
 clear hkx b0 b1 bf1
 generalize w2.drewN nq = w4 at HD d1 df1 ⊢
 by_cases hlt : k < X
 ·have hm : aG s = (0, true) := by
   unfold aG
   cases h : (aB s).2 with
   | none => have := uK h; have := HX.out; omega
   | some r => have := HKX.out r h; have := HX.out; simp only; rw [if_pos (by omega)]
  have HM := hid hm
  clear hm
  go_wp2_with fail
  go_ret
  exact ⟨by rw [HM.out]; rfl, w4, HD.out.1, HD.out.2, by unfold Aw; rw [HM.out]; rfl⟩
 ·have hm : aG s = (X, false) := by
   unfold aG
   cases h : (aB s).2 with
   | none => have := uK h; have := HX.out; simp only; rw [show X = 0 from by omega]
   | some r => have := HKX.out r h; have := HX.out; simp only; rw [if_neg (by omega), ← HX.out]
  have HM := hid hm
  have e2 : IntKind.i64.wrap (X : Int) = (X : Int) := by rw [IntKind.wrap_i64]; omega
  clear hm
  go_wp2_with fail
  go_ret
  exact ⟨by rw [HM.out]; rfl, w4, HD.out.1, HD.out.2, by unfold Aw; rw [HM.out]; rfl⟩
end Go.Proofs.YtagnalfkmdjajaaGreatDoor
