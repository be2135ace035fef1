/- Walks: IndexFunc, ContainsFunc over parts; which trees are right (the program's). -/
import Derived.Test.YtohjkejdkhdjbaaGreatDoorQW04c
namespace Go.Proofs.YtohjkejdkhdjbaaGreatDoor
open Go.RowKit Go
set_option linter.unusedVariables false
set_option linter.unusedSimpArgs false
/-- A function value asks p of each part, in every later world. -/
def AsksAt (w : World) (S : Nat → Prop) (own : Bool) (es : List Ex) (fid : Nat) (caps : Array Value) (p : Ex → Bool) : Prop :=
  ∀ i (h : i < es.length) (v : Value) (w' : World), Below w.heap.size w w' → RepE w' S own es[i] v → Calls Tryz.prog fid (#[v] ++ caps) w' fun e w'' => e = .returned (.bool (p es[i])) ∧ Below w'.heap.size w' w''
def Enters (fid : Nat) : Prop := ∀ (args : Array Value) (w : World), (callFunc fid args).run Tryz.prog w = .ok (.enter fid args) w
theorem any_take_false {α : Type} (p : α → Bool) (l : List α) (k : Nat) (h : k < l.length) (h0 : (l.take k).any p = false) (h1 : p l[k] = false) : (l.take (k + 1)).any p = false := by
  rw [take_snoc l k h, List.any_append, h0]; simp [h1]
theorem any_get_true {α : Type} (p : α → Bool) (l : List α) (k : Nat) (h : k < l.length) (h1 : p l[k] = true) : l.any p = true :=
  List.any_eq_true.2 ⟨l[k], List.getElem_mem h, h1⟩
set_option maxRecDepth 20000 in
theorem idxFunc_any (S : Nat → Prop) (own : Bool) (es : List Ex) (xs : List Value) (ad : Option Addr) (cap : Nat) (fid : Nat) (caps : Array Value) (p : Ex → Bool) (w : World)
    (hs : Sl w S own 4 es.length xs (.slice ad es.length cap)) (hes : RepEs w S own es xs) (hcall : Enters fid) (hf : AsksAt w S own es fid caps p) :
    Calls Tryz.prog 84 #[.slice ad es.length cap, .func (.func fid) #[] caps] w fun e w' => (∃ r : Int, e = .returned (.int .i64 r) ∧ -1 ≤ r ∧ r ≤ 9223372036854775807 ∧ decide (0 ≤ r) = es.any p) ∧ Below w.heap.size w w' := by
  have hlen := hs.2.1
  have HF := Lib.hid hf
  clear hf
  unfold Enters at hcall
  go_enter Tryz.func84, Tryz.ntmps84
  go_wp2_with fail
  go_loopw [5, 8] (fun _ i wr => ∃ j : Nat, j ≤ es.length ∧ i = .int .i64 j ∧ Hid ((es.take j).any p = false) ∧ Below w.heap.size w wr) (fun _ i _ => es.length - (intOf i).toNat)
  case atStart => exact ⟨0, by omega, rfl, Lib.hid (by simp), Below.refl _ _⟩
  case round =>
    obtain ⟨j, hj, rfl, hno, hbel⟩ := hrel
    by_cases hlt : j < es.length
    · obtain ⟨bl, off, k', a', b', ad', n', cap', rfl, _, g0, g1, g2, g3, _, ge⟩ := (hes.below hbel (Nat.le_refl _)).part (hs.below (by omega) hbel (Nat.le_refl _)) j hlt
      go_wp2_with fail
      refine (HF.out j hlt _ wr hbel ge).mono ?_
      rintro e w' ⟨rfl, hb1⟩
      have hsz := hbel.size
      by_cases hp : p es[j] = true
      · rw [hp]
        have HP := Lib.hid (any_get_true p es j hlt hp)
        clear hp
        go_wp2_with fail
        go_ret
        exact ⟨⟨j, rfl, by omega, by omega, by rw [HP.out]; simp⟩, hbel.trans (hb1.mono (by omega))⟩
      · have hp' : p es[j] = false := by simpa using hp
        rw [hp']
        have HP := Lib.hid (any_take_false p es j hlt hno.out hp')
        clear hp hp'
        go_wp2_with fail
        go_roundw
        case rel => exact ⟨j + 1, by omega, by go_num, HP, hbel.trans (hb1.mono (by omega))⟩
        case measure => simp [intOf]; omega
    · have hj2 : j = es.length := by omega
      subst hj2
      go_wp2_with fail
      go_ret
      exact ⟨⟨-1, rfl, by omega, by omega, by have := hno.out; rw [List.take_length] at this; rw [this]; rfl⟩, hbel⟩
theorem conFunc_any (S : Nat → Prop) (own : Bool) (es : List Ex) (xs : List Value) (ad : Option Addr) (cap : Nat) (fid : Nat) (caps : Array Value) (p : Ex → Bool) (w : World)
    (hs : Sl w S own 4 es.length xs (.slice ad es.length cap)) (hes : RepEs w S own es xs) (hcall : Enters fid) (hf : AsksAt w S own es fid caps p) :
    Calls Tryz.prog 69 #[.slice ad es.length cap, .func (.func fid) #[] caps] w fun e w' => e = .returned (.bool (es.any p)) ∧ Below w.heap.size w w' := by
  have HI := Lib.hid (idxFunc_any S own es xs ad cap fid caps p w hs hes hcall hf)
  clear hf hcall hs hes
  go_enter Tryz.func69, Tryz.ntmps69
  go_wp2_with fail
  refine HI.out.mono ?_
  rintro e w' ⟨⟨r, rfl, h0, h1, hr⟩, hb⟩
  have HR := Lib.hid hr
  clear hr
  go_wp2_with fail
  go_ret
  exact ⟨ret_bool HR.out, hb⟩
theorem enters_nodes : Enters 70 := fun _ _ => by kernel_rfl
/-- What the program's 'nodes' says of a node, with its kind's row of the table. -/
theorem nodeOkP_in (k : Nat) (a b n : Nat) (h : 1 ≤ k ∧ k ≤ 7) : nodeOkP k a b n =
    !(decide ((n : Int) < kindLeast k) || decide (kindMost k < (n : Int)) || decide (kindNums k < 2) && decide (0 < b) || decide (kindNums k < 1) && decide (0 < a) || (kindNums k == 2) && decide (a ≤ b)) := by
  have hc : k = 1 ∨ k = 2 ∨ k = 3 ∨ k = 4 ∨ k = 5 ∨ k = 6 ∨ k = 7 := by omega
  rw [Bool.eq_iff_iff]
  rcases hc with rfl | rfl | rfl | rfl | rfl | rfl | rfl
  all_goals (simp [nodeOkP, nodeOk, kindLeast, kindMost, kindNums]; try omega)
end Go.Proofs.YtohjkejdkhdjbaaGreatDoor
