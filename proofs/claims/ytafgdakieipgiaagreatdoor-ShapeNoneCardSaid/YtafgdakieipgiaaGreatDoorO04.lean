/- A predicate that comes in as an argument: its tree. -/
import Derived.Test.YtafgdakieipgiaaGreatDoorLib
import Derived.Test.YtafgdakieipgiaaGreatDoorChecked
import Derived.Deep.Slices
import Derived.DataReads
import Derived.ProofKit
namespace Go.Proofs.YtafgdakieipgiaaGreatDoor
open Go.RowKit Go Go.Deep
set_option linter.unusedVariables false
set_option linter.unusedSimpArgs false
theorem pTP : Tryz.prog.cellsOf 27 = 4 := by kernel_rfl
theorem cInt : Tryz.prog.cellsOf 3 = 1 := by kernel_rfl
theorem cU64 : Tryz.prog.cellsOf 22 = 1 := by kernel_rfl
theorem cSl : Tryz.prog.cellsOf 25 = 1 := by kernel_rfl
theorem exFields : ∃ fs : Array Field, Tryz.prog.underlying 27 = some (.struct fs) ∧ fs.toList.map (fun f => (f.type, f.offset)) = [(3, 0), (22, 1), (22, 2), (25, 3)] := ⟨_, Tryz.underlying27, rfl⟩

/-- The cells of all elements, one after the other. -/
def flat (f : Nat → List Value) : Nat → List Value
  | 0 => []
  | n + 1 => flat f n ++ f n
theorem flat_length (f : Nat → List Value) (k n : Nat) (h : ∀ i, i < n → (f i).length = k) : (flat f n).length = n * k := by
  induction n with
  | zero => simp [flat]
  | succ n ih => rw [flat, List.length_append, ih (fun i hi => h i (by omega)), h n (by omega), Nat.succ_mul]
theorem flat_get (f : Nat → List Value) (k n : Nat) (h : ∀ i, i < n → (f i).length = k) (hk : 0 < k) : ∀ j, j < n * k → (flat f n)[j]? = (f (j / k))[j % k]? := by
  induction n with
  | zero => intro j hj; simp at hj
  | succ n ih =>
    intro j hj
    have hl := flat_length f k n (fun i hi => h i (by omega))
    rw [flat]
    by_cases hlt : j < n * k
    · rw [List.getElem?_append_left (by omega)]; exact ih (fun i hi => h i (by omega)) j hlt
    · rw [List.getElem?_append_right (by omega), hl]
      rw [Nat.succ_mul] at hj
      have e : j = (j - n * k) + k * n := by rw [Nat.mul_comm k n]; omega
      have h1 : j / k = n := by
        rw [e, Nat.add_mul_div_left _ _ hk, Nat.div_eq_of_lt (by omega)]; omega
      have h2 : j % k = j - n * k := by
        rw [e, Nat.add_mul_mod_self_left, Nat.mod_eq_of_lt (by omega), ← e]
      rw [h1, h2]
theorem reps_flat {w : World} {S : Nat → Prop} {own : Bool} (g : Nat → Ex) (f : Nat → List Value) : ∀ n, (∀ i, i < n → RepE w S own (g i) (.agg (f i).toArray) ∧ (f i).length = 4) → RepEs w S own ((List.range n).map g) (flat f n)
  | 0, _ => by simp [flat, RepEs]
  | n + 1, h => by
    rw [List.range_succ, List.map_append, flat]
    refine RepEs.append (reps_flat g f n (fun i hi => h i (by omega))) ?_
    obtain ⟨h1, h2⟩ := h n (by omega)
    match hf : f n, h2 with
    | [a, b, c, d], _ =>
      rw [hf] at h1
      exact RepEs.one h1

set_option maxRecDepth 100000 in
theorem rep_of_trod {H : Type} {enc : TypeId × Value → H} {w : World} {sp : Nat → Bool} {held : Bool} : ∀ (fuel : Nat) (cs : List Value) (x : DataW H × List MemPlace), DataW.trod enc Tryz.prog w 0 sp held fuel 27 cs = some x → ∃ e, RepE w (fun _ => True) false e (.agg cs.toArray) := by
  intro fuel
  induction fuel using Nat.strongRecOn with
  | _ fuel ih =>
    intro cs x h
    obtain ⟨fs, hu, hf⟩ := exFields
    obtain ⟨xs, n, rfl, rfl, hl, hxl, hall⟩ := DataW.trod_struct hu h
    rw [pTP] at hl
    have hfl : fs.size = 4 := by have := congrArg List.length hf; simpa using this
    have hfi : ∀ i (hi : i < 4), ∃ f, fs[i]? = some f ∧ (f.type, f.offset) = [(3, 0), (22, 1), (22, 2), (25, 3)][i] := by
      intro i hi
      have hi' : i < fs.size := by omega
      refine ⟨fs[i], by simp [hi'], ?_⟩
      have := List.getElem_of_eq hf (i := i) (by simpa using hi')
      simpa using this
    match cs, hl with
    | [c0, c1, c2, c3], _ =>
      obtain ⟨f0, e0, t0⟩ := hfi 0 (by omega)
      obtain ⟨f1, e1, t1⟩ := hfi 1 (by omega)
      obtain ⟨f2, e2, t2⟩ := hfi 2 (by omega)
      obtain ⟨f3, e3, t3⟩ := hfi 3 (by omega)
      simp only [List.getElem_cons_zero, List.getElem_cons_succ, Prod.mk.injEq] at t0 t1 t2 t3
      have a0 := hall 0 f0 e0
      have a1 := hall 1 f1 e1
      have a2 := hall 2 f2 e2
      have a3 := hall 3 f3 e3
      rw [t0.1, t0.2, cInt] at a0
      rw [t1.1, t1.2, cU64] at a1
      rw [t2.1, t2.2, cU64] at a2
      rw [t3.1, t3.2, cSl] at a3
      have hx : ∀ i, i < 4 → ∃ y, xs[i]? = some y := fun i hi => ⟨xs[i]'(by omega), List.getElem?_eq_getElem (by omega)⟩
      obtain ⟨y0, hy0⟩ := hx 0 (by omega)
      obtain ⟨y1, hy1⟩ := hx 1 (by omega)
      obtain ⟨y2, hy2⟩ := hx 2 (by omega)
      obtain ⟨y3, hy3⟩ := hx 3 (by omega)
      rw [hy0] at a0
      rw [hy1] at a1
      rw [hy2] at a2
      rw [hy3] at a3
      simp only [List.drop_zero, List.drop_succ_cons, List.take_succ_cons, List.take_zero] at a0 a1 a2 a3
      obtain ⟨k, q0, _, w0⟩ := DataW.trod_int Tryz.underlying3 a0
      obtain ⟨a, q1, _, w1⟩ := DataW.trod_int Tryz.underlying22 a1
      obtain ⟨b, q2, _, w2⟩ := DataW.trod_int Tryz.underlying22 a2
      simp only [List.cons.injEq, and_true] at q0 q1 q2
      subst q0 q1 q2
      have hk : -9223372036854775808 ≤ k ∧ k ≤ 9223372036854775807 := by simpa [Lit.wf, IntKind.min, IntKind.max, IntKind.signed, IntKind.bits] using w0
      have ha : 0 ≤ a ∧ a ≤ 18446744073709551615 := by simpa [Lit.wf, IntKind.min, IntKind.max, IntKind.signed, IntKind.bits] using w1
      have hb : 0 ≤ b ∧ b ≤ 18446744073709551615 := by simpa [Lit.wf, IntKind.min, IntKind.max, IntKind.signed, IntKind.bits] using w2
      obtain ⟨an, rfl⟩ := Int.eq_ofNat_of_zero_le ha.1
      obtain ⟨bn, rfl⟩ := Int.eq_ofNat_of_zero_le hb.1
      rcases DataW.trod_slice Tryz.underlying25 a3 with ⟨hc, _⟩ | ⟨ad, len, cap, elems, rest, m, hm, hc, _, _, hlc, hcap, hlen, hel, _, _⟩
      · simp only [List.cons.injEq, and_true] at hc
        subst hc
        refine ⟨.mk k an bn [], ?_⟩
        simp only [RepE]
        exact ⟨_, [], rfl, hk.1, hk.2, by omega, by omega, Sl.nil _ _ _ _, by simp [RepEs]⟩
      · simp only [List.cons.injEq, and_true] at hc
        subst hc
        rw [pTP] at hel
        have hone : ∀ i, i < len → ∃ y : Ex × List Value, w.cells? 0 (ad.add (i * 4)) 4 = some y.2 ∧ RepE w (fun _ => True) false y.1 (.agg y.2.toArray) := by
          intro i hi
          have h1 := hel i hi
          rw [List.getElem?_eq_getElem (by omega)] at h1
          obtain ⟨cs', h2, h3⟩ := Option.bind_eq_some_iff.1 h1
          obtain ⟨e, he⟩ := ih m (by omega) cs' _ h3
          exact ⟨(e, cs'), h2, he⟩
        haveI : Inhabited (Ex × List Value) := ⟨(.mk 0 0 0 [], [])⟩
        obtain ⟨F, hF⟩ := choose_lt hone
        have hFl : ∀ i, i < len → (F i).2.length = 4 := fun i hi => (World.cells?_some (hF i hi).1).2.1
        have hre := reps_flat (w := w) (S := fun _ => True) (own := false) (fun i => (F i).1) (fun i => (F i).2) len (fun i hi => ⟨(hF i hi).2, hFl i hi⟩)
        have hfl2 := flat_length (fun i => (F i).2) 4 len hFl
        refine ⟨.mk k an bn ((List.range len).map fun i => (F i).1), ?_⟩
        simp only [RepE]
        refine ⟨.slice (some ad) len cap, flat (fun i => (F i).2) len, rfl, hk.1, hk.2, by omega, by omega, ⟨by simpa using hfl2, by simp; unfold maxLen at hcap; omega, some ad, cap, by simp, by simpa using hlc, fun hn => ?_⟩, hre⟩
        have hn' : 0 < len := by simpa using hn
        obtain ⟨bl, off, sp'⟩ := ad
        have hsp : sp' = none := by
          obtain ⟨_, h2, h3⟩ := World.cells?_some (hF 0 hn').1
          have h4 := h3 0 (by omega)
          obtain ⟨v, hv⟩ : ∃ v, (F 0).2[0]? = some v := ⟨(F 0).2[0]'(by omega), List.getElem?_eq_getElem (by omega)⟩
          rw [hv] at h4
          exact World.cell?_spot (a := ⟨bl, off, sp'⟩) (by simpa [Addr.add] using h4)
        subst hsp
        have hcell : ∀ i, i < len → ∀ o, o < 4 → w.cell? ⟨bl, off + (i * 4 + o), none⟩ = (F i).2[o]? := by
          intro i hi o ho
          obtain ⟨_, h2, h3⟩ := World.cells?_some (hF i hi).1
          rw [← h3 o ho, Go.Deep.add_add]
          unfold Addr.add
          split
          · rename_i h0; rw [h0]; rfl
          · rfl
        refine ⟨bl, off, rfl, trivial, fun j hj => ⟨?_, fun h => by cases h⟩⟩
        have hj4 : j < len * 4 := by rw [← hfl2]; exact hj
        have h1 := flat_get (fun i => (F i).2) 4 len hFl (by omega) j hj4
        have h2 := (hcell (j / 4) (by omega) (j % 4) (by omega))
        rw [show j / 4 * 4 + j % 4 = j from by omega] at h2
        rw [h2, ← h1, List.getElem?_eq_getElem hj]
end Go.Proofs.YtafgdakieipgiaaGreatDoor
