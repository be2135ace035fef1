/- A region's operations, in whatever order the draw takes them, do what they do in the order of the text, if what they read and write is apart. Plain lemmas. -/
import Derived.Test.YtmhiblmgadmgcaaDoorU12
import Derived.OrdersIn
import Derived.RangeFuncRecord
namespace Go.Ev
open Go
set_option linter.unusedVariables false
set_option linter.unusedSimpArgs false
set_option linter.unusedSectionVars false
variable [Env]
/-! The rule by an invariant. -/
theorem mem_ready {md : Region.Mode} {ops : Array Oper} {listed : Array Bool} {i : Nat} (h : i ∈ Region.ready md ops listed) :
    i < ops.size ∧ listed.getD i true = false ∧ ∀ o, ops[i]? = some o → ∀ e ∈ o.after, Region.binds md e = true → listed.getD e.on false = true := by
  unfold Region.ready at h
  simp only [List.mem_filter, List.mem_range, Bool.and_eq_true, Bool.not_eq_true'] at h
  obtain ⟨h1, h2, h3⟩ := h
  refine ⟨h1, h2, fun o ho e he hb => ?_⟩
  rw [ho] at h3
  simp only [Option.map_some, Option.getD_some, Array.all_eq_true', Bool.or_eq_true, Bool.not_eq_true'] at h3
  rcases h3 e he with h | h
  · rw [hb] at h; cases h
  · exact h
theorem ready_mem {md : Region.Mode} {ops : Array Oper} {listed : Array Bool} {i : Nat} (h1 : i < ops.size) (h2 : listed.getD i true = false)
    (h3 : ∀ o, ops[i]? = some o → ∀ e ∈ o.after, Region.binds md e = true → listed.getD e.on false = true) : i ∈ Region.ready md ops listed := by
  unfold Region.ready
  simp only [List.mem_filter, List.mem_range, Bool.and_eq_true, Bool.not_eq_true']
  refine ⟨h1, h2, ?_⟩
  have ho : ops[i]? = some ops[i] := Array.getElem?_eq_getElem h1
  rw [ho]
  simp only [Option.map_some, Option.getD_some, Array.all_eq_true', Bool.or_eq_true, Bool.not_eq_true']
  intro e he
  cases hb : Region.binds md e with
  | false => exact Or.inl rfl
  | true => exact Or.inr (h3 _ ho e he hb)
theorem all_listed {md : Region.Mode} {ops : Array Oper} {listed : Array Bool} (hs : listed.size = ops.size) (hdag : ∀ i o, ops[i]? = some o → ∀ e ∈ o.after, Region.binds md e = true → e.on < i)
    (hr : Region.ready md ops listed = []) : ∀ i, i < ops.size → listed.getD i false = true := by
  intro i
  induction i using Nat.strongRecOn with
  | _ i ih =>
    intro hi
    cases h : listed.getD i true with
    | true =>
      rw [Array.getD_eq_getD_getElem?, Array.getElem?_eq_getElem (by omega)] at h ⊢
      simpa using h
    | false =>
      have hm : i ∈ Region.ready md ops listed := ready_mem hi h (fun o ho e he hb => by
        have hlt := hdag i o ho e he hb
        exact ih _ hlt (by omega))
      rw [hr] at hm; cases hm
def unl (listed : Array Bool) (n : Nat) : Nat := ((List.range n).filter fun j => !listed.getD j true).length
theorem unl_set {listed : Array Bool} {n i : Nat} (hs : listed.size = n) (hi : i < n) (h : listed.getD i true = false) : unl (listed.setIfInBounds i true) n < unl listed n := by
  unfold unl
  have hsub : ((List.range n).filter fun j => !(listed.setIfInBounds i true).getD j true) = ((List.range n).filter fun j => !listed.getD j true).filter (fun j => j != i) := by
    rw [List.filter_filter]
    apply List.filter_congr
    intro j hj
    by_cases hji : j = i
    · subst hji
      rw [Array.getD_eq_getD_getElem?, Array.getElem?_setIfInBounds_self_of_lt (by omega)]
      simp
    · rw [Array.getD_eq_getD_getElem?, Array.getElem?_setIfInBounds_ne (fun e => hji e.symm), ← Array.getD_eq_getD_getElem?]
      simp [hji]
  rw [hsub]
  have hm : i ∈ (List.range n).filter fun j => !listed.getD j true := by
    simp only [List.mem_filter, List.mem_range, Bool.not_eq_true']
    exact ⟨hi, h⟩
  exact List.length_filter_lt_length_iff_exists.2 ⟨i, hm, by simp⟩
theorem wpAny_inv {F : Fence} {P : Program} {md : Region.Mode} {ops : Array Oper} {Q : Exit → Act → World → Prop} (Inv : (Nat → Bool) → Act → World → Prop)
    (hstep : ∀ (l : Nat → Bool) (a : Act) (w : World) (i : Nat), Inv l a w → i < ops.size → l i = false → (∀ o, ops[i]? = some o → ∀ e ∈ o.after, Region.binds md e = true → l e.on = true) → wpOpIn F 0 P ops Q i (fun a' w' => Inv (fun j => j == i || l j) a' w') a w)
    (hdone : ∀ (l : Nat → Bool) (a : Act) (w : World), (∀ i, i < ops.size → l i = true) → Inv l a w → Q .normal a w)
    (hdag : ∀ i o, ops[i]? = some o → ∀ e ∈ o.after, Region.binds md e = true → e.on < i) :
    ∀ (fuel : Nat) (listed : Array Bool) (a : Act) (w : World), listed.size = ops.size → unl listed ops.size ≤ fuel → Inv (fun j => listed.getD j false) a w → wpAnyIn F 0 P md ops Q fuel listed a w := by
  intro fuel
  induction fuel with
  | zero =>
    intro listed a w hs hf hinv
    have hr : Region.ready md ops listed = [] := by
      cases h : Region.ready md ops listed with
      | nil => rfl
      | cons i t =>
        have hm := mem_ready (md := md) (ops := ops) (listed := listed) (i := i) (by rw [h]; simp)
        have := unl_set hs hm.1 hm.2.1
        omega
    exact ⟨hr, hdone _ a w (all_listed hs hdag hr) hinv⟩
  | succ fuel ih =>
    intro listed a w hs hf hinv
    refine ⟨fun hr => hdone _ a w (all_listed hs hdag hr) hinv, fun i hi => ?_⟩
    obtain ⟨h1, h2, h3⟩ := mem_ready hi
    have h2' : listed.getD i false = false := by
      rw [Array.getD_eq_getD_getElem?, Array.getElem?_eq_getElem (by omega)] at h2 ⊢
      simpa using h2
    refine wpOpIn_mono (fun a' w' h => ih (listed.setIfInBounds i true) a' w' (by simpa using hs) (by have := unl_set hs h1 h2; omega) ?_) (hstep _ a w i hinv h1 h2' h3)
    have he : (fun j => (listed.setIfInBounds i true).getD j false) = fun j => j == i || listed.getD j false := by
      funext j
      by_cases hji : j = i
      · subst hji
        rw [Array.getD_eq_getD_getElem?, Array.getElem?_setIfInBounds_self_of_lt (by omega)]
        simp
      · rw [Array.getD_eq_getD_getElem?, Array.getElem?_setIfInBounds_ne (fun e => hji e.symm), ← Array.getD_eq_getD_getElem?]
        simp [hji]
    rw [he]
    exact h
theorem wp_region_inv {F : Fence} {P : Program} {id : Nat} {ops : Array Oper} {Q : Exit → Act → World → Prop} {a : Act} {w : World} (hm : P.follows .mixedOrders = true) (Inv : (Nat → Bool) → Act → World → Prop)
    (hdag : ∀ i o, ops[i]? = some o → ∀ e ∈ o.after, Region.binds .any e = true → e.on < i)
    (h0 : Inv (fun _ => false) a { w with drawn := w.drawn + 1 })
    (hstep : ∀ (l : Nat → Bool) (a : Act) (w : World) (i : Nat), Inv l a w → i < ops.size → l i = false → (∀ o, ops[i]? = some o → ∀ e ∈ o.after, Region.binds .any e = true → l e.on = true) → wpOpIn F 0 P ops Q i (fun a' w' => Inv (fun j => j == i || l j) a' w') a w)
    (hdone : ∀ (l : Nat → Bool) (a : Act) (w : World), (∀ i, i < ops.size → l i = true) → Inv l a w → Q .normal a w) : (Code.region id ops true).wpIn F 0 P Q a w := by
  refine wpIn_region_any hm (wpAny_inv Inv hstep hdone hdag ops.size _ a _ (by simp) ?_ ?_)
  · unfold unl
    exact Nat.le_trans (List.length_filter_le _ _) (by simp)
  · have he : (fun j => (Array.replicate ops.size false).getD j false) = fun _ => false := by
      funext j
      rw [Array.getD_eq_getD_getElem?, Array.getElem?_replicate]
      split <;> rfl
    rw [he]; exact h0
/-! What the evaluator did, operation by operation. -/
section
variable {P : Program} {eo : Eo} {call : Cs} {N : Nat} {ops : Array Oper}
def evStep (eo : Eo) (call : Cs) (s : St) (o : Oper) : Option Ou := opRs call s (eo s.T s.H s.nx o.op)
/-- One operation's step: it was passed over, or ran. -/
structure One (eo : Eo) (call : Cs) (N : Nat) (ops : Array Oper) (o : Oper) (s s1 : St) (u : Ou) : Prop where
  run : (evGuard s.T ops o.guard = some false ∧ u = ⟨.un, s.H, s.nx, 0, 0⟩) ∨ (evGuard s.T ops o.guard = some true ∧ evStep eo call s o = some u)
  T : putT N s.T o.dst u.v = some s1.T
  H : s1.H = u.H
  nx : s1.nx = u.nx
  R : s1.R = s.R ||| u.R
  W : s1.W = s.W ||| u.W
def infOf (i : Nat) (s : St) (u : Ou) : Inf := ⟨i, u.R, u.W, s.nx, u.nx⟩
theorem evOps_cons (o : Oper) (os : List Oper) (i : Nat) (s : St) (l : List Inf) : evOps eo call N ops (o :: os) i s l = opStep eo call N ops o (evOps eo call N ops os) i s l := rfl
theorem evOps_trace : ∀ (os : List Oper) (i : Nat) (s : St) (l : List Inf) (s' : St) (l' : List Inf), evOps eo call N ops os i s l = some (s', l') →
    ∃ (st : Nat → St) (us : Nat → Ou), st i = s ∧ st (i + os.length) = s' ∧ (∀ k o, os[k]? = some o → One eo call N ops o (st (i + k)) (st (i + k + 1)) (us (i + k))) ∧
      l' = ((List.range' i os.length).map fun k => infOf k (st k) (us k)).reverse ++ l
  | [], i, s, l, s', l', h => by
    have h : some (s, l) = some (s', l') := h
    cases h
    exact ⟨fun _ => s, fun _ => ⟨.un, s.H, s.nx, 0, 0⟩, rfl, rfl, fun k o hk => by simp at hk, by simp⟩
  | o :: os, i, s, l, s', l', h => by
    have fin : ∀ (s1 : St) (u : Ou), One eo call N ops o s s1 u → evOps eo call N ops os (i + 1) s1 (infOf i s u :: l) = some (s', l') →
        ∃ (st : Nat → St) (us : Nat → Ou), st i = s ∧ st (i + (o :: os).length) = s' ∧ (∀ k o', (o :: os)[k]? = some o' → One eo call N ops o' (st (i + k)) (st (i + k + 1)) (us (i + k))) ∧
          l' = ((List.range' i (o :: os).length).map fun k => infOf k (st k) (us k)).reverse ++ l := by
      intro s1 u h1 h2
      obtain ⟨st, us, g1, g2, g3, g4⟩ := evOps_trace os (i + 1) s1 _ s' l' h2
      refine ⟨fun k => if k = i then s else st k, fun k => if k = i then u else us k, by simp, ?_, fun k o' hk => ?_, ?_⟩
      · dsimp only
        rw [if_neg (by simp)]
        rw [← g2]; congr 1; simp; omega
      · cases k with
        | zero =>
          simp at hk; subst hk
          simp only [Nat.add_zero, if_pos]
          rw [if_neg (by omega), g1]; exact h1
        | succ k =>
          have := g3 k o' (by simpa using hk)
          dsimp only
          rw [if_neg (by omega), if_neg (by omega), if_neg (by omega)]
          rw [show i + (k + 1) = i + 1 + k by omega]; exact this
      · rw [g4]
        simp only [List.length_cons, List.range'_succ, List.map_cons, List.reverse_cons, if_pos, List.append_assoc, List.singleton_append]
        congr 1
        congr 1
        apply List.map_congr_left
        intro k hk
        have : i + 1 ≤ k := (List.mem_range'_1.1 hk).1
        rw [if_neg (by omega), if_neg (by omega)]
    rw [evOps_cons] at h
    unfold opStep at h
    split at h
    · rename_i g hg
      cases g with
      | false =>
        simp only [opNext] at h
        split at h
        · rename_i T hT
          exact fin ⟨T, s.H, s.nx, s.R ||| 0, s.W ||| 0⟩ ⟨.un, s.H, s.nx, 0, 0⟩ ⟨.inl ⟨hg, rfl⟩, hT, rfl, rfl, rfl, rfl⟩ h
        · cases h
      | true =>
        simp only [] at h
        unfold opNext at h
        split at h
        · rename_i u hu
          split at h
          · rename_i T hT
            exact fin ⟨T, u.H, u.nx, s.R ||| u.R, s.W ||| u.W⟩ u ⟨.inr ⟨hg, hu⟩, hT, rfl, rfl, rfl, rfl⟩ h
          · cases h
        · cases h
    · cases h
end
end Go.Ev
