/- Predicate trees as plain data: depth, nodes, which are right, what they ask. No program in sight. -/
import Derived.Test.YtafgdakieipgiaaGreatDoorLib
namespace Go.Proofs.YtafgdakieipgiaaGreatDoor
open Go.RowKit Go
set_option linter.unusedVariables false
set_option linter.unusedSimpArgs false

mutual
def Ex.depth : Ex → Nat
  | .mk _ _ _ ps => Ex.depths ps + 1
def Ex.depths : List Ex → Nat
  | [] => 0
  | e :: es => max e.depth (Ex.depths es)
end
mutual
def Ex.size : Ex → Nat
  | .mk _ _ _ ps => Ex.sizes ps + 1
def Ex.sizes : List Ex → Nat
  | [] => 0
  | e :: es => e.size + Ex.sizes es
end

theorem take_snoc {α : Type} (l : List α) (k : Nat) (h : k < l.length) : l.take (k + 1) = l.take k ++ [l[k]] := List.take_succ_eq_append_getElem h
theorem Ex.depths_append (a b : List Ex) : Ex.depths (a ++ b) = max (Ex.depths a) (Ex.depths b) := by
  induction a with
  | nil => simp [Ex.depths]
  | cons e es ih => simp only [List.cons_append, Ex.depths, ih]; omega
theorem Ex.sizes_append (a b : List Ex) : Ex.sizes (a ++ b) = Ex.sizes a + Ex.sizes b := by
  induction a with
  | nil => simp [Ex.sizes]
  | cons e es ih => simp only [List.cons_append, Ex.sizes, ih]; omega
theorem Ex.depths_take (ps : List Ex) (k : Nat) (h : k < ps.length) : Ex.depths (ps.take (k + 1)) = max (Ex.depths (ps.take k)) ps[k].depth := by
  rw [take_snoc ps k h, Ex.depths_append]; simp [Ex.depths]
theorem Ex.sizes_take (ps : List Ex) (k : Nat) (h : k < ps.length) : Ex.sizes (ps.take (k + 1)) = Ex.sizes (ps.take k) + ps[k].size := by
  rw [take_snoc ps k h, Ex.sizes_append]; simp [Ex.sizes]
theorem Ex.depths_ge (ps : List Ex) (k : Nat) (h : k < ps.length) : ps[k].depth ≤ Ex.depths ps := by
  have := Ex.depths_append (ps.take (k + 1)) (ps.drop (k + 1))
  rw [List.take_append_drop, Ex.depths_take ps k h] at this; omega
theorem Ex.sizes_split (ps : List Ex) (k : Nat) : Ex.sizes ps = Ex.sizes (ps.take k) + Ex.sizes (ps.drop k) := by
  have := Ex.sizes_append (ps.take k) (ps.drop k); rwa [List.take_append_drop] at this
theorem Ex.sizes_ge (ps : List Ex) (k : Nat) (h : k < ps.length) : Ex.sizes (ps.take k) + ps[k].size ≤ Ex.sizes ps := by
  have := Ex.sizes_split ps (k + 1); rw [Ex.sizes_take ps k h] at this; omega
theorem Ex.depths_take_le (ps : List Ex) (k : Nat) : Ex.depths (ps.take k) ≤ Ex.depths ps := by
  have := Ex.depths_append (ps.take k) (ps.drop k); rw [List.take_append_drop] at this; omega
theorem Ex.size_pos (e : Ex) : 0 < e.size := by cases e; simp [Ex.size]
theorem Ex.length_le_sizes (ps : List Ex) : ps.length ≤ Ex.sizes ps := by
  induction ps with
  | nil => simp
  | cons e es ih => have := Ex.size_pos e; simp only [Ex.sizes, List.length_cons]; omega
mutual
theorem Ex.depth_le_size : ∀ e : Ex, e.depth ≤ e.size
  | .mk k a b ps => by have := Ex.depths_le_sizes ps; simp only [Ex.depth, Ex.size]; omega
theorem Ex.depths_le_sizes : ∀ es : List Ex, Ex.depths es ≤ Ex.sizes es
  | [] => by simp [Ex.depths, Ex.sizes]
  | e :: es => by have := Ex.depth_le_size e; have := Ex.depths_le_sizes es; simp only [Ex.depths, Ex.sizes]; omega
end

/-! Which nodes are right -/
def nodeOk (k : Int) (a b n : Nat) : Bool :=
  if k = 1 then a == 0 && b == 0 && n == 0
  else if k = 2 ∨ k = 3 then b == 0 && n == 0
  else if k = 4 then decide (b < a) && n == 0
  else if k = 5 then a == 0 && b == 0 && n == 1
  else if k = 6 ∨ k = 7 then a == 0 && b == 0
  else false
/-- as the program asks it: at most 32 parts -/
def nodeOkP (k : Int) (a b n : Nat) : Bool := nodeOk k a b n && decide (n ≤ 32)
mutual
def Ex.okR : Ex → Bool
  | .mk k a b ps => Ex.okRs ps && nodeOk k a b ps.length
def Ex.okRs : List Ex → Bool
  | [] => true
  | e :: es => e.okR && Ex.okRs es
end
mutual
def Ex.okP : Ex → Bool
  | .mk k a b ps => nodeOkP k a b ps.length && Ex.okPs ps
def Ex.okPs : List Ex → Bool
  | [] => true
  | e :: es => e.okP && Ex.okPs es
end
def Ex.right (e : Ex) : Bool := e.okR && decide (e.depth ≤ 8) && decide (e.size ≤ 32)
mutual
theorem Ex.okP_eq : ∀ e : Ex, e.size ≤ 33 → e.okP = e.okR
  | .mk k a b ps, h => by
    simp only [Ex.size] at h
    have h1 := Ex.okPs_eq ps (by omega)
    have h2 := Ex.length_le_sizes ps
    simp only [Ex.okP, Ex.okR, h1, nodeOkP]
    rw [show decide (ps.length ≤ 32) = true from by simp; omega, Bool.and_true, Bool.and_comm]
theorem Ex.okPs_eq : ∀ es : List Ex, Ex.sizes es ≤ 33 → Ex.okPs es = Ex.okRs es
  | [], _ => rfl
  | e :: es, h => by
    simp only [Ex.sizes] at h
    simp only [Ex.okPs, Ex.okRs, Ex.okP_eq e (by omega), Ex.okPs_eq es (by omega)]
end
theorem Ex.rightP_eq (e : Ex) : (e.okP && decide (e.depth ≤ 8) && decide (e.size ≤ 32)) = e.right := by
  unfold Ex.right
  by_cases h : e.size ≤ 32
  · rw [Ex.okP_eq e (by omega)]
  · simp [h]
theorem Ex.okRs_append (a b : List Ex) : Ex.okRs (a ++ b) = (Ex.okRs a && Ex.okRs b) := by
  induction a with
  | nil => simp [Ex.okRs]
  | cons e es ih => simp only [List.cons_append, Ex.okRs, ih, Bool.and_assoc]
theorem Ex.okRs_take (ps : List Ex) (k : Nat) (h : k < ps.length) : Ex.okRs (ps.take (k + 1)) = (Ex.okRs (ps.take k) && ps[k].okR) := by
  rw [take_snoc ps k h, Ex.okRs_append]; simp [Ex.okRs]
theorem Ex.okRs_get (ps : List Ex) (k : Nat) (h : k < ps.length) (h0 : Ex.okRs ps = true) : ps[k].okR = true := by
  have := Ex.okRs_append (ps.take (k + 1)) (ps.drop (k + 1))
  rw [List.take_append_drop, Ex.okRs_take ps k h, h0] at this
  revert this; cases ps[k].okR <;> simp
theorem Ex.okRs_false (ps : List Ex) (k : Nat) (h : k < ps.length) (h0 : ps[k].okR = false) : Ex.okRs ps = false := by
  have := Ex.okRs_append (ps.take (k + 1)) (ps.drop (k + 1))
  rw [List.take_append_drop, Ex.okRs_take ps k h, h0] at this
  simpa using this
theorem Ex.okPs_iff (ps : List Ex) : Ex.okPs ps = ps.all Ex.okP := by
  induction ps with
  | nil => rfl
  | cons e es ih => simp [Ex.okPs, ih]

/-! What a right one asks -/
def askN (k : Int) (a b cnt n x v : Nat) : Bool :=
  if k = 1 then true
  else if k = 2 then decide (x ≤ a)
  else if k = 3 then decide (v ≤ a)
  else if k = 4 then v % a == b
  else if k = 5 then cnt == 0
  else if k = 6 then cnt == n
  else decide (0 < cnt)
mutual
def Ex.asks (x v : Nat) : Ex → Bool
  | .mk k a b ps => askN k a b (Ex.asked x v ps) ps.length x v
def Ex.asked (x v : Nat) : List Ex → Nat
  | [] => 0
  | e :: es => (if e.asks x v then 1 else 0) + Ex.asked x v es
end
theorem Ex.asked_append (x v : Nat) (a b : List Ex) : Ex.asked x v (a ++ b) = Ex.asked x v a + Ex.asked x v b := by
  induction a with
  | nil => simp [Ex.asked]
  | cons e es ih => simp only [List.cons_append, Ex.asked, ih]; omega
theorem Ex.asked_take (x v : Nat) (ps : List Ex) (k : Nat) (h : k < ps.length) : Ex.asked x v (ps.take (k + 1)) = Ex.asked x v (ps.take k) + if ps[k].asks x v then 1 else 0 := by
  rw [take_snoc ps k h, Ex.asked_append]; simp [Ex.asked]
theorem Ex.asked_le (x v : Nat) (ps : List Ex) : Ex.asked x v ps ≤ ps.length := by
  induction ps with
  | nil => simp [Ex.asked]
  | cons e es ih => simp only [Ex.asked, List.length_cons]; split <;> omega
theorem Ex.asked_all (x v : Nat) (ps : List Ex) : (Ex.asked x v ps == ps.length) = ps.all (Ex.asks x v) := by
  induction ps with
  | nil => rfl
  | cons e es ih =>
    have := Ex.asked_le x v es
    simp only [Ex.asked, List.length_cons, List.all_cons, ← ih]
    cases e.asks x v
    · simp only [Bool.false_and, beq_eq_false_iff_ne]; simp; omega
    · simp; rw [Bool.eq_iff_iff]; simp; omega
theorem Ex.asked_none (x v : Nat) (ps : List Ex) : (Ex.asked x v ps == 0) = !(ps.any (Ex.asks x v)) := by
  induction ps with
  | nil => rfl
  | cons e es ih =>
    simp only [Ex.asked, List.any_cons, Bool.not_or, ← ih]
    cases e.asks x v <;> simp
def Ex.holds (e : Ex) (x v : Nat) : Bool := e.right && e.asks x v

/-! The same tree -/
mutual
def Ex.same : Ex → Ex → Bool
  | .mk k a b ps, .mk k' a' b' ps' => decide (k = k') && decide (a = a') && decide (b = b') && Ex.sames ps ps'
def Ex.sames : List Ex → List Ex → Bool
  | [], [] => true
  | e :: es, e' :: es' => e.same e' && Ex.sames es es'
  | [], _ :: _ => false
  | _ :: _, [] => false
end
mutual
theorem Ex.same_iff : ∀ e e' : Ex, e.same e' = true ↔ e = e'
  | .mk k a b ps, .mk k' a' b' ps' => by
    simp only [Ex.same, Bool.and_eq_true, decide_eq_true_eq, Ex.sames_iff ps ps', Ex.mk.injEq, and_assoc]
theorem Ex.sames_iff : ∀ e e' : List Ex, Ex.sames e e' = true ↔ e = e'
  | [], [] => by simp [Ex.sames]
  | e :: es, e' :: es' => by simp only [Ex.sames, Bool.and_eq_true, Ex.same_iff e e', Ex.sames_iff es es', List.cons.injEq]
  | [], _ :: _ => by simp [Ex.sames]
  | _ :: _, [] => by simp [Ex.sames]
end
theorem Ex.same_refl (e : Ex) : e.same e = true := (Ex.same_iff e e).2 rfl
instance : DecidableEq Ex := fun a b => decidable_of_iff _ (Ex.same_iff a b)
theorem Ex.same_eq (e e' : Ex) : e.same e' = decide (e = e') := by
  rw [Bool.eq_iff_iff, Ex.same_iff]; simp
theorem Ex.sames_eq (e e' : List Ex) : Ex.sames e e' = decide (e = e') := by
  rw [Bool.eq_iff_iff, Ex.sames_iff]; simp
def Ex.kind : Ex → Int | .mk k _ _ _ => k
def Ex.pa : Ex → Nat | .mk _ a _ _ => a
def Ex.pb : Ex → Nat | .mk _ _ b _ => b
def Ex.parts : Ex → List Ex | .mk _ _ _ ps => ps
def Ex.zero : Ex := .mk 0 0 0 []
end Go.Proofs.YtafgdakieipgiaaGreatDoor
