/- The law ShapeNone, by the evaluator and the contracts of what looks at its arguments. (Under way.) -/
import Derived.Test.YtafgdakieipgiaaGreatDoorE02
import Derived.Test.YtafgdakieipgiaaGreatDoorE06
import Derived.Test.YtafgdakieipgiaaGreatDoorE07
import Derived.Test.YtafgdakieipgiaaGreatDoorW60
import Derived.Test.YtafgdakieipgiaaGreatDoorO09
namespace Go.Proofs.YtafgdakieipgiaaGreatDoor
open Go.RowKit Go.Ev Go
set_option linter.unusedVariables false
set_option linter.unusedSimpArgs false
theorem anys_rel [Env] {m : Mp} : ∀ {l : List AV} {k : Nat} {A : List Value}, anys k l = true → RelL m l A → ∀ i V, A[i]? = some V → Env.E (k + i) V
  | [], k, A, h, hA, i, V, hV => by rw [hA.nil_inv] at hV; simp at hV
  | x :: r, k, A, h, hA, i, V, hV => by
    obtain ⟨W, A', rfl, h1, h2⟩ := hA.cons_inv
    cases x with
    | any j =>
      simp only [anys] at h
      split at h
      · rename_i e
        have := beq_t e
        subst this
        cases i with
        | zero =>
          simp at hV; subst hV
          cases h1
          assumption
        | succ i =>
          have := anys_rel h h2 i V (by simpa using hV)
          rwa [show j + 1 + i = j + (i + 1) by omega] at this
      · cases h
    | _ => simp [anys] at h
theorem few_at [Env] {f : FuncId} {k n : Nat} {b : Bool} {cells : List Value} {fn : Func} (hf : Tryz.prog.funcs[f]? = some fn) (hbd : fn.body.isSome = true) (hok : callOk fn = true) (hl : cells.length = n) (hE : ∀ i V, i < n → Env.E (k + i) V → cells[i]? = some V)
    (hc : ∀ m w, Env.I m w → Calls Tryz.prog f #[.agg cells.toArray] w fun e w' => e = .returned (.bool b) ∧ Below w.heap.size w w') : CallAt Tryz.prog (gPure (gFew k n b)) f := by
  refine callAt_calls hf hbd hok fun args v hv m A w hA hI => ?_
  unfold gFew at hv
  split at hv
  · rename_i l
    split at hv
    · rename_i e1 e2
      have e1 := beq_t e1
      cases hv
      obtain ⟨V, A', e, h1, h2⟩ := hA.cons_inv
      have := h2.nil_inv; subst this
      cases h1
      rename_i B hB h1
      have hBl : B.toList = cells := by
        apply List.ext_getElem?
        intro i
        by_cases hi : i < n
        · have hi' : i < B.toList.length := by omega
          rw [List.getElem?_eq_getElem hi']
          exact (hE i _ hi (anys_rel e2 ⟨hB, h1⟩ i _ (List.getElem?_eq_getElem hi'))).symm
        · rw [List.getElem?_eq_none (by omega), List.getElem?_eq_none (by omega)]
      have hA' : A = #[.agg cells.toArray] := by
        have : B = cells.toArray := by rw [← hBl]
        rw [← this]; cases A; simpa using e
      rw [hA']
      refine (hc m w hI).mono fun e w' => ?_
      rintro ⟨rfl, hb⟩
      exact ⟨_, rfl, .b _, hb⟩
    · cases hv
  · cases hv
theorem works_at [Env] : CallAt Tryz.prog (gPure gTrue) 6 := by
  refine callAt_calls Tryz.func6 (by kernel_rfl) (by kernel_rfl) fun args v hv m A w hA hI => ?_
  unfold gTrue at hv
  split at hv
  · cases hv
    have := hA.nil_inv
    have hA' : A = #[] := by cases A; simpa using this
    rw [hA']
    refine (calls_of_ev (A := #[]) evWorks9 (fun _ => .nil _) Tryz.func6 (by kernel_rfl) (by kernel_rfl) w).mono fun e w' => ?_
    rintro ⟨rfl, hb⟩
    exact ⟨_, rfl, .b _, hb⟩
  · cases hv
theorem orcS_at [Env] {b1 b2 : Bool} (h1 : CallAt Tryz.prog (gPure (gFew 0 11 b1)) 4) (h2 : CallAt Tryz.prog (gPure (gFew 15 4 b2)) 5) : ∀ f g, orcS b1 b2 f = some g → CallAt Tryz.prog g f := by
  intro f g h
  unfold orcS at h
  cases e1 : Nat.beq f 4 with
  | true => have := beq_t e1; subst this; rw [e1] at h; cases h; exact h1
  | false =>
    rw [e1] at h
    cases e2 : Nat.beq f 5 with
    | true => have := beq_t e2; subst this; rw [e2] at h; cases h; exact h2
    | false =>
      rw [e2] at h
      cases e3 : Nat.beq f 6 with
      | true => have := beq_t e3; subst this; rw [e3] at h; cases h; exact works_at
      | false => rw [e3] at h; exact orc_at f g h
/-- The trees of the two arguments stand in every later memory. -/
theorem tree_stays {w w' : World} {S : Nat → Prop} {own : Bool} {e : Ex} {v : Value} (h : RepE w S own e v) (hb : ∀ k, k < w.heap.size → w'.heap[k]? = w.heap[k]?) : RepE w' S own e v :=
  RepE.keep (fun b _ hl => hb b hl) (fun _ _ h => h) h
theorem rel_anys [Env] {m : Mp} {l : List AV} {A : List Value} {k : Nat} (hlen : l.length = A.length) (h : ∀ i V, A[i]? = some V → V.oneCell' = true ∧ Env.E (k + i) V) (hl : ∀ i x, l[i]? = some x → x = AV.any (k + i)) : RelL m l A :=
  ⟨hlen, fun i x V hx hV => by rw [hl i x hx]; exact rel_any (h i V hV).2 (h i V hV).1⟩
set_option maxRecDepth 100000 in
theorem shapeNone_law (r a : List Value) (w : World) (h1 : r.length = 11) (h2 : a.length = 8) (o1 : ∀ V ∈ r, V.oneCell' = true) (o2 : ∀ V ∈ a, V.oneCell' = true) (b1 b2 : Bool)
    (hc1 : ∀ w', (∀ k, k < w.heap.size → w'.heap[k]? = w.heap[k]?) → Calls Tryz.prog 4 #[.agg r.toArray] w' fun e w'' => e = .returned (.bool b1) ∧ Below w'.heap.size w' w'')
    (hc2 : ∀ w', (∀ k, k < w.heap.size → w'.heap[k]? = w.heap[k]?) → Calls Tryz.prog 5 #[.agg (a.drop 4).toArray] w' fun e w'' => e = .returned (.bool b2) ∧ Below w'.heap.size w' w'')
    {l : List AV} (hev : isTrue (evF Tryz.prog (fOp Tryz.prog) (orcS b1 b2) 200 3 l .e 8) = true)
    (hl : ∀ [Env], (∀ k V, (r ++ a)[k]? = some V → Env.E k V) → RelL (fun _ => none) l [.agg r.toArray, .agg a.toArray]) :
    Calls Tryz.prog 3 #[.agg r.toArray, .agg a.toArray] w fun e w' => e = .returned (.bool true) ∧ Below w.heap.size w w' := by
  letI : Env := envB w.heap.size w fun k V => (r ++ a)[k]? = some V
  have q1 : CallAt Tryz.prog (gPure (gFew 0 11 b1)) 4 := few_at Tryz.func4 (by kernel_rfl) (by kernel_rfl) h1 (fun i V hi e => by
    have e : (r ++ a)[0 + i]? = some V := e
    rwa [Nat.zero_add, List.getElem?_append_left (by omega)] at e) fun m w' hI => hc1 w' hI.2.2
  have q2 : CallAt Tryz.prog (gPure (gFew 15 4 b2)) 5 := few_at Tryz.func5 (by kernel_rfl) (by kernel_rfl) (by simp [h2]) (fun i V hi e => by
    have e : (r ++ a)[15 + i]? = some V := e
    rw [List.getElem?_append_right (by omega)] at e
    rw [List.getElem?_drop, ← e, show 4 + i = 15 + i - r.length by omega]) fun m w' hI => hc2 w' hI.2.2
  exact calls_true (orcS_at q1 q2) hev (hl fun _ _ e => e) Tryz.func3 (by kernel_rfl) (by kernel_rfl) w ⟨Nat.le_refl _, ⟨(fun _ _ e => by cases e), fun _ _ => rfl⟩⟩
end Go.Proofs.YtafgdakieipgiaaGreatDoor
