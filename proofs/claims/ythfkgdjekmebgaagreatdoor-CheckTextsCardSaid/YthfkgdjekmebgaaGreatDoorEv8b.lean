/- A region by the evaluator, in both orders. Plain lemmas. -/
import Derived.Test.YthfkgdjekmebgaaGreatDoorEv8
namespace Go.Ev
open Go
set_option linter.unusedVariables false
set_option linter.unusedSimpArgs false
set_option linter.unusedSectionVars false
variable [Env]
section
variable {F : Fence} {P : Program} {eo : Eo} {call : Cs} {N : Nat} {ops : Array Oper} {st : Nat → St} {us : Nat → Ou}
/-- The blocks for rounds' deferred calls stay. -/
def Kd (w w' : World) : Prop := ∀ D : Nat, w.heap[D]? = some (Obj.deferred (some [])) → w'.heap[D]? = some (Obj.deferred (some []))
theorem Kd.refl (w : World) : Kd w w := fun _ e => e
theorem Kd.trans {a b c : World} (h1 : Kd a b) (h2 : Kd b c) : Kd a c := fun D e => h2 D (h1 D e)
theorem RepO.noDef {m : Mp} {L : Loc} {o : AO} {w : World} (h : RepO P m L o w) : w.heap[L.block]? ≠ some (Obj.deferred (some [])) := by
  intro e
  cases o with
  | c l t tl => obtain ⟨C, fr, h1, _⟩ := h; rw [h1] at e; cases e
  | m es cl => obtain ⟨E, h1, _⟩ := h; rw [h1] at e; cases e
  | si l pos => obtain ⟨_, S, h1, _⟩ := h; rw [h1] at e; cases e
  | mi r since seen st => obtain ⟨_, B, h1, _⟩ := h; rw [h1] at e; cases e
  | lp T N ps as bd st jp => obtain ⟨_, _, r, h1, _⟩ := h; rw [h1] at e; cases e
theorem kd_of {X : Nat → Prop} {H : Tr AO} {nx a z : Nat} {u : Ou} {m m' : Mp} {w w' : World} (hk : Keep H nx u) (hX : ∀ r, u.R.testBit r = true → X r) (hrep : RepOn P X m H.get w) (hmv : Mv u.W a z m w m' w') : Kd w w' := by
  intro D e
  rw [hmv.fr D (Array.getElem?_eq_some_iff.1 e).1 fun r L hw hm hD => ?_]
  · exact e
  · obtain ⟨h1, h2⟩ := hk.wr r hw
    obtain ⟨o, ho⟩ := Option.ne_none_iff_exists'.1 h2
    obtain ⟨L', g1, g2⟩ := hrep.rep r o (hX r h1) ho
    rw [hm] at g1; cases g1
    exact g2.noDef (by rw [hD]; exact e)
/-- What stands behind the operations S. -/
structure RI (P : Program) (N : Nat) (ops : Array Oper) (st : Nat → St) (us : Nat → Ou) (X : Nat → Prop) (m0 : Mp) (a0 : Act) (w0 : World) (S : Nat → Bool) (m : Mp) (a : Act) (w : World) : Prop where
  T : TRel m (tS st us ops S ops.size) N a
  df : a.defers = a0.defers
  rep : RepOn P (fun r => X r ∨ ∃ k, k < ops.size ∧ S k = true ∧ (st k).nx ≤ r ∧ r < (us k).nx) m (hS st us S ops.size) w
  mv : Mv (st ops.size).W (st 0).nx (st ops.size).nx m0 w0 m w
  kd : Kd w0 w
  dom : ∀ r L, m r = some L → m0 r = some L ∨ ∃ k, k < ops.size ∧ S k = true ∧ (st k).nx ≤ r ∧ r < (us k).nx
theorem opR_of {m : Mp} {T : Nat → Option AV} {s : St} {o : Oper} {a : Act} (hT : TRel m T N a) (h : ∀ t, t ∈ o.looksAt ops → T t = s.T.get t) : OpR m s.T a.eval o.op := by
  intro x v hx hv
  cases x with
  | tmp t =>
    have ht : t ∈ o.looksAt ops := by
      unfold Oper.looksAt
      exact List.mem_append_left _ (List.mem_filterMap.2 ⟨.tmp t, hx, rfl⟩)
    obtain ⟨V, h1, h2⟩ := hT.2 t v (by rw [h t ht]; exact hv)
    have : a.eval (.tmp t) = V := by
      show a.tmps.getD t undef = V
      rw [Array.getD_eq_getD_getElem?, h1]; rfl
    rw [this]; exact h2
  | const c => exact absV_rel m hv
  | global g => cases hv
  | func f =>
    cases hv
    exact .f_of (A := #[]) (B := #[]) (.nil m) (.nil m)
theorem wanted_of {m : Mp} {T : Nat → Option AV} {s : St} {o : Oper} {a : Act} {b : Bool} (hT : TRel m T N a) (h : ∀ t, t ∈ o.looksAt ops → T t = s.T.get t) (hg : evGuard s.T ops o.guard = some b) : Region.wanted o (yielded ops a.tmps) = b := by
  unfold evGuard at hg
  unfold Region.wanted
  split at hg
  · rename_i hn; rw [hn]; cases hg; rfl
  · rename_i j want hj
    rw [hj]
    simp only []
    split at hg
    · rename_i oj hoj
      split at hg
      · rename_i d hd
        have ht : d ∈ o.looksAt ops := by
          unfold Oper.looksAt
          refine List.mem_append_right _ ?_
          rw [hj]; simp [hoj, hd]
        have hy : yielded ops a.tmps j = match a.tmps[d]? with | some (.bool b) => some b | _ => none := by
          unfold yielded
          rw [hoj]
          show (match (Option.bind (some oj) (·.dst)).bind (a.tmps[·]?) with | some (.bool b) => some b | _ => none) = _
          rw [show Option.bind (some oj) (·.dst) = some d from hd]
          rfl
        split at hg
        · rename_i x hx
          cases hg
          obtain ⟨V, h1, h2⟩ := hT.2 d _ (by rw [h d ht]; exact hx)
          cases h2
          rw [hy, h1]
          simp
        · rename_i l hv
          cases hg
          obtain ⟨V, h1, h2⟩ := hT.2 d _ (by rw [h d ht]; exact hv)
          rw [hy, h1]
          cases h2
          rfl
        · cases hg
      · cases hg
    · cases hg
theorem get_put_same {a : Act} {s : Nat} {v : Value} (hs : s < a.tmps.size) : (a.put (some s) v).tmps[s]? = some v := by
  simp only [Act.put]
  rw [Array.getElem?_setIfInBounds_self_of_lt hs]
theorem get_put_other {a : Act} {s t : Nat} {v : Value} (h : s ≠ t) : (a.put (some s) v).tmps[t]? = a.tmps[t]? := by
  simp only [Act.put]
  rw [Array.getElem?_setIfInBounds_ne h]
/-- One operation more. -/
theorem RI.step (hF : Wd F) (h : Run F P eo call N ops st us) {X : Nat → Prop} {m0 m : Mp} {a0 a : Act} {w0 w : World} {S : Nat → Bool} (hi : RI P N ops st us X m0 a0 w0 S m a w) {i : Nat} {o : Oper} (ho : ops[i]? = some o) (hSi : S i = false)
    (h1 : ∀ k, k < i → S k = true ∨ Apt st us ops k i) (h2 : ∀ k, i < k → k < ops.size → S k = true → Apt st us ops i k)
    (hR : ∀ r, (st ops.size).R.testBit r = true → X r ∨ ((st 0).nx ≤ r ∧ r < (st ops.size).nx)) (hX : ∀ r, (st 0).nx ≤ r → r < (st ops.size).nx → m0 r = none ∧ ¬ X r)
    {Q : Exit → Act → World → Prop} {K : Act → World → Prop} (hK : ∀ m' a' w', RI P N ops st us X m0 a0 w0 (fun j => j == i || S j) m' a' w' → K a' w') : wpOpIn F 0 P ops Q i K a w := by
  have hlt : i < ops.size := (Array.getElem?_eq_some_iff.1 ho).1
  have hone := h.one i o ho
  have hkeep := h.keep hlt
  have hnx0 : (st 0).nx ≤ (st i).nx := h.mono i (Nat.zero_le _) (by omega)
  have hnx1 : (us i).nx ≤ (st ops.size).nx := by
    have := h.mono (i := i + 1) ops.size (by omega) (Nat.le_refl _)
    rw [hone.nx] at this; exact this
  have hlook : ∀ t, t ∈ o.looksAt ops → tS st us ops S ops.size t = (st i).T.get t := fun t ht => agreeT h ho hSi h1 h2 ht
  have hdst : dstO ops i = o.dst := by simp [dstO, ho]
  -- of the rows that it looks at all are there
  have hRi : ∀ r, (us i).R.testBit r = true → X r ∨ ∃ k, k < ops.size ∧ S k = true ∧ (st k).nx ≤ r ∧ r < (us k).nx := by
    intro r hr
    rcases hR r (h.R hr ops.size hlt (Nat.le_refl _)) with hx | ⟨ha, hz⟩
    · exact .inl hx
    · right
      have hri := h.rlt hlt hr
      -- the operation that made it
      have : ∀ k, k ≤ i → (st 0).nx ≤ r → r < (st k).nx → ∃ j, j < k ∧ (st j).nx ≤ r ∧ r < (us j).nx := by
        intro k
        induction k with
        | zero => intro _ h3 h4; omega
        | succ k ih =>
          intro hk h3 h4
          by_cases e : r < (st k).nx
          · obtain ⟨j, g1, g2⟩ := ih (by omega) h3 e
            exact ⟨j, by omega, g2⟩
          · refine ⟨k, by omega, by omega, ?_⟩
            rw [(h.at (k := k) (by omega)).nx] at h4; exact h4
      obtain ⟨j, g1, g2, g3⟩ := this i (Nat.le_refl _) ha hri
      refine ⟨j, by omega, ?_, g2, g3⟩
      rcases h1 j g1 with g | g
      · exact g
      · exact absurd ⟨g2, g3⟩ (g.nw r hr)
  -- its new rows are no one's yet
  have hnew : ∀ r, (st i).nx ≤ r → r < (us i).nx → m r = none ∧ ¬ (X r ∨ ∃ k, k < ops.size ∧ S k = true ∧ (st k).nx ≤ r ∧ r < (us k).nx) := by
    intro r ha hz
    have hx := hX r (by omega) (by omega)
    have hk : ¬ ∃ k, k < ops.size ∧ S k = true ∧ (st k).nx ≤ r ∧ r < (us k).nx := by
      rintro ⟨k, g1, g2, g3, g4⟩
      have hne : k ≠ i := fun e => by rw [e, hSi] at g2; cases g2
      rcases Nat.lt_or_gt_of_ne hne with hl | hl
      · have := h.mono (i := k + 1) i (by omega) (by omega)
        rw [(h.at g1).nx] at this; omega
      · have := h.mono (i := i + 1) k (by omega) (by omega)
        rw [(h.at hlt).nx] at this; omega
    refine ⟨?_, fun e => e.elim hx.2 hk⟩
    cases e : m r with
    | none => rfl
    | some L =>
      rcases hi.dom r L e with g | g
      · rw [hx.1] at g; cases g
      · exact absurd g hk
  -- behind it
  have fin : ∀ m' V w', Rel m' (us i).v V → Mv (us i).W (st i).nx (us i).nx m w m' w' → RepOn P (fun r => (us i).R.testBit r = true ∨ ((st i).nx ≤ r ∧ r < (us i).nx)) m' (us i).H.get w' → K (a.put o.dst V) w' := by
    intro m' V w' hv hmv hrep
    refine hK m' _ w' ⟨⟨?_, fun t v e => ?_⟩, ?_, ?_, ?_, ?_, fun r L e => ?_⟩
    · have := hi.T.1
      cases hd : o.dst with
      | none => exact this
      | some d => simp only [Act.put, Array.size_setIfInBounds]; exact this
    · by_cases hd : o.dst = some t
      · rw [tS_ins_yes hlt h2 (by rw [hdst]; exact hd) ops.size hlt (Nat.le_refl _)] at e
        cases e
        refine ⟨V, ?_, hv⟩
        rw [hd]
        exact get_put_same (by rw [hi.T.1]; exact hone.dlt hd)
      · rw [tS_ins_no (by rw [hdst]; exact hd)] at e
        obtain ⟨V', g1, g2⟩ := hi.T.2 t v e
        refine ⟨V', ?_, g2.mono hmv.ext⟩
        cases hd' : o.dst with
        | none => exact g1
        | some d => rw [get_put_other (fun e => hd (by rw [hd', e]))]; exact g1
    · rw [← hi.df]; cases o.dst <;> rfl
    · -- memory
      have hag : ∀ r, (us i).R.testBit r = true → hS st us S ops.size r = (st i).H.get r := fun r hr => agreeH h hlt hSi h1 h2 hr
      have hown : ∀ r, (us i).R.testBit r = true ∨ ((st i).nx ≤ r ∧ r < (us i).nx) → hS st us (fun j => j == i || S j) ops.size r = (us i).H.get r := by
        intro r hr
        cases ho' : own st us i r with
        | true => exact hS_ins_yes h hlt h2 ho' ops.size hlt (Nat.le_refl _)
        | false =>
          rw [hS_ins_no ho']
          have hnn : ¬ ((st i).nx ≤ r ∧ r < (us i).nx) := fun e => by
            unfold own at ho'; simp [e.1, e.2] at ho'
          have hrr := hr.resolve_right hnn
          have hw : (us i).W.testBit r = false := by
            unfold own at ho'; simp only [Bool.or_eq_false_iff] at ho'; exact ho'.1
          rw [hag r hrr, hkeep.kp r hw hnn]
      have hrep' : RepOn P (fun r => (us i).R.testBit r = true ∨ ((st i).nx ≤ r ∧ r < (us i).nx)) m' (hS st us (fun j => j == i || S j) ops.size) w' := hrep.sub P (fun r hr => hr) fun r hr => hown r hr
      have hj := RepOn.join P (X := fun r => X r ∨ ∃ k, k < ops.size ∧ S k = true ∧ (st k).nx ≤ r ∧ r < (us k).nx) (F := fun r => (us i).R.testBit r = true) hi.rep (fun r hr => hRi r hr) (fun r hr => ⟨(hkeep.wr r hr).1, by rw [hag r (hkeep.wr r hr).1]; exact (hkeep.wr r hr).2⟩) hmv
        (fun r ha hz => (hnew r ha hz).1) hrep' (fun r hx hw => by
          refine hS_ins_no ?_ _
          unfold own
          rw [hw]
          cases hc : (decide ((st i).nx ≤ r) && decide (r < (us i).nx)) with
          | false => rfl
          | true =>
            simp only [Bool.and_eq_true, decide_eq_true_eq] at hc
            exact absurd hx (hnew r hc.1 hc.2).2)
      refine hj.sub P (fun r hr => ?_) (fun r _ => rfl)
      rcases hr with hr | ⟨k, g1, g2, g3⟩
      · exact .inl (.inl hr)
      · by_cases e : k = i
        · subst e; exact .inr g3
        · have : (k == i) = false := by simp [e]
          rw [this] at g2
          exact .inl (.inr ⟨k, g1, by simpa using g2, g3⟩)
    · exact Mv.comp hi.mv (hmv.range hnx0 hnx1) (fun r e => e) fun r e => h.W e ops.size hlt (Nat.le_refl _)
    · exact hi.kd.trans (kd_of (X := fun r => (us i).R.testBit r = true) hkeep (fun r hr => hr) (hi.rep.sub P (fun r hr => hRi r hr) fun r hr => (agreeH h hlt hSi h1 h2 hr).symm) hmv)
    · rcases hmv.new r L e with e | ⟨ha, hz, _⟩
      · rcases hi.dom r L e with e | ⟨k, g1, g2, g3⟩
        · exact .inl e
        · exact .inr ⟨k, g1, by simp [g2], g3⟩
      · exact .inr ⟨i, hlt, by simp, ha, hz⟩
  unfold wpOpIn
  rw [ho]
  simp only []
  rcases hone.run with ⟨hg, hu⟩ | ⟨hg, hu⟩
  · rw [wanted_of hi.T hlook hg]
    simp only [Bool.false_eq_true, if_false]
    refine ⟨fun f _ => hF.ok f, fin m undef w ?_ ?_ ?_⟩
    · rw [hu]; exact Rel.un m
    · rw [hu]; exact Mv.refl _ _ _
    · have hag : ∀ r, (us i).R.testBit r = true → False := fun r hr => by rw [hu] at hr; simp at hr
      exact hi.rep.sub P (fun r hr => (hr.elim (fun e => (hag r e).elim) fun e => by rw [hu] at e; have := e.1; have := e.2; simp at this; omega)) fun r hr => (hr.elim (fun e => (hag r e).elim) fun e => by rw [hu] at e; have := e.1; have := e.2; simp at this; omega)
  · rw [wanted_of hi.T hlook hg]
    simp only [if_true]
    refine (h.step (st i) o (us i) hu (h.bndAt i (by omega))).2 (fun r => (us i).R.testBit r = true) m a w K Q (opR_of hi.T hlook) ⟨?_, fun r hr => hr, fun r ha hz => ⟨(hnew r ha hz).1, fun hr => ?_⟩⟩ fin
    · exact hi.rep.sub P (fun r hr => hRi r hr) fun r hr => (agreeH h hlt hSi h1 h2 hr).symm
    · have := h.rlt hlt hr; omega
theorem RI.start {X : Nat → Prop} {m0 : Mp} {a0 : Act} {w0 w1 : World} (hT : TRel m0 (st 0).T.get N a0) (hrep : RepOn P X m0 (st 0).H.get w0) (hw : w1.heap = w0.heap) (ho : w1.os = w0.os) (ht : w1.tape = w0.tape) (hu : w1.output = w0.output) :
    RI P N ops st us X m0 a0 w0 (fun _ => false) m0 a0 w1 := by
  have e1 : ∀ k r, hS st us (fun _ => false) k r = (st 0).H.get r := by
    intro k; induction k with
    | zero => intro r; rfl
    | succ k ih => intro r; simp [hS, ih r]
  have e2 : ∀ k t, tS st us ops (fun _ => false) k t = (st 0).T.get t := by
    intro k; induction k with
    | zero => intro r; rfl
    | succ k ih => intro r; simp [tS, ih r]
  refine ⟨⟨hT.1, fun t v e => hT.2 t v (by rw [← e2 ops.size t]; exact e)⟩, rfl, ?_, ⟨fun _ _ e => e, fun _ _ e => .inl e, by rw [hw]; exact Nat.le_refl _, fun b _ _ => by rw [hw], ho, ht, hu⟩, fun D e => by rw [hw]; exact e, fun r L e => .inl e⟩
  exact (hrep.heap hw).sub P (fun r hr => hr.elim id fun ⟨k, _, g, _⟩ => by cases g) fun r _ => (e1 ops.size r)
/-- What a region leaves behind. -/
theorem RI.done (h : Run F P eo call N ops st us) {X : Nat → Prop} {m0 m : Mp} {a0 a : Act} {w0 w : World} {S : Nat → Bool} (hi : RI P N ops st us X m0 a0 w0 S m a w) (hf : ∀ i, i < ops.size → S i = true) :
    TRel m (st ops.size).T.get N a ∧ (a.defers = a0.defers ∧ Kd w0 w) ∧ RepOn P (fun r => X r ∨ ((st 0).nx ≤ r ∧ r < (st ops.size).nx)) m (st ops.size).H.get w ∧ Mv (st ops.size).W (st 0).nx (st ops.size).nx m0 w0 m w := by
  refine ⟨⟨hi.T.1, fun t v e => hi.T.2 t v (by rw [tS_full h hf t _ (Nat.le_refl _)]; exact e)⟩, ⟨hi.df, hi.kd⟩, ?_, hi.mv⟩
  refine hi.rep.sub P (fun r hr => ?_) fun r _ => (hS_full h hf r _ (Nat.le_refl _)).symm
  rcases hr with hr | ⟨ha, hz⟩
  · exact .inl hr
  · right
    have : ∀ k, k ≤ ops.size → r < (st k).nx → ∃ j, j < k ∧ (st j).nx ≤ r ∧ r < (us j).nx := by
      intro k
      induction k with
      | zero => intro _ h4; omega
      | succ k ih =>
        intro hk h4
        by_cases e : r < (st k).nx
        · obtain ⟨j, g1, g2⟩ := ih (by omega) e
          exact ⟨j, by omega, g2⟩
        · refine ⟨k, by omega, by omega, ?_⟩
          rw [(h.at (k := k) (by omega)).nx] at h4; exact h4
    obtain ⟨j, g1, g2⟩ := this ops.size (Nat.le_refl _) hz
    exact ⟨j, g1, hf j g1, g2⟩
end
end Go.Ev
