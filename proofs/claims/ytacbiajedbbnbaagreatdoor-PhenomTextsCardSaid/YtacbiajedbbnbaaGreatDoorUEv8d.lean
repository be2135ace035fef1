/- Code by the evaluator. Plain lemmas. -/
import Derived.Test.YtacbiajedbbnbaaGreatDoorUEv8c
namespace Go.Ev
open Go
set_option linter.unusedVariables false
set_option linter.unusedSimpArgs false
set_option linter.unusedSectionVars false
variable [Env]
section
variable {P : Program} {eo : Eo} {call : Cl} {N : Nat}
/-- A state's own order. -/
structure Sane (s : St) : Prop where
  bnd : Bnd s.H s.nx
  rb : ∀ r, s.R.testBit r = true → r < s.nx
  wr : ∀ r, s.W.testBit r = true → s.R.testBit r = true
/-- What a piece of code keeps. -/
structure KeepC (s s' : St) : Prop where
  le : s.nx ≤ s'.nx
  R : ∀ r, s.R.testBit r = true → s'.R.testBit r = true
  W : ∀ r, s.W.testBit r = true → s'.W.testBit r = true
  rd : ∀ r, s'.R.testBit r = true → s.R.testBit r = true ∨ s.H.get r ≠ none ∨ s.nx ≤ r
  wl : ∀ r, s'.W.testBit r = true → s.W.testBit r = true ∨ s.H.get r ≠ none ∨ s.nx ≤ r
  kp : ∀ r, s'.W.testBit r = false → r < s.nx → s'.H.get r = s.H.get r
  sane : Sane s'
theorem KeepC.refl {s : St} (h : Sane s) : KeepC s s := ⟨Nat.le_refl _, fun _ e => e, fun _ e => e, fun _ e => .inl e, fun _ e => .inl e, fun _ _ _ => rfl, h⟩
theorem KeepC.wl2 {a b : St} (h1 : KeepC a b) {r : Nat} (hr : b.W.testBit r = true ∨ b.H.get r ≠ none ∨ b.nx ≤ r) : a.W.testBit r = true ∨ a.H.get r ≠ none ∨ a.nx ≤ r := by
  rcases hr with hr | hr | hr
  · exact h1.wl r hr
  · cases hw : b.W.testBit r with
    | true => exact h1.wl r hw
    | false =>
      by_cases e : a.nx ≤ r
      · exact .inr (.inr e)
      · rw [h1.kp r hw (by omega)] at hr; exact .inr (.inl hr)
  · have := h1.le; exact .inr (.inr (by omega))
theorem KeepC.trans {a b c : St} (hs : Sane a) (h1 : KeepC a b) (h2 : KeepC b c) : KeepC a c := by
  have hW : ∀ r, c.W.testBit r = false → b.W.testBit r = false := fun r hr => by
    cases e : b.W.testBit r with
    | false => rfl
    | true => rw [h2.W r e] at hr; cases hr
  refine ⟨Nat.le_trans h1.le h2.le, fun r e => h2.R r (h1.R r e), fun r e => h2.W r (h1.W r e), fun r e => ?_, fun r e => h1.wl2 (h2.wl r e), fun r e hl => ?_, h2.sane⟩
  · rcases h2.rd r e with g | g
    · exact h1.rd r g
    · exact (h1.wl2 (.inr g)).imp (hs.wr r) id
  · have := h1.le
    rw [h2.kp r e (by omega), h1.kp r (hW r e) hl]
/-- What a run of code leaves behind. -/
def After (P : Program) (N : Nat) (X : Nat → Prop) (s s' : St) (m : Mp) (a : Act) (w : World) (m' : Mp) (a' : Act) (w' : World) : Prop :=
  TRel m' s'.T.get N a' ∧ a'.defers = a.defers ∧ RepOn P (fun r => X r ∨ (s.nx ≤ r ∧ r < s'.nx)) m' s'.H.get w' ∧ Mv s'.W s.nx s'.nx m w m' w'
def Exi.to : Exi → Exit
  | .nrm => .normal
  | .ext id => .exit id
  | .ret => .ret
/-- What a run does; G: from where. -/
def RunsTo (P : Program) (N : Nat) (G : (Exit → Act → World → Prop) → Act → World → Prop) (s : St) (e : Exi) (s' : St) : Prop :=
  ∀ (X : Nat → Prop) m a w (Q : Exit → Act → World → Prop), TRel m s.T.get N a → RepOn P X m s.H.get w → (∀ r, s'.R.testBit r = true → X r ∨ (s.nx ≤ r ∧ r < s'.nx)) → (∀ r, s.nx ≤ r → r < s'.nx → m r = none ∧ ¬ X r) →
    (∀ m' a' w', After P N X s s' m a w m' a' w' → Q e.to a' w') → G Q a w
/-- What a run of code does. -/
def CodeOk (P : Program) (N : Nat) (c : Code) (s : St) (e : Exi) (s' : St) : Prop := KeepC s s' ∧ RunsTo P N (fun Q a w => c.wp P Q a w) s e s'
/-- What a run of a loop does, from a round's head on. -/
def LoopOk (P : Program) (N : Nat) (c : Code) (s : St) (e : Exi) (s' : St) : Prop :=
  KeepC s s' ∧ RunsTo P N (fun Q a w => ∀ (b : Frame) (k : List Item) (cs : List Frame), ∃ e a' w', Q e a' w' ∧ Arrives P (lone (b.at a (.code c :: .inLoop c :: k)) cs w) b k cs e a' w') s e s'
theorem After.trans {X : Nat → Prop} {s s1 s2 : St} {m m1 m2 : Mp} {a a1 a2 : Act} {w w1 w2 : World} (k1 : KeepC s s1) (k2 : KeepC s1 s2) (h1 : After P N X s s1 m a w m1 a1 w1) (h2 : After P N (fun r => X r ∨ (s.nx ≤ r ∧ r < s1.nx)) s1 s2 m1 a1 w1 m2 a2 w2) : After P N X s s2 m a w m2 a2 w2 := by
  obtain ⟨t1, d1, r1, v1⟩ := h1
  obtain ⟨t2, d2, r2, v2⟩ := h2
  have l1 := k1.le; have l2 := k2.le
  refine ⟨t2, d2.trans d1, r2.sub P (fun r hr => ?_) fun _ _ => rfl, Mv.comp (v1.range (Nat.le_refl _) l2) (v2.range l1 (Nat.le_refl _)) (fun r e => k2.W r e) fun r e => e⟩
  rcases hr with hr | hr
  · exact .inl (.inl hr)
  · by_cases e : r < s1.nx
    · exact .inl (.inr ⟨hr.1, e⟩)
    · exact .inr ⟨by omega, hr.2⟩
/-- One piece of code behind another. -/
theorem CodeOk.then {x : Code} {G : (Exit → Act → World → Prop) → Act → World → Prop} {s s1 s2 : St} {e : Exi} (hs : Sane s) (h1 : CodeOk P N x s .nrm s1) (k2 : KeepC s1 s2) (h2 : RunsTo P N G s1 e s2) {X : Nat → Prop} {m : Mp} {a : Act} {w : World} {Q : Exit → Act → World → Prop} {R : Exit → Act → World → Prop} (hT : TRel m s.T.get N a) (hrep : RepOn P X m s.H.get w)
    (hR : ∀ r, s2.R.testBit r = true → X r ∨ (s.nx ≤ r ∧ r < s2.nx)) (hX : ∀ r, s.nx ≤ r → r < s2.nx → m r = none ∧ ¬ X r)
    (hR1 : ∀ a' w', G Q a' w' → R .normal a' w')
    (hQ : ∀ m' a' w', After P N X s s2 m a w m' a' w' → Q e.to a' w') : x.wp P R a w := by
  have l1 := h1.1.le; have l2 := k2.le
  refine h1.2 X m a w R hT hrep (fun r hr => ?_) (fun r ha hz => hX r ha (by omega)) fun m1 a1 w1 ha1 => hR1 _ _ ?_
  · rcases hR r (k2.R r hr) with g | g
    · exact .inl g
    · exact .inr ⟨g.1, h1.1.sane.rb r hr⟩
  · obtain ⟨t1, d1, r1, v1⟩ := ha1
    refine h2 _ m1 a1 w1 Q t1 r1 (fun r hr => ?_) (fun r ha hz => ?_) fun m2 a2 w2 ha2 => hQ _ _ _ (After.trans h1.1 k2 ⟨t1, d1, r1, v1⟩ ha2)
    · rcases hR r hr with g | g
      · exact .inl (.inl g)
      · by_cases e : r < s1.nx
        · exact .inl (.inr ⟨g.1, e⟩)
        · exact .inr ⟨by omega, g.2⟩
    · have hx := hX r (by omega) hz
      refine ⟨?_, fun e => e.elim hx.2 fun e => by omega⟩
      cases e : m1 r with
      | none => rfl
      | some L =>
        rcases v1.new r L e with g | ⟨_, g, _⟩
        · rw [hx.1] at g; cases g
        · omega
theorem CodeOk.here {c : Code} {s : St} (hs : Sane s) {e : Exi} (h : ∀ Q a w, Q e.to a w → c.wp P Q a w) : CodeOk P N c s e s :=
  ⟨KeepC.refl hs, fun X m a w Q hT hrep _ _ hQ => h Q a w (hQ m a w ⟨hT, rfl, hrep.sub P (fun r hr => hr.elim id fun e => by omega) fun _ _ => rfl, (Mv.refl s.nx m w).more fun r L e => by simp at e⟩)⟩
theorem run_of {ops : Array Oper} {s s' : St} {l : List Inf} (hst : StepOk P eo call) (hs : Sane s) (h : evOps eo call N ops ops.toList 0 s [] = some (s', l)) :
    ∃ (st : Nat → St) (us : Nat → Ou), st 0 = s ∧ st ops.size = s' ∧ Run P eo call N ops st us ∧ l = ((List.range' 0 ops.size).map fun k => infOf k (st k) (us k)).reverse := by
  obtain ⟨st, us, h1, h2, h3, h4⟩ := evOps_trace ops.toList 0 s [] s' l h
  refine ⟨st, us, h1, by simpa using h2, ⟨fun k o ho => by simpa using h3 k o (by simpa using ho), hst, by rw [h1]; exact hs.bnd⟩, by simpa using h4⟩
theorem run_keep {ops : Array Oper} {st : Nat → St} {us : Nat → Ou} (h : Run P eo call N ops st us) (hs : Sane (st 0)) : ∀ k, k ≤ ops.size → KeepC (st 0) (st k)
  | 0, _ => KeepC.refl hs
  | k + 1, hk => by
    have hks : k < ops.size := by omega
    have ih := run_keep h hs k (by omega)
    have h1 := h.at hks
    have h2 := h.keep hks
    refine ih.trans hs ⟨by rw [h1.nx]; exact h2.le, fun r e => by rw [h1.R]; exact or_l e, fun r e => by rw [h1.W]; exact or_l e, fun r e => ?_, fun r e => ?_, fun r e hl => ?_, ⟨h.bndAt (k + 1) hk, fun r e => ?_, fun r e => ?_⟩⟩
    · rw [h1.R, Nat.testBit_or, Bool.or_eq_true] at e
      exact e.imp id fun e => .inl (h2.rd r e)
    · rw [h1.W, Nat.testBit_or, Bool.or_eq_true] at e
      exact e.imp id fun e => .inl (h2.wr r e).2
    · rw [h1.W, Nat.testBit_or, Bool.or_eq_false_iff] at e
      rw [h1.H]; exact h2.kp r e.2 (by omega)
    · rw [h1.R, Nat.testBit_or, Bool.or_eq_true] at e
      rw [h1.nx]
      have := h2.le
      rcases e with e | e
      · have := ih.sane.rb r e; omega
      · have := h.rlt hks e; omega
    · rw [h1.W, Nat.testBit_or, Bool.or_eq_true] at e
      rw [h1.R]
      rcases e with e | e
      · exact or_l (ih.sane.wr r e)
      · exact or_r (h2.wr r e).1
theorem noGoto_to {Q : Exit → Act → World → Prop} {e : Exi} {a : Act} {w : World} (h : Q e.to a w) : Exit.noGoto Q e.to a w := by cases e <;> exact h
/-- A loop, round by round. -/
theorem loop_ok {b : Code} {M : Nat} (body : ∀ n, n < M → ∀ s e s', evC eo call N n b s = some (e, s') → Sane s → CodeOk P N b s e s') : ∀ n, n ≤ M → ∀ s e s', evC eo call N n (.loop b) s = some (e, s') → Sane s → LoopOk P N b s e s'
  | 0, _, s, e, s', h, _ => by cases h
  | n + 1, hn, s, e, s', h, hs => by
    have h : cThen (evC eo call N n (.loop b)) (evC eo call N n b s) = some (e, s') := h
    cases hE : evC eo call N n b s with
    | none => rw [hE] at h; cases h
    | some p =>
      obtain ⟨e1, s1⟩ := p
      rw [hE] at h
      have h1 := body n (by omega) s e1 s1 hE hs
      have ends : ∀ e2 : Exi, e2 ≠ .nrm → e1 = e2 → some (e1, s1) = some (e, s') → LoopOk P N b s e s' := by
        intro e2 hne he h
        cases h
        refine ⟨h1.1, fun X m a w Q hT hrep hR hX hQ fr k cs => ?_⟩
        obtain ⟨e', a', w', ⟨hq, hee⟩, harr⟩ := h1.2 X m a w (fun e' a' w' => Q e' a' w' ∧ e' = e.to) hT hrep hR hX (fun m' a' w' g => ⟨hQ m' a' w' g, rfl⟩) fr (.inLoop b :: k) cs
        refine ⟨e', a', w', hq, .pass (x := .inLoop b) rfl (fun _ _ => .inl ?_) harr⟩
        subst he
        rw [hee]; cases e with
        | nrm => exact (hne rfl).elim
        | ext id => simp [Exi.to]
        | ret => simp [Exi.to]
      cases e1 with
      | nrm =>
        have h2 := loop_ok body n (by omega) s1 e s' h h1.1.sane
        refine ⟨h1.1.trans hs h2.1, fun X m a w Q hT hrep hR hX hQ fr k cs => ?_⟩
        have hw := CodeOk.then (R := fun e' a' w' => match e' with
          | .normal => ∀ (b' : Frame) (k : List Item) (cs : List Frame), ∃ e a'' w'', Q e a'' w'' ∧ Arrives P (lone (b'.at a' (.code b :: .inLoop b :: k)) cs w') b' k cs e a'' w''
          | _ => False) hs h1 h2.1 h2.2 hT hrep hR hX (fun a' w' g => g) hQ
        obtain ⟨e', a', w', hq, harr⟩ := hw fr (.inLoop b :: k) cs
        cases e' with
        | normal =>
          obtain ⟨e2, a2, w2, hq2, harr2⟩ := hq fr k cs
          exact ⟨e2, a2, w2, hq2, .of_steps (Steps.trans harr (.one step_inLoop)) harr2⟩
        | exit id => exact hq.elim
        | goto l => exact hq.elim
        | ret => exact hq.elim
        | panic ch => exact hq.elim
        | outgrown => exact hq.elim
      | ext id => exact ends _ (by simp) rfl h
      | ret => exact ends _ (by simp) rfl h
/-- The evaluator of code is right. -/
theorem evC_ok (hst : StepOk P eo call) (hm : P.follows .mixedOrders = true) (n : Nat) : ∀ (c : Code) (s : St) (e : Exi) (s' : St), evC eo call N n c s = some (e, s') → codeOk c = true → Sane s → CodeOk P N c s e s' := by
  induction n using Nat.strongRecOn with
  | _ n ihs =>
    intro c s e s' h hc hs
    cases n with
    | zero => cases h
    | succ n =>
    have h : cStep eo call N (evC eo call N n) s c = some (e, s') := h
    have ih := ihs n (Nat.lt_succ_self n)
    cases c with
    | skip => cases h; exact CodeOk.here hs fun Q a w => wp_skip
    | label l => cases h; exact CodeOk.here hs fun Q a w => wp_label
    | exit id => cases h; exact CodeOk.here hs fun Q a w => wp_exit
    | ret => cases h; exact CodeOk.here hs fun Q a w => wp_ret
    | region id ops d =>
      cases d with
      | false =>
        simp only [cStep, cReg] at h
        cases hE : evOps eo call N ops ops.toList 0 s [] with
        | none => rw [hE] at h; cases h
        | some p =>
          obtain ⟨s1, l⟩ := p
          rw [hE] at h
          cases h
          obtain ⟨st, us, e1, e2, hr, _⟩ := run_of hst hs hE
          have hk := run_keep hr (by rw [e1]; exact hs) ops.size (Nat.le_refl _)
          rw [e1, e2] at hk
          refine ⟨hk, fun X m a w Q hT hrep hR hX hQ => ?_⟩
          subst e1; subst e2
          exact text_ok hr hT hrep hR hX fun m' a' w' g1 g2 g3 g4 => hQ m' a' w' ⟨g1, g2, g3, g4⟩
      | true =>
        simp only [cStep, cReg] at h
        cases hE : evOps eo call N ops ops.toList 0 s [] with
        | none => rw [hE] at h; cases h
        | some p =>
          obtain ⟨s1, l⟩ := p
          rw [hE] at h
          simp only [cDraw] at h
          split at h
          · rename_i hck
            cases h
            obtain ⟨st, us, e1, e2, hr, hl⟩ := run_of hst hs hE
            have hk := run_keep hr (by rw [e1]; exact hs) ops.size (Nat.le_refl _)
            rw [e1, e2] at hk
            refine ⟨hk, fun X m a w Q hT hrep hR hX hQ => ?_⟩
            subst e1; subst e2
            rw [hl] at hck
            exact draw_ok hm hr (by simpa [codeOk] using hc) hck hT hrep hR hX fun m' a' w' g1 g2 g3 g4 => hQ m' a' w' ⟨g1, g2, g3, g4⟩
          · cases h
    | seq x y =>
      simp only [codeOk, Bool.and_eq_true] at hc
      simp only [cStep] at h
      cases hE : evC eo call N n x s with
      | none => rw [hE] at h; cases h
      | some p =>
        obtain ⟨e1, s1⟩ := p
        rw [hE] at h
        have h1 := ih x s e1 s1 hE hc.1 hs
        cases e1 with
        | nrm =>
          have h2 := ih y s1 e s' h hc.2 h1.1.sane
          refine ⟨h1.1.trans hs h2.1, fun X m a w Q hT hrep hR hX hQ => wp_seq ?_⟩
          exact CodeOk.then hs h1 h2.1 h2.2 hT hrep hR hX (fun a' w' g => g) hQ
        | ext id => cases h; exact ⟨h1.1, fun X m a w Q hT hrep hR hX hQ => wp_seq (h1.2 X m a w _ hT hrep hR hX fun m' a' w' g => hQ m' a' w' g)⟩
        | ret => cases h; exact ⟨h1.1, fun X m a w Q hT hrep hR hX hQ => wp_seq (h1.2 X m a w _ hT hrep hR hX fun m' a' w' g => hQ m' a' w' g)⟩
    | cond c x y =>
      simp only [codeOk, Bool.and_eq_true] at hc
      simp only [cStep] at h
      cases hE : evx s.T c with
      | none => rw [hE] at h; cases h
      | some v =>
        rw [hE] at h
        cases v <;> try (cases h)
        rename_i b
        have hev : ∀ m a, TRel m s.T.get N a → a.eval c = .bool b := by
          intro m a hT
          cases c with
          | tmp t =>
            obtain ⟨V, g1, g2⟩ := hT.2 t _ hE
            cases g2
            show a.tmps.getD t undef = _
            rw [Array.getD_eq_getD_getElem?, g1]; rfl
          | const v => have := absV_rel m hE; cases this; rfl
          | global g => cases hE
          | func f => cases hE
        cases b with
        | true =>
          have h1 := ih x s e s' h hc.1 hs
          exact ⟨h1.1, fun X m a w Q hT hrep hR hX hQ => wp_cond_true (hev m a hT) (h1.2 X m a w Q hT hrep hR hX hQ)⟩
        | false =>
          have h1 := ih y s e s' h hc.2 hs
          exact ⟨h1.1, fun X m a w Q hT hrep hR hX hQ => wp_cond_false (hev m a hT) (h1.2 X m a w Q hT hrep hR hX hQ)⟩
    | block id b =>
      simp only [codeOk] at hc
      simp only [cStep] at h
      cases hE : evC eo call N n b s with
      | none => rw [hE] at h; cases h
      | some p =>
        obtain ⟨e1, s1⟩ := p
        rw [hE] at h
        have h1 := ih b s e1 s1 hE hc hs
        cases e1 with
        | nrm => cases h; exact ⟨h1.1, fun X m a w Q hT hrep hR hX hQ => wp_block (h1.2 X m a w _ hT hrep hR hX fun m' a' w' g => hQ m' a' w' g)⟩
        | ret => cases h; exact ⟨h1.1, fun X m a w Q hT hrep hR hX hQ => wp_block (h1.2 X m a w _ hT hrep hR hX fun m' a' w' g => hQ m' a' w' g)⟩
        | ext id' =>
          simp only [cBlock] at h
          cases hb : Nat.beq id' id with
          | true =>
            rw [hb] at h; cases h
            have := beq_t hb
            exact ⟨h1.1, fun X m a w Q hT hrep hR hX hQ => wp_block (h1.2 X m a w _ hT hrep hR hX fun m' a' w' g => by
              show (if id' = id then Q .normal a' w' else _)
              rw [if_pos this]; exact hQ m' a' w' g)⟩
          | false =>
            rw [hb] at h; cases h
            have := beq_f hb
            exact ⟨h1.1, fun X m a w Q hT hrep hR hX hQ => wp_block (h1.2 X m a w _ hT hrep hR hX fun m' a' w' g => by
              show (if id' = id then _ else Q (.exit id') a' w')
              rw [if_neg this]; exact hQ m' a' w' g)⟩
    | loop b =>
      simp only [codeOk] at hc
      have h' : evC eo call N (n + 1) (.loop b) s = some (e, s') := h
      have hl := loop_ok (P := P) (M := n + 1) (fun n' hn' s e s' h hs => ihs n' hn' b s e s' h hc hs) (n + 1) (Nat.le_refl _) s e s' h' hs
      refine ⟨hl.1, fun X m a w Q hT hrep hR hX hQ fr k cs => ?_⟩
      obtain ⟨e', a', w', hq, harr⟩ := hl.2 X m a w Q hT hrep hR hX hQ fr k cs
      exact ⟨e', a', w', hq, .of_steps (.one step_loop) harr⟩
    | scope b =>
      simp only [codeOk] at hc
      have h1 := ih b s e s' h hc hs
      exact ⟨h1.1, fun X m a w Q hT hrep hR hX hQ => wp_scope_straight (h1.2 X m a w _ hT hrep hR hX fun m' a' w' g => noGoto_to (hQ m' a' w' g))⟩
    | goto l => cases h
    | rangeFunc f a b c => cases h
    | refuse w => cases h
end
end Go.Ev
