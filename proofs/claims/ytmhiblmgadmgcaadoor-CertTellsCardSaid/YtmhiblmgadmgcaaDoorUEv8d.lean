/- Code by the evaluator. Plain lemmas. -/
import Derived.Test.YtmhiblmgadmgcaaDoorU14
namespace Go.Ev
open Go
set_option linter.unusedVariables false
set_option linter.unusedSimpArgs false
set_option linter.unusedSectionVars false
variable [Env]
section
variable {F : Fence} {P : Program} {eo : Eo} {call : Cs} {N : Nat}
/-- A call of a function, as an operation makes it. -/
def Cw (P : Program) (f : FuncId) (A : Array Value) (w : World) (R : Value → World → Prop) : Prop :=
  (∃ V w', (callFunc f A).run P w = .ok (.value V) w' ∧ R V w') ∨ ((callFunc f A).run P w = .ok (.enter f A) w ∧ Calls P f A w fun e w' => ∃ V, e = .returned V ∧ R V w')
/-- What is asked of the calls' evaluator. -/
def CallAt (P : Program) (call : Cl) (f : FuncId) : Prop := ∀ args H nx u, call f args H nx = some u → Bnd H nx → Keep H nx u ∧
  ∀ (X : Nat → Prop) m w (A : Array Value), RelL m args A.toList → Pre P X m H nx u w →
    Cw P f A w fun V w' => ∃ m', Rel m' u.v V ∧ Mv u.W nx u.nx m w m' w' ∧ RepOn P (fun r => X r ∨ (nx ≤ r ∧ r < u.nx)) m' u.H.get w'
theorem callFunc_enter {f : FuncId} {fn : Func} {c : Code} (hf : P.funcs[f]? = some fn) (hb : fn.body = some c) (hn : callOk fn = true) (A : Array Value) (w : World) : (callFunc f A).run P w = .ok (.enter f A) w := by
  have h1 : fn.name ≠ "runtime.NumGoroutine" := by unfold callOk at hn; simpa using hn
  simp [callFunc, hf, hb, h1]
theorem hasB_ok {f : FuncId} (h : hasB P.funcs[f]? = true) (A : Array Value) (w : World) : (callFunc f A).run P w = .ok (.enter f A) w := by
  cases hf : P.funcs[f]? with
  | none => rw [hf] at h; cases h
  | some fn =>
    rw [hf] at h
    simp only [hasB] at h
    cases hb : fn.body with
    | none => rw [hb] at h; cases h
    | some c => rw [hb] at h; exact callFunc_enter hf hb h A w
/-- A function's marks among its deferred calls: blocks for the rounds' deferred calls, from B on. -/
def Mk (B : Nat) (w : World) (ds : List Deferred) : Prop := B ≤ w.heap.size ∧ ∃ Ds : List Nat, ds = Ds.map (fun D => { target := .collected D, args := #[] }) ∧ Ds.Nodup ∧ ∀ D ∈ Ds, B ≤ D ∧ w.heap[D]? = some (Obj.deferred (some []))
theorem Mk.kd {B : Nat} {w w' : World} {ds : List Deferred} (h : Mk B w ds) (hk : Kd w w') (hs : w.heap.size ≤ w'.heap.size) : Mk B w' ds := by
  obtain ⟨h0, Ds, h1, h2, h3⟩ := h
  exact ⟨Nat.le_trans h0 hs, Ds, h1, h2, fun D hD => ⟨(h3 D hD).1, hk D (h3 D hD).2⟩⟩
/-- A state's own order. -/
structure Sane (s : St) : Prop where
  bnd : Bnd s.H s.nx
  rb : ∀ r, s.R.testBit r = true → r < s.nx
  wr : ∀ r, s.W.testBit r = true → s.R.testBit r = true
/-- What a piece of code keeps. -/
structure KeepC (s s' : St) : Prop where
  le : s.nx ≤ s'.nx
  R : ∀ r, s.R.testBit r = true → s'.R.testBit r = true
  W : ∀ r, s.W.testBit r = true → s'.W.testBit r = true
  rd : ∀ r, s'.R.testBit r = true → s.R.testBit r = true ∨ s.H.get r ≠ none ∨ s.nx ≤ r
  wl : ∀ r, s'.W.testBit r = true → s.W.testBit r = true ∨ s.H.get r ≠ none ∨ s.nx ≤ r
  kp : ∀ r, s'.W.testBit r = false → r < s.nx → s'.H.get r = s.H.get r
  sane : Sane s'
theorem KeepC.refl {s : St} (h : Sane s) : KeepC s s := ⟨Nat.le_refl _, fun _ e => e, fun _ e => e, fun _ e => .inl e, fun _ e => .inl e, fun _ _ _ => rfl, h⟩
theorem KeepC.wl2 {a b : St} (h1 : KeepC a b) {r : Nat} (hr : b.W.testBit r = true ∨ b.H.get r ≠ none ∨ b.nx ≤ r) : a.W.testBit r = true ∨ a.H.get r ≠ none ∨ a.nx ≤ r := by
  rcases hr with hr | hr | hr
  · exact h1.wl r hr
  · cases hw : b.W.testBit r with
    | true => exact h1.wl r hw
    | false =>
      by_cases e : a.nx ≤ r
      · exact .inr (.inr e)
      · rw [h1.kp r hw (by omega)] at hr; exact .inr (.inl hr)
  · have := h1.le; exact .inr (.inr (by omega))
theorem KeepC.trans {a b c : St} (hs : Sane a) (h1 : KeepC a b) (h2 : KeepC b c) : KeepC a c := by
  have hW : ∀ r, c.W.testBit r = false → b.W.testBit r = false := fun r hr => by
    cases e : b.W.testBit r with
    | false => rfl
    | true => rw [h2.W r e] at hr; cases hr
  refine ⟨Nat.le_trans h1.le h2.le, fun r e => h2.R r (h1.R r e), fun r e => h2.W r (h1.W r e), fun r e => ?_, fun r e => h1.wl2 (h2.wl r e), fun r e hl => ?_, h2.sane⟩
  · rcases h2.rd r e with g | g
    · exact h1.rd r g
    · exact (h1.wl2 (.inr g)).imp (hs.wr r) id
  · have := h1.le
    rw [h2.kp r e (by omega), h1.kp r (hW r e) hl]
/-- What a run of code leaves behind. -/
def After (P : Program) (N : Nat) (X : Nat → Prop) (s s' : St) (m : Mp) (a : Act) (w : World) (m' : Mp) (a' : Act) (w' : World) : Prop :=
  TRel m' s'.T.get N a' ∧ (∀ B, Mk B w a.defers → Mk B w' a'.defers) ∧ RepOn P (fun r => X r ∨ (s.nx ≤ r ∧ r < s'.nx)) m' s'.H.get w' ∧ Mv s'.W s.nx s'.nx m w m' w'
def Exi.to : Exi → Exit
  | .nrm => .normal
  | .ext id => .exit id
  | .ret => .ret
/-- What a run does; G: from where. -/
def RunsTo (P : Program) (N : Nat) (G : (Exit → Act → World → Prop) → Act → World → Prop) (s : St) (e : Exi) (s' : St) : Prop :=
  ∀ (X : Nat → Prop) m a w (Q : Exit → Act → World → Prop), TRel m s.T.get N a → RepOn P X m s.H.get w → (∀ r, s'.R.testBit r = true → X r ∨ (s.nx ≤ r ∧ r < s'.nx)) → (∀ r, s.nx ≤ r → r < s'.nx → m r = none ∧ ¬ X r) →
    (∀ m' a' w', After P N X s s' m a w m' a' w' → Q e.to a' w') → G Q a w
/-- What a run of code does. -/
def CodeOk (F : Fence) (P : Program) (N : Nat) (c : Code) (s : St) (e : Exi) (s' : St) : Prop := KeepC s s' ∧ RunsTo P N (fun Q a w => c.wpIn F 0 P Q a w) s e s'
/-- What a run of a loop does, from a round's head on. -/
def LoopOk (F : Fence) (P : Program) (N : Nat) (c : Code) (s : St) (e : Exi) (s' : St) : Prop :=
  KeepC s s' ∧ RunsTo P N (fun Q a w => ∀ (b : Frame) (k : List Item) (cs : List Frame), b.roundOf = F.round → ∃ e a' w', Q e a' w' ∧ ArrivesIn (Machine.fenced P F) P (lone (b.atR a (.code c :: .inLoop c :: k)) cs w) b k cs e a' w') s e s'
theorem After.trans {X : Nat → Prop} {s s1 s2 : St} {m m1 m2 : Mp} {a a1 a2 : Act} {w w1 w2 : World} (k1 : KeepC s s1) (k2 : KeepC s1 s2) (h1 : After P N X s s1 m a w m1 a1 w1) (h2 : After P N (fun r => X r ∨ (s.nx ≤ r ∧ r < s1.nx)) s1 s2 m1 a1 w1 m2 a2 w2) : After P N X s s2 m a w m2 a2 w2 := by
  obtain ⟨t1, d1, r1, v1⟩ := h1
  obtain ⟨t2, d2, r2, v2⟩ := h2
  have l1 := k1.le; have l2 := k2.le
  refine ⟨t2, fun B h => d2 B (d1 B h), r2.sub P (fun r hr => ?_) fun _ _ => rfl, Mv.comp (v1.range (Nat.le_refl _) l2) (v2.range l1 (Nat.le_refl _)) (fun r e => k2.W r e) fun r e => e⟩
  rcases hr with hr | hr
  · exact .inl (.inl hr)
  · by_cases e : r < s1.nx
    · exact .inl (.inr ⟨hr.1, e⟩)
    · exact .inr ⟨by omega, hr.2⟩
/-- One piece of code behind another. -/
theorem CodeOk.then {x : Code} {G : (Exit → Act → World → Prop) → Act → World → Prop} {s s1 s2 : St} {e : Exi} (hs : Sane s) (h1 : CodeOk F P N x s .nrm s1) (k2 : KeepC s1 s2) (h2 : RunsTo P N G s1 e s2) {X : Nat → Prop} {m : Mp} {a : Act} {w : World} {Q : Exit → Act → World → Prop} {R : Exit → Act → World → Prop} (hT : TRel m s.T.get N a) (hrep : RepOn P X m s.H.get w)
    (hR : ∀ r, s2.R.testBit r = true → X r ∨ (s.nx ≤ r ∧ r < s2.nx)) (hX : ∀ r, s.nx ≤ r → r < s2.nx → m r = none ∧ ¬ X r)
    (hR1 : ∀ a' w', G Q a' w' → R .normal a' w')
    (hQ : ∀ m' a' w', After P N X s s2 m a w m' a' w' → Q e.to a' w')   : x.wpIn F 0 P R a w := by
  have l1 := h1.1.le; have l2 := k2.le
  refine h1.2 X m a w R hT hrep (fun r hr => ?_) (fun r ha hz => hX r ha (by omega)) fun m1 a1 w1 ha1 => hR1 _ _ ?_
  · rcases hR r (k2.R r hr) with g | g
    · exact .inl g
    · exact .inr ⟨g.1, h1.1.sane.rb r hr⟩
  · obtain ⟨t1, d1, r1, v1⟩ := ha1
    refine h2 _ m1 a1 w1 Q t1 r1 (fun r hr => ?_) (fun r ha hz => ?_) fun m2 a2 w2 ha2 => hQ _ _ _ (After.trans h1.1 k2 ⟨t1, d1, r1, v1⟩ ha2)
    · rcases hR r hr with g | g
      · exact .inl (.inl g)
      · by_cases e : r < s1.nx
        · exact .inl (.inr ⟨g.1, e⟩)
        · exact .inr ⟨by omega, g.2⟩
    · have hx := hX r (by omega) hz
      refine ⟨?_, fun e => e.elim hx.2 fun e => by omega⟩
      cases e : m1 r with
      | none => rfl
      | some L =>
        rcases v1.new r L e with g | ⟨_, g, _⟩
        · rw [hx.1] at g; cases g
        · omega
theorem CodeOk.here {c : Code} {s : St} (hs : Sane s) {e : Exi} (h : ∀ Q a w, Q e.to a w → c.wpIn F 0 P Q a w) : CodeOk F P N c s e s :=
  ⟨KeepC.refl hs, fun X m a w Q hT hrep _ _ hQ => h Q a w (hQ m a w ⟨hT, fun _ e => e, hrep.sub P (fun r hr => hr.elim id fun e => by omega) fun _ _ => rfl, (Mv.refl s.nx m w).more fun r L e => by simp at e⟩)⟩
theorem run_of {ops : Array Oper} {s s' : St} {l : List Inf} (hst : StepOk F P eo call) (hs : Sane s) (h : evOps eo call N ops ops.toList 0 s [] = some (s', l)) :
    ∃ (st : Nat → St) (us : Nat → Ou), st 0 = s ∧ st ops.size = s' ∧ Run F P eo call N ops st us ∧ l = ((List.range' 0 ops.size).map fun k => infOf k (st k) (us k)).reverse := by
  obtain ⟨st, us, h1, h2, h3, h4⟩ := evOps_trace ops.toList 0 s [] s' l h
  refine ⟨st, us, h1, by simpa using h2, ⟨fun k o ho => by simpa using h3 k o (by simpa using ho), hst, by rw [h1]; exact hs.bnd⟩, by simpa using h4⟩
theorem run_keep {ops : Array Oper} {st : Nat → St} {us : Nat → Ou} (h : Run F P eo call N ops st us) (hs : Sane (st 0)) : ∀ k, k ≤ ops.size → KeepC (st 0) (st k)
  | 0, _ => KeepC.refl hs
  | k + 1, hk => by
    have hks : k < ops.size := by omega
    have ih := run_keep h hs k (by omega)
    have h1 := h.at hks
    have h2 := h.keep hks
    refine ih.trans hs ⟨by rw [h1.nx]; exact h2.le, fun r e => by rw [h1.R]; exact or_l e, fun r e => by rw [h1.W]; exact or_l e, fun r e => ?_, fun r e => ?_, fun r e hl => ?_, ⟨h.bndAt (k + 1) hk, fun r e => ?_, fun r e => ?_⟩⟩
    · rw [h1.R, Nat.testBit_or, Bool.or_eq_true] at e
      exact e.imp id fun e => .inl (h2.rd r e)
    · rw [h1.W, Nat.testBit_or, Bool.or_eq_true] at e
      exact e.imp id fun e => .inl (h2.wr r e).2
    · rw [h1.W, Nat.testBit_or, Bool.or_eq_false_iff] at e
      rw [h1.H]; exact h2.kp r e.2 (by omega)
    · rw [h1.R, Nat.testBit_or, Bool.or_eq_true] at e
      rw [h1.nx]
      have := h2.le
      rcases e with e | e
      · have := ih.sane.rb r e; omega
      · have := h.rlt hks e; omega
    · rw [h1.W, Nat.testBit_or, Bool.or_eq_true] at e
      rw [h1.R]
      rcases e with e | e
      · exact or_l (ih.sane.wr r e)
      · exact or_r (h2.wr r e).1
theorem noGoto_to {Q : Exit → Act → World → Prop} {e : Exi} {a : Act} {w : World} (h : Q e.to a w) : Exit.noGoto Q e.to a w := by cases e <;> exact h
/-- A loop, round by round. -/
theorem loop_ok (hF : Wd F) {rd : Bool} {b : Code} {M : Nat} (body : ∀ n, n < M → ∀ s e s', evC eo call N rd n b s = some (e, s') → Sane s → CodeOk F P N b s e s') : ∀ n, n ≤ M → ∀ s e s', evC eo call N rd n (.loop b) s = some (e, s') → Sane s → LoopOk F P N b s e s'
  | 0, _, s, e, s', h, _ => by cases h
  | n + 1, hn, s, e, s', h, hs => by
    have h : cThen (evC eo call N rd n (.loop b)) (evC eo call N rd n b s) = some (e, s') := h
    cases hE : evC eo call N rd n b s with
    | none => rw [hE] at h; cases h
    | some p =>
      obtain ⟨e1, s1⟩ := p
      rw [hE] at h
      have h1 := body n (by omega) s e1 s1 hE hs
      have ends : ∀ e2 : Exi, e2 ≠ .nrm → e1 = e2 → some (e1, s1) = some (e, s') → LoopOk F P N b s e s' := by
        intro e2 hne he h
        cases h
        refine ⟨h1.1, fun X m a w Q hT hrep hR hX hQ fr k cs hro => ?_⟩
        obtain ⟨e', a', w', ⟨hq, hee⟩, harr⟩ := h1.2 X m a w (fun e' a' w' => Q e' a' w' ∧ e' = e.to) hT hrep hR hX (fun m' a' w' g => ⟨hQ m' a' w' g, rfl⟩) fr (.inLoop b :: k) cs hro (hF.ok _) (hF.room _)
        refine ⟨e', a', w', hq, .pass (x := .inLoop b) rfl (fun _ _ => .inl ?_) harr⟩
        subst he
        rw [hee]; cases e with
        | nrm => exact (hne rfl).elim
        | ext id => simp [Exi.to]
        | ret => simp [Exi.to]
      cases e1 with
      | nrm =>
        have h2 := loop_ok hF body n (by omega) s1 e s' h h1.1.sane
        refine ⟨h1.1.trans hs h2.1, fun X m a w Q hT hrep hR hX hQ fr k cs hro => ?_⟩
        have hw := CodeOk.then (R := fun e' a' w' => match e' with
          | .normal => ∀ (b' : Frame) (k : List Item) (cs : List Frame), b'.roundOf = F.round → ∃ e a'' w'', Q e a'' w'' ∧ ArrivesIn (Machine.fenced P F) P (lone (b'.atR a' (.code b :: .inLoop b :: k)) cs w') b' k cs e a'' w''
          | _ => False) hs h1 h2.1 h2.2 hT hrep hR hX (fun a' w' g => g) hQ
        obtain ⟨e', a', w', hq, harr⟩ := hw fr (.inLoop b :: k) cs hro (hF.ok _) (hF.room _)
        cases e' with
        | normal =>
          obtain ⟨e2, a2, w2, hq2, harr2⟩ := hq fr k cs hro
          exact ⟨e2, a2, w2, hq2, .of_steps (StepsIn.trans harr (.one (fenced_calm (n := 0) (hF.ok _) (hF.room _) rfl) stepR_inLoop)) harr2⟩
        | exit id => exact hq.elim
        | goto l => exact hq.elim
        | ret => exact hq.elim
        | panic ch => exact hq.elim
        | outgrown => exact hq.elim
      | ext id => exact ends _ (by simp) rfl h
      | ret => exact ends _ (by simp) rfl h
theorem stepR_scope {b : Frame} {a : Act} {k : List Item} {cs : List Frame} {w : World} {c : Code} : step P (lone (b.atR a (.code (.scope c) :: k)) cs w) = .next (lone (b.atR a (.code c :: .inScope c :: k)) cs w) :=
  step_lone_go (by simp [stepG, stepG.exec, Frame.atR])
theorem stepR_inScope {b : Frame} {a : Act} {k : List Item} {cs : List Frame} {w : World} {c : Code} : step P (lone (b.atR a (.inScope c :: k)) cs w) = .next (lone (b.atR a k) cs w) :=
  step_lone_go (by simp [stepG, stepG.exec, Frame.atR])
theorem wpIn_scope_straight {Q : Exit → Act → World → Prop} {a : Act} {w : World} {n : Nat} {c : Code} (h : c.wpIn F n P (Exit.noGoto Q) a w) : (Code.scope c).wpIn F n P Q a w := by
  intro b k cs hro hb hr
  have h0 : (lone (b.atR a (.code (.scope c) :: k)) cs w).fenced P F := fenced_calm hb hr rfl
  obtain ⟨e, a₁, w₁, hq, harr⟩ := h b (.inScope c :: k) cs hro hb hr
  cases e with
  | normal => exact ⟨.normal, a₁, w₁, hq, .head h0 stepR_scope (StepsIn.trans harr (.one (fenced_calm hb hr rfl) stepR_inScope))⟩
  | exit id =>
    have hx : exitTo id (.inScope c :: k) = exitTo id k := by simp [exitTo]
    exact ⟨.exit id, a₁, w₁, hq, fun k' hk => .head h0 stepR_scope (harr.1 k' (by rw [hx]; exact hk)),
      fun hr' hk => let ⟨k₁, h1, h2⟩ := harr.2 hr' (by rw [hx]; exact hk); ⟨k₁, h1, .head h0 stepR_scope h2⟩⟩
  | goto l => exact hq.elim
  | ret => exact ⟨_, a₁, w₁, hq, .of_steps (.one h0 stepR_scope) harr⟩
  | panic ch => exact ⟨_, a₁, w₁, hq, .of_steps (.one h0 stepR_scope) harr⟩
  | outgrown => exact ⟨_, a₁, w₁, hq, .of_steps (.one h0 stepR_scope) harr⟩
theorem rep_new {X : Nat → Prop} {H : Tr AO} {nx : Nat} {o : AO} {m : Mp} {w w' : World} {L : Loc} (hrep : RepOn P X m H.get w) (hm : m nx = none) (hx : ¬ X nx) (hsz : w.heap.size ≤ w'.heap.size) (hold : ∀ b, b < w.heap.size → w'.heap[b]? = w.heap[b]?)
    (ho1 : w'.os = w.os) (ho2 : w'.tape = w.tape) (ho3 : w'.output = w.output) (hL : w.heap.size ≤ L.block) (ho : RepO P (upd m nx L) L o w') :
    Mv 0 nx (nx + 1) m w (upd m nx L) w' ∧ RepOn P (fun r => X r ∨ r = nx) (upd m nx L) (H.set nx (some o)).get w' := by
  have hext := upd_ext (L := L) hm
  have hmv : Mv 0 nx (nx + 1) m w (upd m nx L) w' := by
    refine ⟨hext, fun r L' e => ?_, hsz, fun b hb _ => hold b hb, ho1, ho2, ho3⟩
    unfold upd at e
    by_cases hr : r = nx
    · subst hr
      rw [if_pos rfl] at e; cases e
      exact .inr ⟨Nat.le_refl _, Nat.lt_succ_self _, .inl hL⟩
    · rw [if_neg hr] at e; exact .inl e
  have hget : ∀ r, r ≠ nx → (H.set nx (some o)).get r = H.get r := fun r hr => by rw [Tr.get_set, if_neg hr]
  have old : ∀ r o', X r → H.get r = some o' → ∃ L', m r = some L' ∧ RepO P (upd m nx L) L' o' w' ∧ L'.block < w.heap.size := fun r o' hr ho' => by
    obtain ⟨L', g1, g2⟩ := hrep.rep r o' hr ho'
    exact ⟨L', g1, g2.keep P hext (hold _ g2.lt), g2.lt⟩
  refine ⟨hmv, fun r o' hr ho' => ?_, fun r r' L1 L2 h1 h2 h3 h4 hne e1 e2 => ?_, Env.st hrep.env hmv⟩
  · by_cases hr' : r = nx
    · subst hr'
      simp only [Tr.get_set, if_pos] at ho'
      cases ho'
      exact ⟨L, upd_self _ _ _, ho⟩
    · have hx : X r := hr.resolve_right hr'
      rw [hget r hr'] at ho'
      obtain ⟨L', g1, g2, _⟩ := old r o' hx ho'
      exact ⟨L', hext _ _ g1, g2⟩
  · have key : ∀ q L', q ≠ nx → (X q ∨ q = nx) → (H.set nx (some o)).get q ≠ none → upd m nx L q = some L' → X q ∧ H.get q ≠ none ∧ m q = some L' ∧ L'.block < w.heap.size := by
      intro q L' hq hx hn e
      have hx : X q := hx.resolve_right hq
      rw [hget q hq] at hn
      obtain ⟨o', ho'⟩ := Option.ne_none_iff_exists'.1 hn
      obtain ⟨L'', g1, _, g3⟩ := old q o' hx ho'
      have e' : m q = some L' := by unfold upd at e; rw [if_neg hq] at e; exact e
      rw [e'] at g1; cases g1
      exact ⟨hx, hn, e', g3⟩
    by_cases hr : r = nx
    · subst hr
      rw [upd_self] at e1; cases e1
      obtain ⟨_, _, _, g⟩ := key r' L2 (fun e => hne e.symm) h2 h4 e2
      omega
    · obtain ⟨a1, a2, a3, a4⟩ := key r L1 hr h1 h3 e1
      by_cases hr' : r' = nx
      · subst hr'
        rw [upd_self] at e2; cases e2
        omega
      · obtain ⟨b1, b2, b3, b4⟩ := key r' L2 hr' h2 h4 e2
        exact hrep.inj r r' L1 L2 a1 b1 a2 b2 hne a3 b3
theorem rep_set {X : Nat → Prop} {H : Tr AO} {nx r : Nat} {o o' : AO} {m : Mp} {w w' : World} {L : Loc} (hrep : RepOn P X m H.get w) (hX : X r) (hr : H.get r = some o) (hL : m r = some L) (hw : Wrote1 L.block w w') (ho : RepO P m L o' w') :
    Mv (bit r) nx nx m w m w' ∧ RepOn P X m (H.set r (some o')).get w' := by
  have hmv : Mv (bit r) nx nx m w m w' := ⟨fun _ _ e => e, fun _ _ e => .inl e, by have := hw.size; omega, fun b hb hn => hw.old b fun e => hn r L (bit_self r) hL e.symm, hw.os, hw.tape, hw.output⟩
  refine ⟨hmv, fun q oq hx ho' => ?_, fun q q' L1 L2 hx hx' h3 h4 hne e1 e2 => ?_, Env.st hrep.env hmv⟩
  · simp only [Tr.get_set] at ho'
    by_cases e : q = r
    · subst e
      rw [if_pos rfl] at ho'; cases ho'
      exact ⟨L, hL, ho⟩
    · rw [if_neg e] at ho'
      obtain ⟨L', g1, g2⟩ := hrep.rep q oq hx ho'
      exact ⟨L', g1, g2.keep P (fun _ _ e => e) (hw.old _ (hrep.inj q r L' L hx hX (by rw [ho']; simp) (by rw [hr]; simp) e g1 hL))⟩
  · have live : ∀ k, (H.set r (some o')).get k ≠ none → H.get k ≠ none := fun k hk => by
      rw [Tr.get_set] at hk
      by_cases e : k = r
      · subst e; rw [hr]; simp
      · rw [if_neg e] at hk; exact hk
    exact hrep.inj q q' L1 L2 hx hx' (live q h3) (live q' h4) hne e1 e2
theorem evx_rel {m : Mp} {T : Tr AV} {a : Act} (hT : TRel m T.get N a) {x : Operand} {v : AV} (h : evx T x = some v) : Rel m v (a.eval x) := by
  cases x with
  | tmp t =>
    obtain ⟨V, h1, h2⟩ := hT.2 t v h
    have : a.eval (.tmp t) = V := by
      show a.tmps.getD t undef = V
      rw [Array.getD_eq_getD_getElem?, h1]; rfl
    rw [this]; exact h2
  | const c => exact absV_rel m h
  | global g => cases h
  | func f =>
    cases h
    exact .f_of (A := #[]) (B := #[]) (.nil m) (.nil m)
theorem lst_busy {st : Nat} (h : Nat.beq st 1 = false) : lst st ≠ .busy := by
  have := beq_f h
  intro e
  match st, this, e with
  | 0, _, e => cases e
  | 1, h, _ => exact h rfl
  | 2, _, e => cases e
  | n + 3, _, e => cases e
theorem wrote_put {w : World} {b : Nat} {o : Obj} : Wrote1 b w (w.putObj b o) := ⟨World.putObj_size, fun k hk => World.putObj_heap_other hk, rfl, rfl, rfl⟩
/-- A range over a function. -/
theorem rangeF_ok {ec : Ec} (hcf : ∀ f, CallAt P call.f f) (hcc : ∀ f, call.c f = true → hasB P.funcs[f]? = true) {s s' : St} (hs : Sane s) {g : Operand} {ps : Array Tmp} {a b : Code} {e : Exi} (ca : codeOk a = true) (cb : codeOk b = true)
    (h : cStep eo call N false ec s (.rangeFunc g ps a b) = some (e, s')) : CodeOk Fence.wide P N (.rangeFunc g ps a b) s e s' := by
  have h : cRange call N s ps.toList a b (evx s.T g) = some (e, s') := h
  unfold cRange at h
  split at h
  · rename_i v hv
    split at h
    · rename_i fn first cap
      split at h
      · rename_i f
        split at h
        · rename_i hc
          generalize hU : call.f f (first ++ [.y s.nx] ++ cap) (s.H.set s.nx (some (.lp s.T N ps.toList a b 0 none))) (s.nx + 1) = ou at h
          cases ou with
          | none => cases h
          | some u =>
            simp only [cRangeE] at h
            split at h
            · rename_i T' N' ps' a' b' st jp hrow
              split at h
              · cases h
              · rename_i hst
                cases h
                have hb1 : Bnd (s.H.set s.nx (some (.lp s.T N ps.toList a b 0 none))) (s.nx + 1) := fun r hr => by
                  rw [Tr.get_set] at hr
                  by_cases e : r = s.nx
                  · omega
                  · rw [if_neg e] at hr; have := hs.bnd r hr; omega
                obtain ⟨hk, hcall⟩ := hcf f _ _ _ u hU hb1
                have hle := hk.le
                have liveR : ∀ r, u.R.testBit r = true → r = s.nx ∨ (r < s.nx ∧ s.H.get r ≠ none) := fun r hr => by
                  have hl := hk.rd r hr
                  have hlt := hb1 r hl
                  rw [Tr.get_set] at hl
                  by_cases e : r = s.nx
                  · exact .inl e
                  · rw [if_neg e] at hl; exact .inr ⟨by omega, hl⟩
                have or3 : ∀ {x y z r : Nat}, (x ||| (y ||| z)).testBit r = true → x.testBit r = true ∨ y.testBit r = true ∨ z.testBit r = true := fun {x y z r} e => by
                  rw [Nat.testBit_or, Nat.testBit_or, Bool.or_eq_true, Bool.or_eq_true] at e; exact e
                have isnx : ∀ r, (bit s.nx).testBit r = true → r = s.nx := fun r e => by rw [bit_tb] at e; exact of_decide_eq_true e
                have hkc : KeepC s ⟨s.T, u.H.set s.nx (some (.lp T' N' ps' a' b' 3 jp)), u.nx, s.R ||| (u.R ||| bit s.nx), s.W ||| (u.W ||| bit s.nx)⟩ := by
                  refine ⟨by show s.nx ≤ u.nx; omega, fun r e => or_l e, fun r e => or_l e, fun r e => ?_, fun r e => ?_, fun r e hl => ?_, ⟨fun r hr => ?_, fun r e => ?_, fun r e => ?_⟩⟩
                  · rcases or3 e with e | e | e
                    · exact .inl e
                    · rcases liveR r e with e | e
                      · exact .inr (.inr (by omega))
                      · exact .inr (.inl e.2)
                    · have := isnx r e; exact .inr (.inr (by omega))
                  · rcases or3 e with e | e | e
                    · exact .inl e
                    · rcases liveR r (hk.wr r e).1 with e | e
                      · exact .inr (.inr (by omega))
                      · exact .inr (.inl e.2)
                    · have := isnx r e; exact .inr (.inr (by omega))
                  · have e : (s.W ||| (u.W ||| bit s.nx)).testBit r = false := e
                    rw [Nat.testBit_or, Nat.testBit_or, Bool.or_eq_false_iff, Bool.or_eq_false_iff] at e
                    show (u.H.set s.nx _).get r = s.H.get r
                    rw [Tr.get_set, if_neg (by omega), hk.kp r e.2.1 (by omega), Tr.get_set, if_neg (by omega)]
                  · show r < u.nx
                    have hr : (u.H.set s.nx _).get r ≠ none := hr
                    rw [Tr.get_set] at hr
                    by_cases e : r = s.nx
                    · omega
                    · rw [if_neg e] at hr; exact hk.bnd hb1 r hr
                  · show r < u.nx
                    rcases or3 e with e | e | e
                    · have := hs.rb r e; omega
                    · rcases liveR r e with e | e <;> omega
                    · have := isnx r e; omega
                  · rcases or3 e with e | e | e
                    · exact or_l (hs.wr r e)
                    · exact or_r (or_l (hk.wr r e).1)
                    · exact or_r (or_r e)
                refine ⟨hkc, fun X m a0 w Q hT hrep hR hX hQ => wpIn_rangeFunc fun fn _ => ?_⟩
                have hm0 := hX s.nx (Nat.le_refl _) (by show s.nx < u.nx; omega)
                have hfv := evx_rel hT hv
                generalize hgv : a0.eval g = GV at hfv
                cases hfv with
                | f _ _ _ A B hA1 hB1 hA2 hB2 =>
                  have hAr : RelL m first A.toList := ⟨hA1, hA2⟩
                  have hBr : RelL m cap B.toList := ⟨hB1, hB2⟩
                  obtain ⟨w1, hw1⟩ : ∃ w1, w1 = (w.alloc (.deferred (some []))).alloc (.loop { state := .ready, pending := none, fn := fn, tmps := a0.tmps, params := ps, assign := a, body := b, defers := w.heap.size }) := ⟨_, rfl⟩
                  have hsz1 : w1.heap.size = w.heap.size + 2 := by rw [hw1, World.size_alloc, World.size_alloc]
                  have hold1 : ∀ k, k < w.heap.size → w1.heap[k]? = w.heap[k]? := fun k hk => by
                    rw [hw1]
                    show ((w.heap.push _).push _)[k]? = _
                    rw [Array.getElem?_push_lt (by simp; omega), ← Array.getElem?_eq_getElem, Array.getElem?_push_lt hk, ← Array.getElem?_eq_getElem]
                  have hloop1 : w1.heap[w.heap.size + 1]? = some (.loop { state := .ready, pending := none, fn := fn, tmps := a0.tmps, params := ps, assign := a, body := b, defers := w.heap.size }) := by
                    rw [hw1]
                    have := World.alloc_heap_new (w.alloc (.deferred (some []))) (.loop { state := .ready, pending := none, fn := fn, tmps := a0.tmps, params := ps, assign := a, body := b, defers := w.heap.size })
                    simpa [World.size_alloc] using this
                  have hdef1 : w1.heap[w.heap.size]? = some (Obj.deferred (some [])) := by
                    rw [hw1]
                    show ((w.heap.push _).push _)[w.heap.size]? = _
                    rw [Array.getElem?_push_lt (by simp), ← Array.getElem?_eq_getElem]; simp
                  have hext := upd_ext (L := ⟨w.heap.size + 1, 0, 0⟩) hm0.1
                  obtain ⟨hmv1, hrep1⟩ := rep_new (P := P) (w' := w1) (o := .lp s.T N ps.toList a b 0 none) (L := ⟨w.heap.size + 1, 0, 0⟩) hrep hm0.1 hm0.2 (by omega) hold1 (by rw [hw1]; rfl) (by rw [hw1]; rfl) (by rw [hw1]; rfl) (by simp)
                    ⟨ca, cb, _, hloop1, rfl, rfl, rfl, rfl, rfl, hT.1, fun t v e => let ⟨V, g1, g2⟩ := hT.2 t v e; ⟨V, g1, g2.mono hext⟩⟩
                  have hargs : RelL (upd m s.nx ⟨w.heap.size + 1, 0, 0⟩) (first ++ [.y s.nx] ++ cap) ((A ++ #[Value.func (.yield (w.heap.size + 1)) #[] #[]]) ++ B).toList := by
                    rw [Array.toList_append, Array.toList_append]
                    exact ((hAr.mono hext).append (.cons (.y s.nx _ (upd_self _ _ _)) (.nil _))).append (hBr.mono hext)
                  have hRx : ∀ r, u.R.testBit r = true → X r ∨ r = s.nx := fun r hr => by
                    rcases liveR r hr with e | e
                    · exact .inr e
                    · rcases hR r (or_r (or_l hr)) with g | g
                      · exact .inl g
                      · have g1 : s.nx ≤ r := g.1; omega
                  have hpre : Pre P (fun r => X r ∨ r = s.nx) (upd m s.nx ⟨w.heap.size + 1, 0, 0⟩) (s.H.set s.nx (some (.lp s.T N ps.toList a b 0 none))) (s.nx + 1) u w1 := by
                    refine ⟨hrep1, hRx, fun r h1 h2 => ?_⟩
                    have := hX r (by omega) h2
                    refine ⟨by unfold upd; rw [if_neg (by omega)]; exact this.1, fun e => e.elim this.2 fun e => by omega⟩
                  refine ⟨w.heap.size + 1, [{ target := .collected w.heap.size, args := #[] }], w1, { target := .fn (.func f) B, args := A ++ #[Value.func (.yield (w.heap.size + 1)) #[] #[]] }, w1, f, (A ++ #[Value.func (.yield (w.heap.size + 1)) #[] #[]]) ++ B, w1,
                    by rw [hw1]; exact run_enterLoop_outer _ _ _ _ _, ?_, fun _ _ => trivial, hasB_ok (hcc f hc) _ _, (fun e => by cases e), callsIn_wide.2 ?_⟩
                  · simp only [resolve, rangeCall, hgv, Deferred.ofValue, List.map_toArray, List.map_cons, List.map_nil]
                    rfl
                  rcases hcall _ _ w1 _ hargs hpre with ⟨V, w', e1, _⟩ | ⟨_, hcl⟩
                  · rw [hasB_ok (hcc f hc)] at e1; cases e1
                  · refine hcl.mono fun e' w2 => ?_
                    rintro ⟨V, rfl, m2, hv2, hmv2, hrep2⟩
                    have hm2 : m2 s.nx = some ⟨w.heap.size + 1, 0, 0⟩ := hmv2.ext _ _ (upd_self _ _ _)
                    obtain ⟨L', g1, g2⟩ := hrep2.rep s.nx _ (.inl (.inr rfl)) hrow
                    rw [hm2] at g1; cases g1
                    obtain ⟨c1, c2, r, h1, h2, h3, h4, h5, h6, h7, h8⟩ := g2
                    have hend := run_endLoop (P := P) h1 (by rw [h5]; exact lst_busy hst)
                    obtain ⟨hmv3, hrep3⟩ := rep_set (P := P) (nx := u.nx) (o' := .lp T' N' ps' a' b' 3 jp) hrep2 (.inl (.inr rfl)) hrow hm2 (wrote_put (o := .loop { r with state := .exhausted }))
                      ⟨c1, c2, _, World.putObj_heap_same (Array.getElem?_eq_some_iff.1 h1).1, h2, h3, h4, rfl, h6, h7, h8⟩
                    obtain ⟨w3, hw3⟩ : ∃ w3, w3 = w2.putObj (w.heap.size + 1) (.loop { r with state := .exhausted }) := ⟨_, rfl⟩
                    refine ⟨r.pending, w3, by rw [hw3]; exact hend, ?_⟩
                    have hkd : Kd w1 (w2.putObj (w.heap.size + 1) (.loop { r with state := .exhausted })) := fun D e => by
                      have e2 := kd_of hk hRx hrep1 hmv2 D e
                      rw [World.putObj_heap_other fun e => ?_]
                      · exact e2
                      · subst e; rw [h1] at e2; cases e2
                    have hA : After P N X s ⟨s.T, u.H.set s.nx (some (.lp T' N' ps' a' b' 3 jp)), u.nx, s.R ||| (u.R ||| bit s.nx), s.W ||| (u.W ||| bit s.nx)⟩ m a0 w m2 { a0 with defers := [{ target := .collected w.heap.size, args := #[] }] ++ a0.defers } (w2.putObj (w.heap.size + 1) (.loop { r with state := .exhausted })) := by
                      refine ⟨⟨hT.1, fun t v e => let ⟨V, g1, g2⟩ := hT.2 t v e; ⟨V, g1, (g2.mono hext).mono hmv2.ext⟩⟩, fun B hB => ?_, hrep3.sub P (fun q hq => ?_) fun _ _ => rfl, ?_⟩
                      · obtain ⟨h0, Ds, q1, q2, q3⟩ := hB
                        refine ⟨?_, w.heap.size :: Ds, by simp [q1], ?_, fun D hD => ?_⟩
                        · have := hmv2.size; rw [World.putObj_size]; omega
                        · exact List.nodup_cons.2 ⟨fun hD => by have := (Array.getElem?_eq_some_iff.1 (q3 _ hD).2).1; omega, q2⟩
                        · rcases List.mem_cons.1 hD with e | hD
                          · subst e; exact ⟨h0, hkd _ hdef1⟩
                          · have hD3 := q3 D hD
                            exact ⟨hD3.1, hkd D (by rw [hold1 D (Array.getElem?_eq_some_iff.1 hD3.2).1]; exact hD3.2)⟩
                      · rcases hq with hq | hq
                        · exact .inl (.inl hq)
                        · have q1 : s.nx ≤ q := hq.1
                          have q2 : q < u.nx := hq.2
                          by_cases e : q = s.nx
                          · exact .inl (.inr e)
                          · exact .inr ⟨by omega, q2⟩
                      · refine Mv.comp (W1 := 0) (W2 := u.W ||| bit s.nx) (hmv1.range (Nat.le_refl _) hle) (Mv.comp (W := u.W ||| bit s.nx) (hmv2.range (by omega) (Nat.le_refl _)) (hmv3.range (by omega) (Nat.le_refl _)) (fun r e => or_l e) fun r e => or_r e) (fun r e => by simp at e) fun r e => or_r e
                    rw [← hw3] at hA
                    rw [h6]
                    cases jp with
                    | none => exact hQ m2 _ _ hA
                    | some j => cases j with
                      | none => exact wpIn_ret (hQ m2 _ _ hA)
                      | some id => exact wpIn_exit (hQ m2 _ _ hA)
            · cases h
        · cases h
      · cases h
    · cases h
  · cases h
/-- What a range over a function keeps. -/
theorem rangeF_keep {ec : Ec} (hcf : ∀ f, CallAt P call.f f) {s s' : St} (hs : Sane s) {g : Operand} {ps : Array Tmp} {a b : Code} {e : Exi}
    (h : cStep eo call N false ec s (.rangeFunc g ps a b) = some (e, s')) : KeepC s s' := by
  have h : cRange call N s ps.toList a b (evx s.T g) = some (e, s') := h
  unfold cRange at h
  split at h
  · rename_i v hv
    split at h
    · rename_i fn first cap
      split at h
      · rename_i f
        split at h
        · rename_i hc
          generalize hU : call.f f (first ++ [.y s.nx] ++ cap) (s.H.set s.nx (some (.lp s.T N ps.toList a b 0 none))) (s.nx + 1) = ou at h
          cases ou with
          | none => cases h
          | some u =>
            simp only [cRangeE] at h
            split at h
            · rename_i T' N' ps' a' b' st jp hrow
              split at h
              · cases h
              · rename_i hst
                cases h
                have hb1 : Bnd (s.H.set s.nx (some (.lp s.T N ps.toList a b 0 none))) (s.nx + 1) := fun r hr => by
                  rw [Tr.get_set] at hr
                  by_cases e : r = s.nx
                  · omega
                  · rw [if_neg e] at hr; have := hs.bnd r hr; omega
                obtain ⟨hk, hcall⟩ := hcf f _ _ _ u hU hb1
                have hle := hk.le
                have liveR : ∀ r, u.R.testBit r = true → r = s.nx ∨ (r < s.nx ∧ s.H.get r ≠ none) := fun r hr => by
                  have hl := hk.rd r hr
                  have hlt := hb1 r hl
                  rw [Tr.get_set] at hl
                  by_cases e : r = s.nx
                  · exact .inl e
                  · rw [if_neg e] at hl; exact .inr ⟨by omega, hl⟩
                have or3 : ∀ {x y z r : Nat}, (x ||| (y ||| z)).testBit r = true → x.testBit r = true ∨ y.testBit r = true ∨ z.testBit r = true := fun {x y z r} e => by
                  rw [Nat.testBit_or, Nat.testBit_or, Bool.or_eq_true, Bool.or_eq_true] at e; exact e
                have isnx : ∀ r, (bit s.nx).testBit r = true → r = s.nx := fun r e => by rw [bit_tb] at e; exact of_decide_eq_true e
                have hkc : KeepC s ⟨s.T, u.H.set s.nx (some (.lp T' N' ps' a' b' 3 jp)), u.nx, s.R ||| (u.R ||| bit s.nx), s.W ||| (u.W ||| bit s.nx)⟩ := by
                  refine ⟨by show s.nx ≤ u.nx; omega, fun r e => or_l e, fun r e => or_l e, fun r e => ?_, fun r e => ?_, fun r e hl => ?_, ⟨fun r hr => ?_, fun r e => ?_, fun r e => ?_⟩⟩
                  · rcases or3 e with e | e | e
                    · exact .inl e
                    · rcases liveR r e with e | e
                      · exact .inr (.inr (by omega))
                      · exact .inr (.inl e.2)
                    · have := isnx r e; exact .inr (.inr (by omega))
                  · rcases or3 e with e | e | e
                    · exact .inl e
                    · rcases liveR r (hk.wr r e).1 with e | e
                      · exact .inr (.inr (by omega))
                      · exact .inr (.inl e.2)
                    · have := isnx r e; exact .inr (.inr (by omega))
                  · have e : (s.W ||| (u.W ||| bit s.nx)).testBit r = false := e
                    rw [Nat.testBit_or, Nat.testBit_or, Bool.or_eq_false_iff, Bool.or_eq_false_iff] at e
                    show (u.H.set s.nx _).get r = s.H.get r
                    rw [Tr.get_set, if_neg (by omega), hk.kp r e.2.1 (by omega), Tr.get_set, if_neg (by omega)]
                  · show r < u.nx
                    have hr : (u.H.set s.nx _).get r ≠ none := hr
                    rw [Tr.get_set] at hr
                    by_cases e : r = s.nx
                    · omega
                    · rw [if_neg e] at hr; exact hk.bnd hb1 r hr
                  · show r < u.nx
                    rcases or3 e with e | e | e
                    · have := hs.rb r e; omega
                    · rcases liveR r e with e | e <;> omega
                    · have := isnx r e; omega
                  · rcases or3 e with e | e | e
                    · exact or_l (hs.wr r e)
                    · exact or_r (or_l (hk.wr r e).1)
                    · exact or_r (or_r e)
                exact hkc
            · cases h
        · cases h
      · cases h
    · cases h
  · cases h
theorem evC_keep (hcf : ∀ f, CallAt P call.f f) (hst : StepOk F P eo call) {rd : Bool} (n : Nat) : ∀ (c : Code) (s : St) (e : Exi) (s' : St), evC eo call N rd n c s = some (e, s') → Sane s → KeepC s s' := by
  induction n using Nat.strongRecOn with
  | _ n ihs =>
    intro c s e s' h hs
    cases n with
    | zero => cases h
    | succ n =>
    have h : cStep eo call N rd (evC eo call N rd n) s c = some (e, s') := h
    have ih := ihs n (Nat.lt_succ_self n)
    have thn : ∀ (x y : Code), cThen (evC eo call N rd n y) (evC eo call N rd n x s) = some (e, s') → KeepC s s' := by
      intro x y h
      cases hE : evC eo call N rd n x s with
      | none => rw [hE] at h; cases h
      | some p =>
        obtain ⟨e1, s1⟩ := p
        rw [hE] at h
        have h1 := ih x s e1 s1 hE hs
        cases e1 with
        | nrm => exact h1.trans hs (ih y s1 e s' h h1.sane)
        | ext id => cases h; exact h1
        | ret => cases h; exact h1
    cases c with
    | skip => cases h; exact KeepC.refl hs
    | label l => cases h; exact KeepC.refl hs
    | exit id => cases h; exact KeepC.refl hs
    | ret => cases h; exact KeepC.refl hs
    | region id ops d =>
      simp only [cStep] at h
      cases hE : evOps eo call N ops ops.toList 0 s [] with
      | none => cases d <;> simp only [cReg] at h <;> rw [hE] at h <;> cases h
      | some p =>
        obtain ⟨s1, l⟩ := p
        obtain ⟨st, us, e1, e2, hr, _⟩ := run_of hst hs hE
        have hk := run_keep hr (by rw [e1]; exact hs) ops.size (Nat.le_refl _)
        rw [e1, e2] at hk
        cases d with
        | false => simp only [cReg] at h; rw [hE] at h; cases h; exact hk
        | true =>
          simp only [cReg] at h; rw [hE] at h
          simp only [cDraw] at h
          split at h
          · cases h; exact hk
          · cases h
    | seq x y => exact thn x y h
    | cond c x y =>
      simp only [cStep] at h
      cases hE : evx s.T c with
      | none => rw [hE] at h; cases h
      | some v =>
        rw [hE] at h
        cases v <;> try (cases h)
        rename_i b
        cases b with
        | true => exact ih x s e s' h hs
        | false => exact ih y s e s' h hs
    | block id b =>
      simp only [cStep] at h
      cases hE : evC eo call N rd n b s with
      | none => rw [hE] at h; cases h
      | some p =>
        obtain ⟨e1, s1⟩ := p
        rw [hE] at h
        have h1 := ih b s e1 s1 hE hs
        cases e1 with
        | nrm => cases h; exact h1
        | ret => cases h; exact h1
        | ext id' =>
          simp only [cBlock] at h
          cases hb : Nat.beq id' id with
          | true => rw [hb] at h; cases h; exact h1
          | false => rw [hb] at h; cases h; exact h1
    | loop b => exact thn b (.loop b) h
    | scope b => exact ih b s e s' h hs
    | goto l => cases h
    | rangeFunc g ps a b =>
      cases rd with
      | true => cases h
      | false => exact rangeF_keep hcf hs h
    | refuse w => cases h
/-- The evaluator of code is right. -/
theorem evC_ok (hF : Wd F) {rd : Bool} (hrd : rd = false → F = Fence.wide) (hcf : ∀ f, CallAt P call.f f) (hcc : ∀ f, call.c f = true → hasB P.funcs[f]? = true) (hst : StepOk F P eo call) (hm : P.follows .mixedOrders = true) (n : Nat) : ∀ (c : Code) (s : St) (e : Exi) (s' : St), evC eo call N rd n c s = some (e, s') → codeOk c = true → Sane s → CodeOk F P N c s e s' := by
  induction n using Nat.strongRecOn with
  | _ n ihs =>
    intro c s e s' h hc hs
    cases n with
    | zero => cases h
    | succ n =>
    have h : cStep eo call N rd (evC eo call N rd n) s c = some (e, s') := h
    have ih := ihs n (Nat.lt_succ_self n)
    cases c with
    | skip => cases h; exact CodeOk.here hs fun Q a w => wpIn_skip
    | label l => cases h; exact CodeOk.here hs fun Q a w => wpIn_label
    | exit id => cases h; exact CodeOk.here hs fun Q a w => wpIn_exit
    | ret => cases h; exact CodeOk.here hs fun Q a w => wpIn_ret
    | region id ops d =>
      cases d with
      | false =>
        simp only [cStep, cReg] at h
        cases hE : evOps eo call N ops ops.toList 0 s [] with
        | none => rw [hE] at h; cases h
        | some p =>
          obtain ⟨s1, l⟩ := p
          rw [hE] at h
          cases h
          obtain ⟨st, us, e1, e2, hr, _⟩ := run_of hst hs hE
          have hk := run_keep hr (by rw [e1]; exact hs) ops.size (Nat.le_refl _)
          rw [e1, e2] at hk
          refine ⟨hk, fun X m a w Q hT hrep hR hX hQ => ?_⟩
          subst e1; subst e2
          exact text_ok hF hr hT hrep hR hX fun m' a' w' g1 g2 g3 g4 => hQ m' a' w' ⟨g1, fun B hB => by rw [g2.1]; exact hB.kd g2.2 g4.size, g3, g4⟩
      | true =>
        simp only [cStep, cReg] at h
        cases hE : evOps eo call N ops ops.toList 0 s [] with
        | none => rw [hE] at h; cases h
        | some p =>
          obtain ⟨s1, l⟩ := p
          rw [hE] at h
          simp only [cDraw] at h
          split at h
          · rename_i hck
            cases h
            obtain ⟨st, us, e1, e2, hr, hl⟩ := run_of hst hs hE
            have hk := run_keep hr (by rw [e1]; exact hs) ops.size (Nat.le_refl _)
            rw [e1, e2] at hk
            refine ⟨hk, fun X m a w Q hT hrep hR hX hQ => ?_⟩
            subst e1; subst e2
            rw [hl] at hck
            exact draw_ok hF hm hr (by simpa [codeOk] using hc) hck hT hrep hR hX fun m' a' w' g1 g2 g3 g4 => hQ m' a' w' ⟨g1, fun B hB => by rw [g2.1]; exact hB.kd g2.2 g4.size, g3, g4⟩
          · cases h
    | seq x y =>
      simp only [codeOk, Bool.and_eq_true] at hc
      simp only [cStep] at h
      cases hE : evC eo call N rd n x s with
      | none => rw [hE] at h; cases h
      | some p =>
        obtain ⟨e1, s1⟩ := p
        rw [hE] at h
        have h1 := ih x s e1 s1 hE hc.1 hs
        cases e1 with
        | nrm =>
          have h2 := ih y s1 e s' h hc.2 h1.1.sane
          refine ⟨h1.1.trans hs h2.1, fun X m a w Q hT hrep hR hX hQ => wpIn_seq ?_⟩
          exact CodeOk.then hs h1 h2.1 h2.2 hT hrep hR hX (fun a' w' g => g) hQ
        | ext id => cases h; exact ⟨h1.1, fun X m a w Q hT hrep hR hX hQ => wpIn_seq (h1.2 X m a w _ hT hrep hR hX fun m' a' w' g => hQ m' a' w' g)⟩
        | ret => cases h; exact ⟨h1.1, fun X m a w Q hT hrep hR hX hQ => wpIn_seq (h1.2 X m a w _ hT hrep hR hX fun m' a' w' g => hQ m' a' w' g)⟩
    | cond c x y =>
      simp only [codeOk, Bool.and_eq_true] at hc
      simp only [cStep] at h
      cases hE : evx s.T c with
      | none => rw [hE] at h; cases h
      | some v =>
        rw [hE] at h
        cases v <;> try (cases h)
        rename_i b
        have hev : ∀ m a, TRel m s.T.get N a → a.eval c = .bool b := by
          intro m a hT
          cases c with
          | tmp t =>
            obtain ⟨V, g1, g2⟩ := hT.2 t _ hE
            cases g2
            show a.tmps.getD t undef = _
            rw [Array.getD_eq_getD_getElem?, g1]; rfl
          | const v => have := absV_rel m hE; cases this; rfl
          | global g => cases hE
          | func f => cases hE
        cases b with
        | true =>
          have h1 := ih x s e s' h hc.1 hs
          exact ⟨h1.1, fun X m a w Q hT hrep hR hX hQ => wpIn_cond_true (hev m a hT) (h1.2 X m a w Q hT hrep hR hX hQ)⟩
        | false =>
          have h1 := ih y s e s' h hc.2 hs
          exact ⟨h1.1, fun X m a w Q hT hrep hR hX hQ => wpIn_cond_false (hev m a hT) (h1.2 X m a w Q hT hrep hR hX hQ)⟩
    | block id b =>
      simp only [codeOk] at hc
      simp only [cStep] at h
      cases hE : evC eo call N rd n b s with
      | none => rw [hE] at h; cases h
      | some p =>
        obtain ⟨e1, s1⟩ := p
        rw [hE] at h
        have h1 := ih b s e1 s1 hE hc hs
        cases e1 with
        | nrm => cases h; exact ⟨h1.1, fun X m a w Q hT hrep hR hX hQ => wpIn_block (h1.2 X m a w _ hT hrep hR hX fun m' a' w' g => hQ m' a' w' g)⟩
        | ret => cases h; exact ⟨h1.1, fun X m a w Q hT hrep hR hX hQ => wpIn_block (h1.2 X m a w _ hT hrep hR hX fun m' a' w' g => hQ m' a' w' g)⟩
        | ext id' =>
          simp only [cBlock] at h
          cases hb : Nat.beq id' id with
          | true =>
            rw [hb] at h; cases h
            have := beq_t hb
            exact ⟨h1.1, fun X m a w Q hT hrep hR hX hQ => wpIn_block (h1.2 X m a w _ hT hrep hR hX fun m' a' w' g => by
              show (if id' = id then Q .normal a' w' else _)
              rw [if_pos this]; exact hQ m' a' w' g)⟩
          | false =>
            rw [hb] at h; cases h
            have := beq_f hb
            exact ⟨h1.1, fun X m a w Q hT hrep hR hX hQ => wpIn_block (h1.2 X m a w _ hT hrep hR hX fun m' a' w' g => by
              show (if id' = id then _ else Q (.exit id') a' w')
              rw [if_neg this]; exact hQ m' a' w' g)⟩
    | loop b =>
      simp only [codeOk] at hc
      have h' : evC eo call N rd (n + 1) (.loop b) s = some (e, s') := h
      have hl := loop_ok (P := P) hF (M := n + 1) (fun n' hn' s e s' h hs => ihs n' hn' b s e s' h hc hs) (n + 1) (Nat.le_refl _) s e s' h' hs
      refine ⟨hl.1, fun X m a w Q hT hrep hR hX hQ fr k cs hro hb hr => ?_⟩
      obtain ⟨e', a', w', hq, harr⟩ := hl.2 X m a w Q hT hrep hR hX hQ fr k cs hro
      exact ⟨e', a', w', hq, .of_steps (.one (fenced_calm (n := 0) hb hr rfl) stepR_loop) harr⟩
    | scope b =>
      simp only [codeOk] at hc
      have h1 := ih b s e s' h hc hs
      exact ⟨h1.1, fun X m a w Q hT hrep hR hX hQ => wpIn_scope_straight (h1.2 X m a w _ hT hrep hR hX fun m' a' w' g => noGoto_to (hQ m' a' w' g))⟩
    | goto l => cases h
    | rangeFunc g ps a b =>
      cases rd with
      | true => cases h
      | false =>
        cases hrd rfl
        simp only [codeOk, Bool.and_eq_true] at hc
        exact rangeF_ok hcf hcc hs hc.1 hc.2 h
    | refuse w => cases h
end
end Go.Ev
