/- A body by the evaluator. Plain lemmas. Ahead of it: A region's operations, in the order of the text or as the draw takes them. Plain lemmas. A region by the evaluator, in both orders. Plain lemmas. -/
import Derived.Test.YtmhiblmgadmgcaaDoorUEv7
import Derived.Scope
namespace Go.Ev
open Go
set_option linter.unusedVariables false
set_option linter.unusedSimpArgs false
set_option linter.unusedSectionVars false
variable [Env]
section
variable {P : Program}
theorem Mv.comp {W1 W2 W a z : Nat} {m m1 m2 : Mp} {w w1 w2 : World} (h1 : Mv W1 a z m w m1 w1) (h2 : Mv W2 a z m1 w1 m2 w2) (e1 : ∀ r, W1.testBit r = true → W.testBit r = true) (e2 : ∀ r, W2.testBit r = true → W.testBit r = true) : Mv W a z m w m2 w2 := by
  have hs := h1.size
  refine ⟨fun r L h => h2.ext r L (h1.ext r L h), fun r L h => ?_, Nat.le_trans h1.size h2.size, fun k hk hw => ?_, h2.os.trans h1.os, h2.tape.trans h1.tape, h2.output.trans h1.output⟩
  · rcases h2.new r L h with h | ⟨ha, hz, h⟩
    · rcases h1.new r L h with h | ⟨ha, hz, h⟩
      · exact .inl h
      · refine .inr ⟨ha, hz, ?_⟩
        rcases h with h | ⟨r0, L0, hb, hm, he⟩
        · exact .inl h
        · exact .inr ⟨r0, L0, e1 _ hb, hm, he⟩
    · refine .inr ⟨ha, hz, ?_⟩
      rcases h with h | ⟨r0, L0, hb, hm, he⟩
      · exact .inl (by omega)
      · rcases h1.new r0 L0 hm with hm | ⟨_, _, h⟩
        · exact .inr ⟨r0, L0, e2 _ hb, hm, he⟩
        · rcases h with h | ⟨r1, L1, hb1, hm1, hq⟩
          · exact .inl (by omega)
          · exact .inr ⟨r1, L1, e1 _ hb1, hm1, hq.trans he⟩
  · rw [h2.fr k (by omega) ?_, h1.fr k hk fun r L hb hm => hw r L (e1 _ hb) hm]
    intro r L hb hm e
    rcases h1.new r L hm with hm | ⟨_, _, h⟩
    · exact hw r L (e2 _ hb) hm e
    · rcases h with h | ⟨r0, L0, hb0, hm0, he0⟩
      · omega
      · exact hw r0 L0 (e1 _ hb0) hm0 (he0.trans e)
theorem Mv.range {W a z a' z' : Nat} {m m' : Mp} {w w' : World} (h : Mv W a z m w m' w') (ha : a' ≤ a) (hz : z ≤ z') : Mv W a' z' m w m' w' :=
  ⟨h.ext, fun r L e => (h.new r L e).imp id fun ⟨x, y, q⟩ => ⟨by omega, by omega, q⟩, h.size, h.fr, h.os, h.tape, h.output⟩
theorem RepO.heap {m : Mp} {L : Loc} {o : AO} {w w' : World} (hb : w'.heap = w.heap) (h : RepO P m L o w) : RepO P m L o w' := h.keep P (fun _ _ e => e) (by rw [hb])
theorem RepOn.heap {X : Nat → Prop} {m : Mp} {h : Nat → Option AO} {w w' : World} (hb : w'.heap = w.heap) (hr : RepOn P X m h w) : RepOn P X m h w' :=
  ⟨fun r o hx e => let ⟨L, a, b⟩ := hr.rep r o hx e; ⟨L, a, b.heap hb⟩, hr.inj, Env.hp hb hr.env⟩
/-- The tmps stand for the evaluator's. -/
def TRel (m : Mp) (T : Nat → Option AV) (N : Nat) (a : Act) : Prop := a.tmps.size = N ∧ ∀ t v, T t = some v → ∃ V, a.tmps[t]? = some V ∧ Rel m v V
theorem TRel.mono {m m' : Mp} {T : Nat → Option AV} {N : Nat} {a : Act} (hm : ∀ r L, m r = some L → m' r = some L) (h : TRel m T N a) : TRel m' T N a :=
  ⟨h.1, fun t v e => let ⟨V, x, y⟩ := h.2 t v e; ⟨V, x, y.mono hm⟩⟩
def Bnd (H : Tr AO) (nx : Nat) : Prop := ∀ r, H.get r ≠ none → r < nx
theorem Keep.bnd {H : Tr AO} {nx : Nat} {u : Ou} (h : Keep H nx u) (hb : Bnd H nx) : Bnd u.H u.nx := by
  intro r hr
  by_cases hn : nx ≤ r ∧ r < u.nx
  · exact hn.2
  · cases hw : u.W.testBit r with
    | true => have := hb r (h.wr r hw).2; have := h.le; omega
    | false => rw [h.kp r hw hn] at hr; have := hb r hr; have := h.le; omega
/-- The fences that are met: none; within a round. -/
inductive Wd : Fence → Prop where
  | fn : Wd Fence.wide
  | rd (l : Nat) : Wd (Fence.wide.inRound l)
theorem Wd.ok {F : Fence} (h : Wd F) (f : FuncId) : F.fn f := by cases h <;> trivial
theorem Wd.n {F : Fence} (h : Wd F) : F.depth.isSome = true → 1 ≤ 0 := by cases h <;> (intro e; cases e)
theorem Wd.room {F : Fence} (h : Wd F) (n : Nat) : F.room n := by cases h <;> (intro d e; cases e)
theorem Wd.calls {F : Fence} (h : Wd F) {n : Nat} {f : FuncId} {A : Array Value} {w : World} {R : Ending → World → Prop} (hc : Calls P f A w R) : CallsIn F n P f A w R := by
  cases h with
  | fn => exact callsIn_wide.2 hc
  | rd l => exact callsIn_wide (n := n).2 hc
theorem Wd.round {F : Fence} (h : Wd F) {n l : Nat} {f : FuncId} {T : Array Value} {a b : Code} {w : World} {R : Ending → World → Prop} (hc : RoundIn Fence.wide n P l f T a b w R) : RoundIn F n P l f T a b w R := by
  cases h with
  | fn => exact hc
  | rd l => exact hc
/-- What is asked of the operations' evaluator. -/
def StepOk (F : Fence) (P : Program) (eo : Eo) (call : Cs) : Prop := ∀ s o u, evStep eo call s o = some u → Bnd s.H s.nx → Keep s.H s.nx u ∧
  ∀ (X : Nat → Prop) m a w K Q, OpR m s.T a.eval o.op → Pre P X m s.H s.nx u w →
    (∀ m' V w', Rel m' u.v V → Mv u.W s.nx u.nx m w m' w' → RepOn P (fun r => X r ∨ (s.nx ≤ r ∧ r < u.nx)) m' u.H.get w' → K (a.put o.dst V) w') → o.wpIn F 0 P a w K Q
variable {F : Fence} {eo : Eo} {call : Cs} {N : Nat} {ops : Array Oper}
theorem One.keep (hs : StepOk F P eo call) {o : Oper} {s s1 : St} {u : Ou} (h : One eo call N ops o s s1 u) (hb : Bnd s.H s.nx) : Keep s.H s.nx u := by
  rcases h.run with ⟨_, rfl⟩ | ⟨_, h⟩
  · exact keep_pure _ _ _ _ (live_0 _)
  · exact (hs s o u h hb).1
theorem One.get {o : Oper} {s s1 : St} {u : Ou} (h : One eo call N ops o s s1 u) (t : Nat) : s1.T.get t = if o.dst = some t then some u.v else s.T.get t := by
  have hT := h.T
  unfold putT at hT
  split at hT
  · rename_i hd; rw [← Option.some.inj hT, if_neg (by rw [hd]; simp)]
  · rename_i d hd
    split at hT
    · rw [← Option.some.inj hT, Tr.get_set, hd]
      by_cases e : t = d
      · subst e; simp
      · rw [if_neg e, if_neg (by simp; exact fun h => e h.symm)]
    · cases hT
theorem One.dlt {o : Oper} {s s1 : St} {u : Ou} (h : One eo call N ops o s s1 u) {d : Tmp} (hd : o.dst = some d) : d < N := by
  have hT := h.T
  unfold putT at hT
  rw [hd] at hT
  simp only [] at hT
  split at hT
  · rename_i hb; exact blt_t hb
  · cases hT
end
section
variable (st : Nat → St) (us : Nat → Ou) (ops : Array Oper)
def own (k r : Nat) : Bool := (us k).W.testBit r || (decide ((st k).nx ≤ r) && decide (r < (us k).nx))
/-- Memory behind the operations S. -/
noncomputable def hS (S : Nat → Bool) : Nat → Nat → Option AO
  | 0, r => (st 0).H.get r
  | k + 1, r => if (S k && own st us k r) = true then (us k).H.get r else hS S k r
def dstO (k : Nat) : Option Tmp := (ops[k]?).bind (·.dst)
/-- The tmps behind the operations S. -/
noncomputable def tS (S : Nat → Bool) : Nat → Nat → Option AV
  | 0, t => (st 0).T.get t
  | k + 1, t => if (S k && (dstO ops k == some t)) = true then some (us k).v else tS S k t
/-- Two operations (i stands ahead of k in the text) may change places. -/
structure Apt (i k : Nat) : Prop where
  wr : ∀ r, (us i).W.testBit r = true → (us k).R.testBit r = false
  rw : ∀ r, (us k).W.testBit r = true → (us i).R.testBit r = false
  nw : ∀ r, (us k).R.testBit r = true → ¬ ((st i).nx ≤ r ∧ r < (us i).nx)
  d1 : ∀ oi ok, ops[i]? = some oi → ops[k]? = some ok → (∀ d, oi.dst = some d → d ∉ ok.looksAt ops) ∧ (∀ d, oi.dst = some d → ok.dst ≠ some d) ∧ (∀ d, ok.dst = some d → d ∉ oi.looksAt ops)
end
section
variable {F : Fence} {P : Program} {eo : Eo} {call : Cs} {N : Nat} {ops : Array Oper} {st : Nat → St} {us : Nat → Ou}
/-- What is known of a region's run on plain data. -/
structure Run (F : Fence) (P : Program) (eo : Eo) (call : Cs) (N : Nat) (ops : Array Oper) (st : Nat → St) (us : Nat → Ou) : Prop where
  one : ∀ k o, ops[k]? = some o → One eo call N ops o (st k) (st (k + 1)) (us k)
  step : StepOk F P eo call
  bnd : Bnd (st 0).H (st 0).nx
theorem Run.at {st us} (h : Run F P eo call N ops st us) {k : Nat} (hk : k < ops.size) : One eo call N ops ops[k] (st k) (st (k + 1)) (us k) := h.one k _ (Array.getElem?_eq_getElem hk)
theorem Run.bndAt {st us} (h : Run F P eo call N ops st us) : ∀ k, k ≤ ops.size → Bnd (st k).H (st k).nx
  | 0, _ => h.bnd
  | k + 1, hk => by
    have hb := h.bndAt k (by omega)
    have := ((h.at (k := k) (by omega)).keep h.step hb).bnd hb
    rw [(h.at (k := k) (by omega)).H, (h.at (k := k) (by omega)).nx]; exact this
theorem Run.keep {st us} (h : Run F P eo call N ops st us) {k : Nat} (hk : k < ops.size) : Keep (st k).H (st k).nx (us k) := (h.at hk).keep h.step (h.bndAt k (by omega))
theorem Run.mono {st us} (h : Run F P eo call N ops st us) {i : Nat} : ∀ k, i ≤ k → k ≤ ops.size → (st i).nx ≤ (st k).nx
  | 0, h1, _ => by have : i = 0 := by omega
                   subst this; exact Nat.le_refl _
  | k + 1, h1, h2 => by
    by_cases e : i = k + 1
    · subst e; exact Nat.le_refl _
    · have := h.mono (i := i) k (by omega) (by omega)
      have := (h.keep (k := k) (by omega)).le
      rw [(h.at (k := k) (by omega)).nx]; omega
theorem Run.W {st us} (h : Run F P eo call N ops st us) {i : Nat} {r : Nat} (hr : (us i).W.testBit r = true) : ∀ k, i < k → k ≤ ops.size → (st k).W.testBit r = true
  | 0, h1, _ => by omega
  | k + 1, h1, h2 => by
    rw [(h.at (k := k) (by omega)).W]
    by_cases e : i = k
    · subst e; exact or_r hr
    · exact or_l (h.W hr k (by omega) (by omega))
theorem Run.R {st us} (h : Run F P eo call N ops st us) {i : Nat} {r : Nat} (hr : (us i).R.testBit r = true) : ∀ k, i < k → k ≤ ops.size → (st k).R.testBit r = true
  | 0, h1, _ => by omega
  | k + 1, h1, h2 => by
    rw [(h.at (k := k) (by omega)).R]
    by_cases e : i = k
    · subst e; exact or_r hr
    · exact or_l (h.R hr k (by omega) (by omega))
theorem Run.stepH {st us} (h : Run F P eo call N ops st us) {k : Nat} (hk : k < ops.size) {r : Nat} (ho : own st us k r = false) : (st (k + 1)).H.get r = (st k).H.get r := by
  unfold own at ho
  simp only [Bool.or_eq_false_iff, Bool.and_eq_false_iff, decide_eq_false_iff_not] at ho
  rw [(h.at hk).H]
  exact (h.keep hk).kp r ho.1 (fun e => by rcases ho.2 with q | q <;> omega)
theorem Run.rlt {st us} (h : Run F P eo call N ops st us) {i : Nat} (hi : i < ops.size) {r : Nat} (hr : (us i).R.testBit r = true) : r < (st i).nx :=
  h.bndAt i (by omega) r ((h.keep hi).rd r hr)
/-- Memory that an operation looks at is as in the order of the text. -/
theorem agreeH {st us} (h : Run F P eo call N ops st us) {S : Nat → Bool} {i : Nat} (hi : i < ops.size) (hSi : S i = false) (h1 : ∀ k, k < i → S k = true ∨ Apt st us ops k i) (h2 : ∀ k, i < k → k < ops.size → S k = true → Apt st us ops i k) {r : Nat} (hr : (us i).R.testBit r = true) :
    hS st us S ops.size r = (st i).H.get r := by
  have lo : ∀ k, k ≤ i → hS st us S k r = (st k).H.get r := by
    intro k
    induction k with
    | zero => intro _; rfl
    | succ k ih =>
      intro hk
      have ih := ih (by omega)
      simp only [hS]
      cases hSk : S k with
      | true =>
        cases ho : own st us k r with
        | true => simp only [Bool.and_self, if_pos]; rw [(h.at (k := k) (by omega)).H]
        | false => simp only [Bool.and_false, Bool.false_eq_true, if_false]; rw [ih, h.stepH (by omega) ho]
      | false =>
        simp only [Bool.false_and, Bool.false_eq_true, if_false]
        have ap := (h1 k (by omega)).resolve_left (by rw [hSk]; simp)
        rw [ih, h.stepH (by omega)]
        unfold own
        cases hw : (us k).W.testBit r with
        | true => have := ap.wr r hw; rw [hr] at this; cases this
        | false =>
          have := ap.nw r hr
          simp only [Bool.false_or, Bool.and_eq_false_iff, decide_eq_false_iff_not]
          by_cases e : (st k).nx ≤ r
          · right; exact fun q => this ⟨e, q⟩
          · left; exact e
  have hi' : ∀ k, i ≤ k → k ≤ ops.size → hS st us S k r = (st i).H.get r := by
    intro k
    induction k with
    | zero => intro h0 _; have : i = 0 := by omega
              subst this; exact lo 0 (Nat.le_refl _)
    | succ k ih =>
      intro h3 h4
      by_cases e : i = k + 1
      · rw [← e]; exact lo i (Nat.le_refl _)
      · have ih := ih (by omega) (by omega)
        simp only [hS]
        cases hSk : S k with
        | false => simpa using ih
        | true =>
          have hne : i ≠ k := fun e => by rw [e] at hSi; rw [hSi] at hSk; cases hSk
          have ap := h2 k (by omega) (by omega) hSk
          have ho : own st us k r = false := by
            unfold own
            cases hw : (us k).W.testBit r with
            | true => have := ap.rw r hw; rw [hr] at this; cases this
            | false =>
              have g1 := h.rlt hi hr
              have g2 := h.mono k (i := i) (by omega) (by omega)
              simp only [Bool.false_or, Bool.and_eq_false_iff, decide_eq_false_iff_not]
              left; omega
          rw [ho]; simpa using ih
  exact hi' _ (by omega) (Nat.le_refl _)
theorem agreeT {st us} (h : Run F P eo call N ops st us) {S : Nat → Bool} {i : Nat} {oi : Oper} (ho : ops[i]? = some oi) (hSi : S i = false) (h1 : ∀ k, k < i → S k = true ∨ Apt st us ops k i) (h2 : ∀ k, i < k → k < ops.size → S k = true → Apt st us ops i k) {t : Tmp} (ht : t ∈ oi.looksAt ops) :
    tS st us ops S ops.size t = (st i).T.get t := by
  have hi : i < ops.size := (Array.getElem?_eq_some_iff.1 ho).1
  have dk : ∀ k (hk : k < ops.size), dstO ops k = ops[k].dst := fun k hk => by simp [dstO, hk]
  have lo : ∀ k, k ≤ i → tS st us ops S k t = (st k).T.get t := by
    intro k
    induction k with
    | zero => intro _; rfl
    | succ k ih =>
      intro hk
      have ih := ih (by omega)
      have hks : k < ops.size := by omega
      simp only [tS]
      rw [(h.at hks).get t, dk k hks]
      cases hSk : S k with
      | true =>
        by_cases e : ops[k].dst = some t
        · rw [if_pos (by simp [e]), if_pos e]
        · rw [if_neg (by simp [e]), if_neg e, ih]
      | false =>
        have ap := (h1 k (by omega)).resolve_left (by rw [hSk]; simp)
        have hd := (ap.d1 ops[k] oi (Array.getElem?_eq_getElem hks) ho).1
        rw [if_neg (by simp), if_neg (fun e => hd t e ht), ih]
  have hi' : ∀ k, i ≤ k → k ≤ ops.size → tS st us ops S k t = (st i).T.get t := by
    intro k
    induction k with
    | zero => intro h0 _; have : i = 0 := by omega
              subst this; exact lo 0 (Nat.le_refl _)
    | succ k ih =>
      intro h3 h4
      by_cases e : i = k + 1
      · rw [← e]; exact lo i (Nat.le_refl _)
      · have ih := ih (by omega) (by omega)
        have hks : k < ops.size := by omega
        simp only [tS]
        rw [dk k hks]
        cases hSk : S k with
        | false => simpa using ih
        | true =>
          have hne : i ≠ k := fun e => by rw [e] at hSi; rw [hSi] at hSk; cases hSk
          have ap := h2 k (by omega) hks hSk
          have hd := (ap.d1 oi ops[k] ho (Array.getElem?_eq_getElem hks)).2.2
          rw [if_neg (by simp; exact fun e => hd t e ht)]; exact ih
  exact hi' _ (by omega) (Nat.le_refl _)
theorem hS_ins_no {S : Nat → Bool} {i r : Nat} (hr : own st us i r = false) : ∀ k, hS st us (fun j => j == i || S j) k r = hS st us S k r
  | 0 => rfl
  | k + 1 => by
    simp only [hS]
    by_cases e : k = i
    · subst e; simp [hr, hS_ins_no hr k]
    · have : (k == i) = false := by simp [e]
      simp only [this, Bool.false_or, hS_ins_no hr k]
theorem hS_ins_yes (h : Run F P eo call N ops st us) {S : Nat → Bool} {i r : Nat} (hi : i < ops.size) (h2 : ∀ k, i < k → k < ops.size → S k = true → Apt st us ops i k) (hr : own st us i r = true) : ∀ k, i < k → k ≤ ops.size → hS st us (fun j => j == i || S j) k r = (us i).H.get r
  | 0, h1, _ => by omega
  | k + 1, h1, h3 => by
    simp only [hS]
    by_cases e : k = i
    · subst e; simp [hr]
    · have hb : (k == i) = false := by simp [e]
      have ih := hS_ins_yes h hi h2 hr k (by omega) (by omega)
      simp only [hb, Bool.false_or]
      cases hSk : S k with
      | false => simpa using ih
      | true =>
        have ap := h2 k (by omega) (by omega) hSk
        have ho : own st us k r = false := by
          have g2 := h.mono k (i := i + 1) (by omega) (by omega)
          rw [(h.at hi).nx] at g2
          have g3 := (h.keep hi).le
          unfold own at hr ⊢
          rw [Bool.or_eq_true] at hr
          have hnw : (us k).W.testBit r = false := by
            cases hw : (us k).W.testBit r with
            | false => rfl
            | true =>
              have hR := ((h.keep (k := k) (by omega)).wr r hw).1
              rcases hr with hr | hr
              · have := ap.wr r hr; rw [hR] at this; cases this
              · simp only [Bool.and_eq_true, decide_eq_true_eq] at hr
                exact absurd hr (ap.nw r hR)
          rw [hnw]
          simp only [Bool.false_or, Bool.and_eq_false_iff, decide_eq_false_iff_not]
          left
          rcases hr with hr | hr
          · have := h.bndAt i (by omega) r ((h.keep hi).wr r hr).2; omega
          · simp only [Bool.and_eq_true, decide_eq_true_eq] at hr; omega
        rw [ho]; simpa using ih
theorem tS_ins_no {S : Nat → Bool} {i t : Nat} (hr : dstO ops i ≠ some t) : ∀ k, tS st us ops (fun j => j == i || S j) k t = tS st us ops S k t
  | 0 => rfl
  | k + 1 => by
    simp only [tS]
    by_cases e : k = i
    · subst e
      have : (dstO ops k == some t) = false := by simp [hr]
      simp [this, tS_ins_no hr k]
    · have : (k == i) = false := by simp [e]
      simp only [this, Bool.false_or, tS_ins_no hr k]
theorem tS_ins_yes {S : Nat → Bool} {i t : Nat} (hi : i < ops.size) (h2 : ∀ k, i < k → k < ops.size → S k = true → Apt st us ops i k) (hr : dstO ops i = some t) : ∀ k, i < k → k ≤ ops.size → tS st us ops (fun j => j == i || S j) k t = some (us i).v
  | 0, h1, _ => by omega
  | k + 1, h1, h3 => by
    simp only [tS]
    by_cases e : k = i
    · subst e; simp [hr]
    · have hb : (k == i) = false := by simp [e]
      have ih := tS_ins_yes hi h2 hr k (by omega) (by omega)
      simp only [hb, Bool.false_or]
      cases hSk : S k with
      | false => simpa using ih
      | true =>
        have hks : k < ops.size := by omega
        have ap := h2 k (by omega) hks hSk
        have hd := (ap.d1 ops[i] ops[k] (Array.getElem?_eq_getElem hi) (Array.getElem?_eq_getElem hks)).2.1
        have e1 : ops[i].dst = some t := by simpa [dstO, hi] using hr
        have : (dstO ops k == some t) = false := by simpa [dstO, hks] using hd t e1
        rw [this]; simpa using ih
theorem tS_full (h : Run F P eo call N ops st us) {S : Nat → Bool} (hS : ∀ i, i < ops.size → S i = true) (t : Nat) : ∀ k, k ≤ ops.size → tS st us ops S k t = (st k).T.get t
  | 0, _ => rfl
  | k + 1, hk => by
    have hks : k < ops.size := by omega
    simp only [tS]
    rw [(h.at hks).get t, hS k hks, tS_full h hS t k (by omega)]
    have : dstO ops k = ops[k].dst := by simp [dstO, hks]
    rw [this]
    by_cases e : ops[k].dst = some t
    · rw [if_pos (by simp [e]), if_pos e]
    · rw [if_neg (by simp [e]), if_neg e]
theorem hS_full (h : Run F P eo call N ops st us) {S : Nat → Bool} (hSt : ∀ i, i < ops.size → S i = true) (r : Nat) : ∀ k, k ≤ ops.size → hS st us S k r = (st k).H.get r
  | 0, _ => rfl
  | k + 1, hk => by
    have hks : k < ops.size := by omega
    simp only [hS]
    rw [hSt k hks, hS_full h hSt r k (by omega)]
    cases ho : own st us k r with
    | true => simp [(h.at hks).H]
    | false => simp [h.stepH hks ho]
end
end Go.Ev
namespace Go.Ev
open Go
set_option linter.unusedVariables false
set_option linter.unusedSimpArgs false
set_option linter.unusedSectionVars false
variable [Env]
section
variable {F : Fence} {P : Program} {eo : Eo} {call : Cs} {N : Nat} {ops : Array Oper} {st : Nat → St} {us : Nat → Ou}
/-- The blocks for rounds' deferred calls stay. -/
def Kd (w w' : World) : Prop := ∀ D : Nat, w.heap[D]? = some (Obj.deferred (some [])) → w'.heap[D]? = some (Obj.deferred (some []))
theorem Kd.refl (w : World) : Kd w w := fun _ e => e
theorem Kd.trans {a b c : World} (h1 : Kd a b) (h2 : Kd b c) : Kd a c := fun D e => h2 D (h1 D e)
theorem RepO.noDef {m : Mp} {L : Loc} {o : AO} {w : World} (h : RepO P m L o w) : w.heap[L.block]? ≠ some (Obj.deferred (some [])) := by
  intro e
  cases o with
  | c l t tl => obtain ⟨C, fr, h1, _⟩ := h; rw [h1] at e; cases e
  | m es cl => obtain ⟨E, h1, _⟩ := h; rw [h1] at e; cases e
  | si l pos => obtain ⟨_, S, h1, _⟩ := h; rw [h1] at e; cases e
  | mi r since seen st => obtain ⟨_, B, h1, _⟩ := h; rw [h1] at e; cases e
  | lp T N ps as bd st jp => obtain ⟨_, _, r, h1, _⟩ := h; rw [h1] at e; cases e
theorem kd_of {X : Nat → Prop} {H : Tr AO} {nx a z : Nat} {u : Ou} {m m' : Mp} {w w' : World} (hk : Keep H nx u) (hX : ∀ r, u.R.testBit r = true → X r) (hrep : RepOn P X m H.get w) (hmv : Mv u.W a z m w m' w') : Kd w w' := by
  intro D e
  rw [hmv.fr D (Array.getElem?_eq_some_iff.1 e).1 fun r L hw hm hD => ?_]
  · exact e
  · obtain ⟨h1, h2⟩ := hk.wr r hw
    obtain ⟨o, ho⟩ := Option.ne_none_iff_exists'.1 h2
    obtain ⟨L', g1, g2⟩ := hrep.rep r o (hX r h1) ho
    rw [hm] at g1; cases g1
    exact g2.noDef (by rw [hD]; exact e)
/-- What stands behind the operations S. -/
structure RI (P : Program) (N : Nat) (ops : Array Oper) (st : Nat → St) (us : Nat → Ou) (X : Nat → Prop) (m0 : Mp) (a0 : Act) (w0 : World) (S : Nat → Bool) (m : Mp) (a : Act) (w : World) : Prop where
  T : TRel m (tS st us ops S ops.size) N a
  df : a.defers = a0.defers
  rep : RepOn P (fun r => X r ∨ ∃ k, k < ops.size ∧ S k = true ∧ (st k).nx ≤ r ∧ r < (us k).nx) m (hS st us S ops.size) w
  mv : Mv (st ops.size).W (st 0).nx (st ops.size).nx m0 w0 m w
  kd : Kd w0 w
  dom : ∀ r L, m r = some L → m0 r = some L ∨ ∃ k, k < ops.size ∧ S k = true ∧ (st k).nx ≤ r ∧ r < (us k).nx
theorem opR_of {m : Mp} {T : Nat → Option AV} {s : St} {o : Oper} {a : Act} (hT : TRel m T N a) (h : ∀ t, t ∈ o.looksAt ops → T t = s.T.get t) : OpR m s.T a.eval o.op := by
  intro x v hx hv
  cases x with
  | tmp t =>
    have ht : t ∈ o.looksAt ops := by
      unfold Oper.looksAt
      exact List.mem_append_left _ (List.mem_filterMap.2 ⟨.tmp t, hx, rfl⟩)
    obtain ⟨V, h1, h2⟩ := hT.2 t v (by rw [h t ht]; exact hv)
    have : a.eval (.tmp t) = V := by
      show a.tmps.getD t undef = V
      rw [Array.getD_eq_getD_getElem?, h1]; rfl
    rw [this]; exact h2
  | const c => exact absV_rel m hv
  | global g => cases hv
  | func f =>
    cases hv
    exact .f_of (A := #[]) (B := #[]) (.nil m) (.nil m)
theorem wanted_of {m : Mp} {T : Nat → Option AV} {s : St} {o : Oper} {a : Act} {b : Bool} (hT : TRel m T N a) (h : ∀ t, t ∈ o.looksAt ops → T t = s.T.get t) (hg : evGuard s.T ops o.guard = some b) : Region.wanted o (yielded ops a.tmps) = b := by
  unfold evGuard at hg
  unfold Region.wanted
  split at hg
  · rename_i hn; rw [hn]; cases hg; rfl
  · rename_i j want hj
    rw [hj]
    simp only []
    split at hg
    · rename_i oj hoj
      split at hg
      · rename_i d hd
        have ht : d ∈ o.looksAt ops := by
          unfold Oper.looksAt
          refine List.mem_append_right _ ?_
          rw [hj]; simp [hoj, hd]
        have hy : yielded ops a.tmps j = match a.tmps[d]? with | some (.bool b) => some b | _ => none := by
          unfold yielded
          rw [hoj]
          show (match (Option.bind (some oj) (·.dst)).bind (a.tmps[·]?) with | some (.bool b) => some b | _ => none) = _
          rw [show Option.bind (some oj) (·.dst) = some d from hd]
          rfl
        split at hg
        · rename_i x hx
          cases hg
          obtain ⟨V, h1, h2⟩ := hT.2 d _ (by rw [h d ht]; exact hx)
          cases h2
          rw [hy, h1]
          simp
        · rename_i l hv
          cases hg
          obtain ⟨V, h1, h2⟩ := hT.2 d _ (by rw [h d ht]; exact hv)
          rw [hy, h1]
          cases h2
          rfl
        · cases hg
      · cases hg
    · cases hg
theorem get_put_same {a : Act} {s : Nat} {v : Value} (hs : s < a.tmps.size) : (a.put (some s) v).tmps[s]? = some v := by
  simp only [Act.put]
  rw [Array.getElem?_setIfInBounds_self_of_lt hs]
theorem get_put_other {a : Act} {s t : Nat} {v : Value} (h : s ≠ t) : (a.put (some s) v).tmps[t]? = a.tmps[t]? := by
  simp only [Act.put]
  rw [Array.getElem?_setIfInBounds_ne h]
/-- One operation more. -/
theorem RI.step (hF : Wd F) (h : Run F P eo call N ops st us) {X : Nat → Prop} {m0 m : Mp} {a0 a : Act} {w0 w : World} {S : Nat → Bool} (hi : RI P N ops st us X m0 a0 w0 S m a w) {i : Nat} {o : Oper} (ho : ops[i]? = some o) (hSi : S i = false)
    (h1 : ∀ k, k < i → S k = true ∨ Apt st us ops k i) (h2 : ∀ k, i < k → k < ops.size → S k = true → Apt st us ops i k)
    (hR : ∀ r, (st ops.size).R.testBit r = true → X r ∨ ((st 0).nx ≤ r ∧ r < (st ops.size).nx)) (hX : ∀ r, (st 0).nx ≤ r → r < (st ops.size).nx → m0 r = none ∧ ¬ X r)
    {Q : Exit → Act → World → Prop} {K : Act → World → Prop} (hK : ∀ m' a' w', RI P N ops st us X m0 a0 w0 (fun j => j == i || S j) m' a' w' → K a' w') : wpOpIn F 0 P ops Q i K a w := by
  have hlt : i < ops.size := (Array.getElem?_eq_some_iff.1 ho).1
  have hone := h.one i o ho
  have hkeep := h.keep hlt
  have hnx0 : (st 0).nx ≤ (st i).nx := h.mono i (Nat.zero_le _) (by omega)
  have hnx1 : (us i).nx ≤ (st ops.size).nx := by
    have := h.mono (i := i + 1) ops.size (by omega) (Nat.le_refl _)
    rw [hone.nx] at this; exact this
  have hlook : ∀ t, t ∈ o.looksAt ops → tS st us ops S ops.size t = (st i).T.get t := fun t ht => agreeT h ho hSi h1 h2 ht
  have hdst : dstO ops i = o.dst := by simp [dstO, ho]
  -- of the rows that it looks at all are there
  have hRi : ∀ r, (us i).R.testBit r = true → X r ∨ ∃ k, k < ops.size ∧ S k = true ∧ (st k).nx ≤ r ∧ r < (us k).nx := by
    intro r hr
    rcases hR r (h.R hr ops.size hlt (Nat.le_refl _)) with hx | ⟨ha, hz⟩
    · exact .inl hx
    · right
      have hri := h.rlt hlt hr
      -- the operation that made it
      have : ∀ k, k ≤ i → (st 0).nx ≤ r → r < (st k).nx → ∃ j, j < k ∧ (st j).nx ≤ r ∧ r < (us j).nx := by
        intro k
        induction k with
        | zero => intro _ h3 h4; omega
        | succ k ih =>
          intro hk h3 h4
          by_cases e : r < (st k).nx
          · obtain ⟨j, g1, g2⟩ := ih (by omega) h3 e
            exact ⟨j, by omega, g2⟩
          · refine ⟨k, by omega, by omega, ?_⟩
            rw [(h.at (k := k) (by omega)).nx] at h4; exact h4
      obtain ⟨j, g1, g2, g3⟩ := this i (Nat.le_refl _) ha hri
      refine ⟨j, by omega, ?_, g2, g3⟩
      rcases h1 j g1 with g | g
      · exact g
      · exact absurd ⟨g2, g3⟩ (g.nw r hr)
  -- its new rows are no one's yet
  have hnew : ∀ r, (st i).nx ≤ r → r < (us i).nx → m r = none ∧ ¬ (X r ∨ ∃ k, k < ops.size ∧ S k = true ∧ (st k).nx ≤ r ∧ r < (us k).nx) := by
    intro r ha hz
    have hx := hX r (by omega) (by omega)
    have hk : ¬ ∃ k, k < ops.size ∧ S k = true ∧ (st k).nx ≤ r ∧ r < (us k).nx := by
      rintro ⟨k, g1, g2, g3, g4⟩
      have hne : k ≠ i := fun e => by rw [e, hSi] at g2; cases g2
      rcases Nat.lt_or_gt_of_ne hne with hl | hl
      · have := h.mono (i := k + 1) i (by omega) (by omega)
        rw [(h.at g1).nx] at this; omega
      · have := h.mono (i := i + 1) k (by omega) (by omega)
        rw [(h.at hlt).nx] at this; omega
    refine ⟨?_, fun e => e.elim hx.2 hk⟩
    cases e : m r with
    | none => rfl
    | some L =>
      rcases hi.dom r L e with g | g
      · rw [hx.1] at g; cases g
      · exact absurd g hk
  -- behind it
  have fin : ∀ m' V w', Rel m' (us i).v V → Mv (us i).W (st i).nx (us i).nx m w m' w' → RepOn P (fun r => (us i).R.testBit r = true ∨ ((st i).nx ≤ r ∧ r < (us i).nx)) m' (us i).H.get w' → K (a.put o.dst V) w' := by
    intro m' V w' hv hmv hrep
    refine hK m' _ w' ⟨⟨?_, fun t v e => ?_⟩, ?_, ?_, ?_, ?_, fun r L e => ?_⟩
    · have := hi.T.1
      cases hd : o.dst with
      | none => exact this
      | some d => simp only [Act.put, Array.size_setIfInBounds]; exact this
    · by_cases hd : o.dst = some t
      · rw [tS_ins_yes hlt h2 (by rw [hdst]; exact hd) ops.size hlt (Nat.le_refl _)] at e
        cases e
        refine ⟨V, ?_, hv⟩
        rw [hd]
        exact get_put_same (by rw [hi.T.1]; exact hone.dlt hd)
      · rw [tS_ins_no (by rw [hdst]; exact hd)] at e
        obtain ⟨V', g1, g2⟩ := hi.T.2 t v e
        refine ⟨V', ?_, g2.mono hmv.ext⟩
        cases hd' : o.dst with
        | none => exact g1
        | some d => rw [get_put_other (fun e => hd (by rw [hd', e]))]; exact g1
    · rw [← hi.df]; cases o.dst <;> rfl
    · -- memory
      have hag : ∀ r, (us i).R.testBit r = true → hS st us S ops.size r = (st i).H.get r := fun r hr => agreeH h hlt hSi h1 h2 hr
      have hown : ∀ r, (us i).R.testBit r = true ∨ ((st i).nx ≤ r ∧ r < (us i).nx) → hS st us (fun j => j == i || S j) ops.size r = (us i).H.get r := by
        intro r hr
        cases ho' : own st us i r with
        | true => exact hS_ins_yes h hlt h2 ho' ops.size hlt (Nat.le_refl _)
        | false =>
          rw [hS_ins_no ho']
          have hnn : ¬ ((st i).nx ≤ r ∧ r < (us i).nx) := fun e => by
            unfold own at ho'; simp [e.1, e.2] at ho'
          have hrr := hr.resolve_right hnn
          have hw : (us i).W.testBit r = false := by
            unfold own at ho'; simp only [Bool.or_eq_false_iff] at ho'; exact ho'.1
          rw [hag r hrr, hkeep.kp r hw hnn]
      have hrep' : RepOn P (fun r => (us i).R.testBit r = true ∨ ((st i).nx ≤ r ∧ r < (us i).nx)) m' (hS st us (fun j => j == i || S j) ops.size) w' := hrep.sub P (fun r hr => hr) fun r hr => hown r hr
      have hj := RepOn.join P (X := fun r => X r ∨ ∃ k, k < ops.size ∧ S k = true ∧ (st k).nx ≤ r ∧ r < (us k).nx) (F := fun r => (us i).R.testBit r = true) hi.rep (fun r hr => hRi r hr) (fun r hr => ⟨(hkeep.wr r hr).1, by rw [hag r (hkeep.wr r hr).1]; exact (hkeep.wr r hr).2⟩) hmv
        (fun r ha hz => (hnew r ha hz).1) hrep' (fun r hx hw => by
          refine hS_ins_no ?_ _
          unfold own
          rw [hw]
          cases hc : (decide ((st i).nx ≤ r) && decide (r < (us i).nx)) with
          | false => rfl
          | true =>
            simp only [Bool.and_eq_true, decide_eq_true_eq] at hc
            exact absurd hx (hnew r hc.1 hc.2).2)
      refine hj.sub P (fun r hr => ?_) (fun r _ => rfl)
      rcases hr with hr | ⟨k, g1, g2, g3⟩
      · exact .inl (.inl hr)
      · by_cases e : k = i
        · subst e; exact .inr g3
        · have : (k == i) = false := by simp [e]
          rw [this] at g2
          exact .inl (.inr ⟨k, g1, by simpa using g2, g3⟩)
    · exact Mv.comp hi.mv (hmv.range hnx0 hnx1) (fun r e => e) fun r e => h.W e ops.size hlt (Nat.le_refl _)
    · exact hi.kd.trans (kd_of (X := fun r => (us i).R.testBit r = true) hkeep (fun r hr => hr) (hi.rep.sub P (fun r hr => hRi r hr) fun r hr => (agreeH h hlt hSi h1 h2 hr).symm) hmv)
    · rcases hmv.new r L e with e | ⟨ha, hz, _⟩
      · rcases hi.dom r L e with e | ⟨k, g1, g2, g3⟩
        · exact .inl e
        · exact .inr ⟨k, g1, by simp [g2], g3⟩
      · exact .inr ⟨i, hlt, by simp, ha, hz⟩
  unfold wpOpIn
  rw [ho]
  simp only []
  rcases hone.run with ⟨hg, hu⟩ | ⟨hg, hu⟩
  · rw [wanted_of hi.T hlook hg]
    simp only [Bool.false_eq_true, if_false]
    refine ⟨fun f _ => hF.ok f, fin m undef w ?_ ?_ ?_⟩
    · rw [hu]; exact Rel.un m
    · rw [hu]; exact Mv.refl _ _ _
    · have hag : ∀ r, (us i).R.testBit r = true → False := fun r hr => by rw [hu] at hr; simp at hr
      exact hi.rep.sub P (fun r hr => (hr.elim (fun e => (hag r e).elim) fun e => by rw [hu] at e; have := e.1; have := e.2; simp at this; omega)) fun r hr => (hr.elim (fun e => (hag r e).elim) fun e => by rw [hu] at e; have := e.1; have := e.2; simp at this; omega)
  · rw [wanted_of hi.T hlook hg]
    simp only [if_true]
    refine (h.step (st i) o (us i) hu (h.bndAt i (by omega))).2 (fun r => (us i).R.testBit r = true) m a w K Q (opR_of hi.T hlook) ⟨?_, fun r hr => hr, fun r ha hz => ⟨(hnew r ha hz).1, fun hr => ?_⟩⟩ fin
    · exact hi.rep.sub P (fun r hr => hRi r hr) fun r hr => (agreeH h hlt hSi h1 h2 hr).symm
    · have := h.rlt hlt hr; omega
theorem RI.start {X : Nat → Prop} {m0 : Mp} {a0 : Act} {w0 w1 : World} (hT : TRel m0 (st 0).T.get N a0) (hrep : RepOn P X m0 (st 0).H.get w0) (hw : w1.heap = w0.heap) (ho : w1.os = w0.os) (ht : w1.tape = w0.tape) (hu : w1.output = w0.output) :
    RI P N ops st us X m0 a0 w0 (fun _ => false) m0 a0 w1 := by
  have e1 : ∀ k r, hS st us (fun _ => false) k r = (st 0).H.get r := by
    intro k; induction k with
    | zero => intro r; rfl
    | succ k ih => intro r; simp [hS, ih r]
  have e2 : ∀ k t, tS st us ops (fun _ => false) k t = (st 0).T.get t := by
    intro k; induction k with
    | zero => intro r; rfl
    | succ k ih => intro r; simp [tS, ih r]
  refine ⟨⟨hT.1, fun t v e => hT.2 t v (by rw [← e2 ops.size t]; exact e)⟩, rfl, ?_, ⟨fun _ _ e => e, fun _ _ e => .inl e, by rw [hw]; exact Nat.le_refl _, fun b _ _ => by rw [hw], ho, ht, hu⟩, fun D e => by rw [hw]; exact e, fun r L e => .inl e⟩
  exact (hrep.heap hw).sub P (fun r hr => hr.elim id fun ⟨k, _, g, _⟩ => by cases g) fun r _ => (e1 ops.size r)
/-- What a region leaves behind. -/
theorem RI.done (h : Run F P eo call N ops st us) {X : Nat → Prop} {m0 m : Mp} {a0 a : Act} {w0 w : World} {S : Nat → Bool} (hi : RI P N ops st us X m0 a0 w0 S m a w) (hf : ∀ i, i < ops.size → S i = true) :
    TRel m (st ops.size).T.get N a ∧ (a.defers = a0.defers ∧ Kd w0 w) ∧ RepOn P (fun r => X r ∨ ((st 0).nx ≤ r ∧ r < (st ops.size).nx)) m (st ops.size).H.get w ∧ Mv (st ops.size).W (st 0).nx (st ops.size).nx m0 w0 m w := by
  refine ⟨⟨hi.T.1, fun t v e => hi.T.2 t v (by rw [tS_full h hf t _ (Nat.le_refl _)]; exact e)⟩, ⟨hi.df, hi.kd⟩, ?_, hi.mv⟩
  refine hi.rep.sub P (fun r hr => ?_) fun r _ => (hS_full h hf r _ (Nat.le_refl _)).symm
  rcases hr with hr | ⟨ha, hz⟩
  · exact .inl hr
  · right
    have : ∀ k, k ≤ ops.size → r < (st k).nx → ∃ j, j < k ∧ (st j).nx ≤ r ∧ r < (us j).nx := by
      intro k
      induction k with
      | zero => intro _ h4; omega
      | succ k ih =>
        intro hk h4
        by_cases e : r < (st k).nx
        · obtain ⟨j, g1, g2⟩ := ih (by omega) e
          exact ⟨j, by omega, g2⟩
        · refine ⟨k, by omega, by omega, ?_⟩
          rw [(h.at (k := k) (by omega)).nx] at h4; exact h4
    obtain ⟨j, g1, g2⟩ := this ops.size (Nat.le_refl _) hz
    exact ⟨j, g1, hf j g1, g2⟩
end
end Go.Ev
namespace Go.Ev
open Go
set_option linter.unusedVariables false
set_option linter.unusedSimpArgs false
set_option linter.unusedSectionVars false
variable [Env]
section
variable {F : Fence} {P : Program} {eo : Eo} {call : Cs} {N : Nat} {ops : Array Oper}
theorem orAll_bit {bf : Array Nat} : ∀ {l : List Edge} {k : Nat}, (orAll bf l).testBit k = true → ∃ e ∈ l, Region.binds .any e = true ∧ (e.on = k ∨ (bf.getD e.on 0).testBit k = true)
  | [], k, h => by simp [orAll] at h
  | e :: es, k, h => by
    simp only [orAll] at h
    split at h
    · rename_i hb
      have h : ((bit e.on ||| bf.getD e.on 0) ||| orAll bf es).testBit k = true := h
      rw [Nat.testBit_or, Nat.testBit_or, Bool.or_eq_true, Bool.or_eq_true] at h
      rcases h with (h | h) | h
      · rw [bit_tb] at h; exact ⟨e, by simp, hb, .inl (of_decide_eq_true h).symm⟩
      · exact ⟨e, by simp, hb, .inr h⟩
      · obtain ⟨e', h1, h2⟩ := orAll_bit h; exact ⟨e', by simp [h1], h2⟩
    · obtain ⟨e', h1, h2⟩ := orAll_bit h; exact ⟨e', by simp [h1], h2⟩
theorem formOp_at {bf : Array Nat} {o : Oper} {j : Nat} : ∀ (l : List Oper) (i : Nat), formOp bf ops o j l i = true → ∀ k x, l[k]? = some x → i + k < j → (bf.getD j 0).testBit (i + k) = true ∨ x.apart ops o = true
  | [], i, h, k, x, hk, hl => by simp at hk
  | y :: l, i, h, k, x, hk, hl => by
    simp only [formOp, Bool.and_eq_true, Bool.or_eq_true] at h
    cases k with
    | zero =>
      simp at hk; subst hk
      rcases h.1 with (g | g) | g
      · have := ble_t g; omega
      · exact .inl g
      · exact .inr g
    | succ k => rw [show i + (k + 1) = i + 1 + k by omega]; exact formOp_at l (i + 1) h.2 k x (by simpa using hk) (by omega)
theorem formOps_at {bf : Array Nat} {all : List Oper} : ∀ (l : List Oper) (i : Nat), formOps bf ops all l i = true → ∀ k o, l[k]? = some o → (∀ e ∈ o.after, Region.binds .any e = true → e.on < i + k) ∧ bf.getD (i + k) 0 = orAll bf o.after.toList ∧ formOp bf ops o (i + k) all 0 = true
  | [], i, h, k, x, hk => by simp at hk
  | y :: l, i, h, k, x, hk => by
    simp only [formOps, Bool.and_eq_true] at h
    cases k with
    | zero =>
      simp at hk; subst hk
      refine ⟨fun e he hb => ?_, beq_t h.1.1.1.2, h.1.2⟩
      have := Array.all_eq_true'.1 h.1.1.1.1 e he
      rw [hb] at this
      simpa using blt_t (by simpa using this)
    | succ k => rw [show i + (k + 1) = i + 1 + k by omega]; exact formOps_at l (i + 1) h.2 k x (by simpa using hk)
theorem form_at (h : formOk ops = true) {j : Nat} {o : Oper} (ho : ops[j]? = some o) : (∀ e ∈ o.after, Region.binds .any e = true → e.on < j) ∧ (Region.before ops).getD j 0 = orAll (Region.before ops) o.after.toList ∧
    ∀ i x, ops[i]? = some x → i < j → ((Region.before ops).getD j 0).testBit i = true ∨ x.apart ops o = true := by
  obtain ⟨h1, h2, h3⟩ := formOps_at ops.toList 0 h j o (by simpa using ho)
  rw [Nat.zero_add] at h1 h2 h3
  exact ⟨h1, h2, fun i x hi hl => by simpa using formOp_at ops.toList 0 h3 i x (by simpa using hi) (by omega)⟩
theorem chk1_at {bf : Nat} {y : Inf} : ∀ {l : List Inf}, chk1 bf y l = true → ∀ x ∈ l, bf.testBit x.i = true ∨ apartI x y = true
  | [], _, x, hx => by cases hx
  | z :: l, h, x, hx => by
    simp only [chk1, Bool.and_eq_true, Bool.or_eq_true] at h
    cases hx with
    | head => exact h.1
    | tail _ hx => exact chk1_at h.2 x hx
theorem chkAll_pw {bf : Array Nat} : ∀ {l : List Inf}, chkAll bf l = true → l.Pairwise fun y x => (bf.getD y.i 0).testBit x.i = true ∨ apartI x y = true
  | [], _ => .nil
  | y :: l, h => by
    simp only [chkAll, Bool.and_eq_true] at h
    exact .cons (fun x hx => chk1_at h.1 x hx) (chkAll_pw h.2)
theorem apartI_dyn {x y : Inf} (h : apartI x y = true) : (∀ r, x.W.testBit r = true → y.R.testBit r = false) ∧ (∀ r, y.W.testBit r = true → x.R.testBit r = false) ∧ ∀ r, y.R.testBit r = true → ¬ (x.a ≤ r ∧ r < x.z) := by
  unfold apartI at h
  simp only [Bool.and_eq_true] at h
  obtain ⟨⟨h1, h2⟩, h3⟩ := h
  have h1 : x.W &&& y.R = 0 := beq_t h1
  have h2 : y.W &&& x.R = 0 := beq_t h2
  have h3 : (y.R >>> x.a) % 2 ^ (x.z - x.a) = 0 := beq_t h3
  have dis : ∀ a b : Nat, a &&& b = 0 → ∀ r, a.testBit r = true → b.testBit r = false := fun a b e r ha => by
    have := congrArg (fun n => n.testBit r) e
    simp only [Nat.testBit_and, Nat.zero_testBit, ha, Bool.true_and] at this
    exact this
  refine ⟨dis _ _ h1, dis _ _ h2, fun r hr hc => ?_⟩
  have := congrArg (fun n => n.testBit (r - x.a)) h3
  simp only [Nat.testBit_mod_two_pow, Nat.testBit_shiftRight, Nat.zero_testBit, Bool.and_eq_false_iff, decide_eq_false_iff_not] at this
  rcases this with g | g
  · omega
  · rw [show x.a + (r - x.a) = r by omega, hr] at g; cases g
/-- Two operations that are not bound may change places. -/
theorem apt_of {st : Nat → St} {us : Nat → Ou} (h : Run F P eo call N ops st us) (hf : formOk ops = true) (hc : chkAll (Region.before ops) (loud ((List.range' 0 ops.size).map fun k => infOf k (st k) (us k)).reverse) = true)
    {i k : Nat} (hik : i < k) (hk : k < ops.size) : ((Region.before ops).getD k 0).testBit i = true ∨ Apt st us ops i k := by
  cases hb : ((Region.before ops).getD k 0).testBit i with
  | true => exact .inl rfl
  | false =>
    right
    have hst : ∀ oi ok, ops[i]? = some oi → ops[k]? = some ok → (∀ d, oi.dst = some d → d ∉ ok.looksAt ops) ∧ (∀ d, oi.dst = some d → ok.dst ≠ some d) ∧ (∀ d, ok.dst = some d → d ∉ oi.looksAt ops) := by
      intro oi ok h1 h2
      have := ((form_at hf h2).2.2 i oi h1 hik).resolve_left (by rw [hb]; simp)
      exact Oper.apart_spec this
    have hki := h.keep (k := i) (by omega)
    have hkk := h.keep hk
    by_cases qi : quietI (infOf i (st i) (us i)) = true
    · unfold quietI infOf at qi
      simp only [Bool.and_eq_true] at qi
      have hR := beq_t qi.1
      have hz := beq_t qi.2
      have hW : ∀ r, (us i).W.testBit r = true → False := fun r hr => by have := (hki.wr r hr).1; rw [hR] at this; simp at this
      exact ⟨fun r hr => (hW r hr).elim, fun r _ => by rw [hR]; simp, fun r _ e => by have := e.1; have := e.2; omega, hst⟩
    · by_cases qk : quietI (infOf k (st k) (us k)) = true
      · unfold quietI infOf at qk
        simp only [Bool.and_eq_true] at qk
        have hR := beq_t qk.1
        have hW : ∀ r, (us k).W.testBit r = true → False := fun r hr => by have := (hkk.wr r hr).1; rw [hR] at this; simp at this
        exact ⟨fun r _ => by rw [hR]; simp, fun r hr => (hW r hr).elim, fun r hr => by rw [hR] at hr; simp at hr, hst⟩
      · have hp := chkAll_pw hc
        unfold loud at hp
        rw [List.pairwise_filter, List.pairwise_reverse, List.pairwise_map, List.pairwise_iff_getElem] at hp
        have g := hp i k (by simp; omega) (by simp; omega) hik
        simp only [List.getElem_range', Nat.one_mul, Nat.zero_add] at g
        have g := g (by simp [qk]) (by simp [qi])
        rcases g with g | g
        · have g : ((Region.before ops).getD k 0).testBit i = true := g
          rw [hb] at g; cases g
        · obtain ⟨d1, d2, d3⟩ := apartI_dyn g
          exact ⟨d1, d2, d3, hst⟩
/-- A region, as the draw takes its operations. -/
theorem draw_ok (hF : Wd F) {id : Nat} (hm : P.follows .mixedOrders = true) {st : Nat → St} {us : Nat → Ou} (h : Run F P eo call N ops st us) (hf : formOk ops = true) (hc : chkAll (Region.before ops) (loud ((List.range' 0 ops.size).map fun k => infOf k (st k) (us k)).reverse) = true)
    {X : Nat → Prop} {m : Mp} {a : Act} {w : World} {Q : Exit → Act → World → Prop} (hT : TRel m (st 0).T.get N a) (hrep : RepOn P X m (st 0).H.get w) (hR : ∀ r, (st ops.size).R.testBit r = true → X r ∨ ((st 0).nx ≤ r ∧ r < (st ops.size).nx))
    (hX : ∀ r, (st 0).nx ≤ r → r < (st ops.size).nx → m r = none ∧ ¬ X r)
    (hQ : ∀ m' a' w', TRel m' (st ops.size).T.get N a' → (a'.defers = a.defers ∧ Kd w w') → RepOn P (fun r => X r ∨ ((st 0).nx ≤ r ∧ r < (st ops.size).nx)) m' (st ops.size).H.get w' → Mv (st ops.size).W (st 0).nx (st ops.size).nx m w m' w' → Q .normal a' w') : (Code.region id ops true).wpIn F 0 P Q a w := by
  refine wp_region_inv hm (fun l a' w' => (∃ m', RI P N ops st us X m a w l m' a' w') ∧ ∀ j, j < ops.size → l j = true → ∀ i, ((Region.before ops).getD j 0).testBit i = true → l i = true) (fun i o ho => (form_at hf ho).1) ⟨⟨m, RI.start hT hrep rfl rfl rfl rfl⟩, fun j _ e => by cases e⟩ ?_ ?_
  · rintro l a' w' i ⟨⟨m', hi⟩, hcl⟩ hlt hli hdep
    have ho : ops[i]? = some ops[i] := Array.getElem?_eq_getElem hlt
    have hpre : ∀ k, ((Region.before ops).getD i 0).testBit k = true → l k = true := by
      intro k hk
      rw [(form_at hf ho).2.1] at hk
      obtain ⟨e, e1, e2, e3⟩ := orAll_bit hk
      have he : e ∈ ops[i].after := by simpa using e1
      have h1 := hdep _ ho e he e2
      rcases e3 with e3 | e3
      · rw [← e3]; exact h1
      · have := (form_at hf ho).1 e he e2
        exact hcl e.on (by omega) h1 k e3
    refine hi.step hF h ho hli (fun k hk => ?_) (fun k hk hks hlk => ?_) hR hX fun m2 a2 w2 h2 => ⟨⟨m2, h2⟩, fun j hj hlj k hk => ?_⟩
    · rcases apt_of h hf hc hk hlt with g | g
      · exact .inl (hpre k g)
      · exact .inr g
    · rcases apt_of h hf hc hk hks with g | g
      · have := hcl k hks hlk i g; rw [hli] at this; cases this
      · exact g
    · simp only [Bool.or_eq_true, beq_iff_eq] at hlj ⊢
      rcases hlj with e | e
      · subst e; exact .inr (hpre k hk)
      · exact .inr (hcl j hj e k hk)
  · rintro l a' w' hl ⟨⟨m', hi⟩, _⟩
    obtain ⟨g1, g2, g3, g4⟩ := hi.done h hl
    exact hQ m' a' w' g1 g2 g3 g4
/-- A region in the order of the text. -/
theorem text_ok (hF : Wd F) {id : Nat} {st : Nat → St} {us : Nat → Ou} (h : Run F P eo call N ops st us)
    {X : Nat → Prop} {m : Mp} {a : Act} {w : World} {Q : Exit → Act → World → Prop} (hT : TRel m (st 0).T.get N a) (hrep : RepOn P X m (st 0).H.get w) (hR : ∀ r, (st ops.size).R.testBit r = true → X r ∨ ((st 0).nx ≤ r ∧ r < (st ops.size).nx))
    (hX : ∀ r, (st 0).nx ≤ r → r < (st ops.size).nx → m r = none ∧ ¬ X r)
    (hQ : ∀ m' a' w', TRel m' (st ops.size).T.get N a' → (a'.defers = a.defers ∧ Kd w w') → RepOn P (fun r => X r ∨ ((st 0).nx ≤ r ∧ r < (st ops.size).nx)) m' (st ops.size).H.get w' → Mv (st ops.size).W (st 0).nx (st ops.size).nx m w m' w' → Q .normal a' w') : (Code.region id ops false).wpIn F 0 P Q a w := by
  refine wpIn_region ?_
  have key : ∀ n k m' a' w', k + n = ops.size → RI P N ops st us X m a w (fun j => decide (j < k)) m' a' w' → wpOpsIn F 0 P ops Q (List.range' k n) a' w' := by
    intro n
    induction n with
    | zero =>
      intro k m' a' w' hk hi
      obtain ⟨g1, g2, g3, g4⟩ := hi.done h (fun i hi' => decide_eq_true (by omega))
      exact hQ m' a' w' g1 g2 g3 g4
    | succ n ih =>
      intro k m' a' w' hk hi
      rw [List.range'_succ, wpOpsIn_cons]
      have hlt : k < ops.size := by omega
      refine hi.step hF h (Array.getElem?_eq_getElem hlt) (by simp) (fun j hj => .inl (decide_eq_true hj)) (fun j hj _ e => by have := of_decide_eq_true e; omega) hR hX fun m2 a2 w2 h2 => ih (k + 1) m2 a2 w2 (by omega) ?_
      have e : (fun j => j == k || decide (j < k)) = fun j => decide (j < k + 1) := by
        funext j
        rw [Bool.eq_iff_iff]
        simp only [Bool.or_eq_true, beq_iff_eq, decide_eq_true_eq]
        omega
      rw [← e]; exact h2
  have := key ops.size 0 m a w (by omega) (by
    have e : (fun j : Nat => decide (j < 0)) = fun _ => false := by funext j; simp
    rw [e]; exact RI.start hT hrep rfl rfl rfl rfl)
  rw [List.range_eq_range']
  exact this
end
end Go.Ev
