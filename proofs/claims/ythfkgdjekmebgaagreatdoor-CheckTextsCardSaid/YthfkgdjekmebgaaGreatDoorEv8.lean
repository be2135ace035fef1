/- A region's operations, in the order of the text or as the draw takes them. Plain lemmas. -/
import Derived.Test.YthfkgdjekmebgaaGreatDoorEv7
namespace Go.Ev
open Go
set_option linter.unusedVariables false
set_option linter.unusedSimpArgs false
set_option linter.unusedSectionVars false
variable [Env]
section
variable {P : Program}
theorem Mv.comp {W1 W2 W a z : Nat} {m m1 m2 : Mp} {w w1 w2 : World} (h1 : Mv W1 a z m w m1 w1) (h2 : Mv W2 a z m1 w1 m2 w2) (e1 : ∀ r, W1.testBit r = true → W.testBit r = true) (e2 : ∀ r, W2.testBit r = true → W.testBit r = true) : Mv W a z m w m2 w2 := by
  have hs := h1.size
  refine ⟨fun r L h => h2.ext r L (h1.ext r L h), fun r L h => ?_, Nat.le_trans h1.size h2.size, fun k hk hw => ?_, h2.os.trans h1.os, h2.tape.trans h1.tape, h2.output.trans h1.output⟩
  · rcases h2.new r L h with h | ⟨ha, hz, h⟩
    · rcases h1.new r L h with h | ⟨ha, hz, h⟩
      · exact .inl h
      · refine .inr ⟨ha, hz, ?_⟩
        rcases h with h | ⟨r0, L0, hb, hm, he⟩
        · exact .inl h
        · exact .inr ⟨r0, L0, e1 _ hb, hm, he⟩
    · refine .inr ⟨ha, hz, ?_⟩
      rcases h with h | ⟨r0, L0, hb, hm, he⟩
      · exact .inl (by omega)
      · rcases h1.new r0 L0 hm with hm | ⟨_, _, h⟩
        · exact .inr ⟨r0, L0, e2 _ hb, hm, he⟩
        · rcases h with h | ⟨r1, L1, hb1, hm1, hq⟩
          · exact .inl (by omega)
          · exact .inr ⟨r1, L1, e1 _ hb1, hm1, hq.trans he⟩
  · rw [h2.fr k (by omega) ?_, h1.fr k hk fun r L hb hm => hw r L (e1 _ hb) hm]
    intro r L hb hm e
    rcases h1.new r L hm with hm | ⟨_, _, h⟩
    · exact hw r L (e2 _ hb) hm e
    · rcases h with h | ⟨r0, L0, hb0, hm0, he0⟩
      · omega
      · exact hw r0 L0 (e1 _ hb0) hm0 (he0.trans e)
theorem Mv.range {W a z a' z' : Nat} {m m' : Mp} {w w' : World} (h : Mv W a z m w m' w') (ha : a' ≤ a) (hz : z ≤ z') : Mv W a' z' m w m' w' :=
  ⟨h.ext, fun r L e => (h.new r L e).imp id fun ⟨x, y, q⟩ => ⟨by omega, by omega, q⟩, h.size, h.fr, h.os, h.tape, h.output⟩
theorem RepO.heap {m : Mp} {L : Loc} {o : AO} {w w' : World} (hb : w'.heap = w.heap) (h : RepO P m L o w) : RepO P m L o w' := h.keep P (fun _ _ e => e) (by rw [hb])
theorem RepOn.heap {X : Nat → Prop} {m : Mp} {h : Nat → Option AO} {w w' : World} (hb : w'.heap = w.heap) (hr : RepOn P X m h w) : RepOn P X m h w' :=
  ⟨fun r o hx e => let ⟨L, a, b⟩ := hr.rep r o hx e; ⟨L, a, b.heap hb⟩, hr.inj, Env.hp hb hr.env⟩
/-- The tmps stand for the evaluator's. -/
def TRel (m : Mp) (T : Nat → Option AV) (N : Nat) (a : Act) : Prop := a.tmps.size = N ∧ ∀ t v, T t = some v → ∃ V, a.tmps[t]? = some V ∧ Rel m v V
theorem TRel.mono {m m' : Mp} {T : Nat → Option AV} {N : Nat} {a : Act} (hm : ∀ r L, m r = some L → m' r = some L) (h : TRel m T N a) : TRel m' T N a :=
  ⟨h.1, fun t v e => let ⟨V, x, y⟩ := h.2 t v e; ⟨V, x, y.mono hm⟩⟩
def Bnd (H : Tr AO) (nx : Nat) : Prop := ∀ r, H.get r ≠ none → r < nx
theorem Keep.bnd {H : Tr AO} {nx : Nat} {u : Ou} (h : Keep H nx u) (hb : Bnd H nx) : Bnd u.H u.nx := by
  intro r hr
  by_cases hn : nx ≤ r ∧ r < u.nx
  · exact hn.2
  · cases hw : u.W.testBit r with
    | true => have := hb r (h.wr r hw).2; have := h.le; omega
    | false => rw [h.kp r hw hn] at hr; have := hb r hr; have := h.le; omega
/-- The fences that are met: none; within a round. -/
inductive Wd : Fence → Prop where
  | fn : Wd Fence.wide
  | rd (l : Nat) : Wd (Fence.wide.inRound l)
theorem Wd.ok {F : Fence} (h : Wd F) (f : FuncId) : F.fn f := by cases h <;> trivial
theorem Wd.n {F : Fence} (h : Wd F) : F.depth.isSome = true → 1 ≤ 0 := by cases h <;> (intro e; cases e)
theorem Wd.room {F : Fence} (h : Wd F) (n : Nat) : F.room n := by cases h <;> (intro d e; cases e)
theorem Wd.calls {F : Fence} (h : Wd F) {n : Nat} {f : FuncId} {A : Array Value} {w : World} {R : Ending → World → Prop} (hc : Calls P f A w R) : CallsIn F n P f A w R := by
  cases h with
  | fn => exact callsIn_wide.2 hc
  | rd l => exact callsIn_wide (n := n).2 hc
theorem Wd.round {F : Fence} (h : Wd F) {n l : Nat} {f : FuncId} {T : Array Value} {a b : Code} {w : World} {R : Ending → World → Prop} (hc : RoundIn Fence.wide n P l f T a b w R) : RoundIn F n P l f T a b w R := by
  cases h with
  | fn => exact hc
  | rd l => exact hc
/-- What is asked of the operations' evaluator. -/
def StepOk (F : Fence) (P : Program) (eo : Eo) (call : Cs) : Prop := ∀ s o u, evStep eo call s o = some u → Bnd s.H s.nx → Keep s.H s.nx u ∧
  ∀ (X : Nat → Prop) m a w K Q, OpR m s.T a.eval o.op → Pre P X m s.H s.nx u w →
    (∀ m' V w', Rel m' u.v V → Mv u.W s.nx u.nx m w m' w' → RepOn P (fun r => X r ∨ (s.nx ≤ r ∧ r < u.nx)) m' u.H.get w' → K (a.put o.dst V) w') → o.wpIn F 0 P a w K Q
variable {F : Fence} {eo : Eo} {call : Cs} {N : Nat} {ops : Array Oper}
theorem One.keep (hs : StepOk F P eo call) {o : Oper} {s s1 : St} {u : Ou} (h : One eo call N ops o s s1 u) (hb : Bnd s.H s.nx) : Keep s.H s.nx u := by
  rcases h.run with ⟨_, rfl⟩ | ⟨_, h⟩
  · exact keep_pure _ _ _ _ (live_0 _)
  · exact (hs s o u h hb).1
theorem One.get {o : Oper} {s s1 : St} {u : Ou} (h : One eo call N ops o s s1 u) (t : Nat) : s1.T.get t = if o.dst = some t then some u.v else s.T.get t := by
  have hT := h.T
  unfold putT at hT
  split at hT
  · rename_i hd; rw [← Option.some.inj hT, if_neg (by rw [hd]; simp)]
  · rename_i d hd
    split at hT
    · rw [← Option.some.inj hT, Tr.get_set, hd]
      by_cases e : t = d
      · subst e; simp
      · rw [if_neg e, if_neg (by simp; exact fun h => e h.symm)]
    · cases hT
theorem One.dlt {o : Oper} {s s1 : St} {u : Ou} (h : One eo call N ops o s s1 u) {d : Tmp} (hd : o.dst = some d) : d < N := by
  have hT := h.T
  unfold putT at hT
  rw [hd] at hT
  simp only [] at hT
  split at hT
  · rename_i hb; exact blt_t hb
  · cases hT
end
section
variable (st : Nat → St) (us : Nat → Ou) (ops : Array Oper)
def own (k r : Nat) : Bool := (us k).W.testBit r || (decide ((st k).nx ≤ r) && decide (r < (us k).nx))
/-- Memory behind the operations S. -/
noncomputable def hS (S : Nat → Bool) : Nat → Nat → Option AO
  | 0, r => (st 0).H.get r
  | k + 1, r => if (S k && own st us k r) = true then (us k).H.get r else hS S k r
def dstO (k : Nat) : Option Tmp := (ops[k]?).bind (·.dst)
/-- The tmps behind the operations S. -/
noncomputable def tS (S : Nat → Bool) : Nat → Nat → Option AV
  | 0, t => (st 0).T.get t
  | k + 1, t => if (S k && (dstO ops k == some t)) = true then some (us k).v else tS S k t
/-- Two operations (i stands ahead of k in the text) may change places. -/
structure Apt (i k : Nat) : Prop where
  wr : ∀ r, (us i).W.testBit r = true → (us k).R.testBit r = false
  rw : ∀ r, (us k).W.testBit r = true → (us i).R.testBit r = false
  nw : ∀ r, (us k).R.testBit r = true → ¬ ((st i).nx ≤ r ∧ r < (us i).nx)
  d1 : ∀ oi ok, ops[i]? = some oi → ops[k]? = some ok → (∀ d, oi.dst = some d → d ∉ ok.looksAt ops) ∧ (∀ d, oi.dst = some d → ok.dst ≠ some d) ∧ (∀ d, ok.dst = some d → d ∉ oi.looksAt ops)
end
section
variable {F : Fence} {P : Program} {eo : Eo} {call : Cs} {N : Nat} {ops : Array Oper} {st : Nat → St} {us : Nat → Ou}
/-- What is known of a region's run on plain data. -/
structure Run (F : Fence) (P : Program) (eo : Eo) (call : Cs) (N : Nat) (ops : Array Oper) (st : Nat → St) (us : Nat → Ou) : Prop where
  one : ∀ k o, ops[k]? = some o → One eo call N ops o (st k) (st (k + 1)) (us k)
  step : StepOk F P eo call
  bnd : Bnd (st 0).H (st 0).nx
theorem Run.at {st us} (h : Run F P eo call N ops st us) {k : Nat} (hk : k < ops.size) : One eo call N ops ops[k] (st k) (st (k + 1)) (us k) := h.one k _ (Array.getElem?_eq_getElem hk)
theorem Run.bndAt {st us} (h : Run F P eo call N ops st us) : ∀ k, k ≤ ops.size → Bnd (st k).H (st k).nx
  | 0, _ => h.bnd
  | k + 1, hk => by
    have hb := h.bndAt k (by omega)
    have := ((h.at (k := k) (by omega)).keep h.step hb).bnd hb
    rw [(h.at (k := k) (by omega)).H, (h.at (k := k) (by omega)).nx]; exact this
theorem Run.keep {st us} (h : Run F P eo call N ops st us) {k : Nat} (hk : k < ops.size) : Keep (st k).H (st k).nx (us k) := (h.at hk).keep h.step (h.bndAt k (by omega))
theorem Run.mono {st us} (h : Run F P eo call N ops st us) {i : Nat} : ∀ k, i ≤ k → k ≤ ops.size → (st i).nx ≤ (st k).nx
  | 0, h1, _ => by have : i = 0 := by omega
                   subst this; exact Nat.le_refl _
  | k + 1, h1, h2 => by
    by_cases e : i = k + 1
    · subst e; exact Nat.le_refl _
    · have := h.mono (i := i) k (by omega) (by omega)
      have := (h.keep (k := k) (by omega)).le
      rw [(h.at (k := k) (by omega)).nx]; omega
theorem Run.W {st us} (h : Run F P eo call N ops st us) {i : Nat} {r : Nat} (hr : (us i).W.testBit r = true) : ∀ k, i < k → k ≤ ops.size → (st k).W.testBit r = true
  | 0, h1, _ => by omega
  | k + 1, h1, h2 => by
    rw [(h.at (k := k) (by omega)).W]
    by_cases e : i = k
    · subst e; exact or_r hr
    · exact or_l (h.W hr k (by omega) (by omega))
theorem Run.R {st us} (h : Run F P eo call N ops st us) {i : Nat} {r : Nat} (hr : (us i).R.testBit r = true) : ∀ k, i < k → k ≤ ops.size → (st k).R.testBit r = true
  | 0, h1, _ => by omega
  | k + 1, h1, h2 => by
    rw [(h.at (k := k) (by omega)).R]
    by_cases e : i = k
    · subst e; exact or_r hr
    · exact or_l (h.R hr k (by omega) (by omega))
theorem Run.stepH {st us} (h : Run F P eo call N ops st us) {k : Nat} (hk : k < ops.size) {r : Nat} (ho : own st us k r = false) : (st (k + 1)).H.get r = (st k).H.get r := by
  unfold own at ho
  simp only [Bool.or_eq_false_iff, Bool.and_eq_false_iff, decide_eq_false_iff_not] at ho
  rw [(h.at hk).H]
  exact (h.keep hk).kp r ho.1 (fun e => by rcases ho.2 with q | q <;> omega)
theorem Run.rlt {st us} (h : Run F P eo call N ops st us) {i : Nat} (hi : i < ops.size) {r : Nat} (hr : (us i).R.testBit r = true) : r < (st i).nx :=
  h.bndAt i (by omega) r ((h.keep hi).rd r hr)
/-- Memory that an operation looks at is as in the order of the text. -/
theorem agreeH {st us} (h : Run F P eo call N ops st us) {S : Nat → Bool} {i : Nat} (hi : i < ops.size) (hSi : S i = false) (h1 : ∀ k, k < i → S k = true ∨ Apt st us ops k i) (h2 : ∀ k, i < k → k < ops.size → S k = true → Apt st us ops i k) {r : Nat} (hr : (us i).R.testBit r = true) :
    hS st us S ops.size r = (st i).H.get r := by
  have lo : ∀ k, k ≤ i → hS st us S k r = (st k).H.get r := by
    intro k
    induction k with
    | zero => intro _; rfl
    | succ k ih =>
      intro hk
      have ih := ih (by omega)
      simp only [hS]
      cases hSk : S k with
      | true =>
        cases ho : own st us k r with
        | true => simp only [Bool.and_self, if_pos]; rw [(h.at (k := k) (by omega)).H]
        | false => simp only [Bool.and_false, Bool.false_eq_true, if_false]; rw [ih, h.stepH (by omega) ho]
      | false =>
        simp only [Bool.false_and, Bool.false_eq_true, if_false]
        have ap := (h1 k (by omega)).resolve_left (by rw [hSk]; simp)
        rw [ih, h.stepH (by omega)]
        unfold own
        cases hw : (us k).W.testBit r with
        | true => have := ap.wr r hw; rw [hr] at this; cases this
        | false =>
          have := ap.nw r hr
          simp only [Bool.false_or, Bool.and_eq_false_iff, decide_eq_false_iff_not]
          by_cases e : (st k).nx ≤ r
          · right; exact fun q => this ⟨e, q⟩
          · left; exact e
  have hi' : ∀ k, i ≤ k → k ≤ ops.size → hS st us S k r = (st i).H.get r := by
    intro k
    induction k with
    | zero => intro h0 _; have : i = 0 := by omega
              subst this; exact lo 0 (Nat.le_refl _)
    | succ k ih =>
      intro h3 h4
      by_cases e : i = k + 1
      · rw [← e]; exact lo i (Nat.le_refl _)
      · have ih := ih (by omega) (by omega)
        simp only [hS]
        cases hSk : S k with
        | false => simpa using ih
        | true =>
          have hne : i ≠ k := fun e => by rw [e] at hSi; rw [hSi] at hSk; cases hSk
          have ap := h2 k (by omega) (by omega) hSk
          have ho : own st us k r = false := by
            unfold own
            cases hw : (us k).W.testBit r with
            | true => have := ap.rw r hw; rw [hr] at this; cases this
            | false =>
              have g1 := h.rlt hi hr
              have g2 := h.mono k (i := i) (by omega) (by omega)
              simp only [Bool.false_or, Bool.and_eq_false_iff, decide_eq_false_iff_not]
              left; omega
          rw [ho]; simpa using ih
  exact hi' _ (by omega) (Nat.le_refl _)
theorem agreeT {st us} (h : Run F P eo call N ops st us) {S : Nat → Bool} {i : Nat} {oi : Oper} (ho : ops[i]? = some oi) (hSi : S i = false) (h1 : ∀ k, k < i → S k = true ∨ Apt st us ops k i) (h2 : ∀ k, i < k → k < ops.size → S k = true → Apt st us ops i k) {t : Tmp} (ht : t ∈ oi.looksAt ops) :
    tS st us ops S ops.size t = (st i).T.get t := by
  have hi : i < ops.size := (Array.getElem?_eq_some_iff.1 ho).1
  have dk : ∀ k (hk : k < ops.size), dstO ops k = ops[k].dst := fun k hk => by simp [dstO, hk]
  have lo : ∀ k, k ≤ i → tS st us ops S k t = (st k).T.get t := by
    intro k
    induction k with
    | zero => intro _; rfl
    | succ k ih =>
      intro hk
      have ih := ih (by omega)
      have hks : k < ops.size := by omega
      simp only [tS]
      rw [(h.at hks).get t, dk k hks]
      cases hSk : S k with
      | true =>
        by_cases e : ops[k].dst = some t
        · rw [if_pos (by simp [e]), if_pos e]
        · rw [if_neg (by simp [e]), if_neg e, ih]
      | false =>
        have ap := (h1 k (by omega)).resolve_left (by rw [hSk]; simp)
        have hd := (ap.d1 ops[k] oi (Array.getElem?_eq_getElem hks) ho).1
        rw [if_neg (by simp), if_neg (fun e => hd t e ht), ih]
  have hi' : ∀ k, i ≤ k → k ≤ ops.size → tS st us ops S k t = (st i).T.get t := by
    intro k
    induction k with
    | zero => intro h0 _; have : i = 0 := by omega
              subst this; exact lo 0 (Nat.le_refl _)
    | succ k ih =>
      intro h3 h4
      by_cases e : i = k + 1
      · rw [← e]; exact lo i (Nat.le_refl _)
      · have ih := ih (by omega) (by omega)
        have hks : k < ops.size := by omega
        simp only [tS]
        rw [dk k hks]
        cases hSk : S k with
        | false => simpa using ih
        | true =>
          have hne : i ≠ k := fun e => by rw [e] at hSi; rw [hSi] at hSk; cases hSk
          have ap := h2 k (by omega) hks hSk
          have hd := (ap.d1 oi ops[k] ho (Array.getElem?_eq_getElem hks)).2.2
          rw [if_neg (by simp; exact fun e => hd t e ht)]; exact ih
  exact hi' _ (by omega) (Nat.le_refl _)
theorem hS_ins_no {S : Nat → Bool} {i r : Nat} (hr : own st us i r = false) : ∀ k, hS st us (fun j => j == i || S j) k r = hS st us S k r
  | 0 => rfl
  | k + 1 => by
    simp only [hS]
    by_cases e : k = i
    · subst e; simp [hr, hS_ins_no hr k]
    · have : (k == i) = false := by simp [e]
      simp only [this, Bool.false_or, hS_ins_no hr k]
theorem hS_ins_yes (h : Run F P eo call N ops st us) {S : Nat → Bool} {i r : Nat} (hi : i < ops.size) (h2 : ∀ k, i < k → k < ops.size → S k = true → Apt st us ops i k) (hr : own st us i r = true) : ∀ k, i < k → k ≤ ops.size → hS st us (fun j => j == i || S j) k r = (us i).H.get r
  | 0, h1, _ => by omega
  | k + 1, h1, h3 => by
    simp only [hS]
    by_cases e : k = i
    · subst e; simp [hr]
    · have hb : (k == i) = false := by simp [e]
      have ih := hS_ins_yes h hi h2 hr k (by omega) (by omega)
      simp only [hb, Bool.false_or]
      cases hSk : S k with
      | false => simpa using ih
      | true =>
        have ap := h2 k (by omega) (by omega) hSk
        have ho : own st us k r = false := by
          have g2 := h.mono k (i := i + 1) (by omega) (by omega)
          rw [(h.at hi).nx] at g2
          have g3 := (h.keep hi).le
          unfold own at hr ⊢
          rw [Bool.or_eq_true] at hr
          have hnw : (us k).W.testBit r = false := by
            cases hw : (us k).W.testBit r with
            | false => rfl
            | true =>
              have hR := ((h.keep (k := k) (by omega)).wr r hw).1
              rcases hr with hr | hr
              · have := ap.wr r hr; rw [hR] at this; cases this
              · simp only [Bool.and_eq_true, decide_eq_true_eq] at hr
                exact absurd hr (ap.nw r hR)
          rw [hnw]
          simp only [Bool.false_or, Bool.and_eq_false_iff, decide_eq_false_iff_not]
          left
          rcases hr with hr | hr
          · have := h.bndAt i (by omega) r ((h.keep hi).wr r hr).2; omega
          · simp only [Bool.and_eq_true, decide_eq_true_eq] at hr; omega
        rw [ho]; simpa using ih
theorem tS_ins_no {S : Nat → Bool} {i t : Nat} (hr : dstO ops i ≠ some t) : ∀ k, tS st us ops (fun j => j == i || S j) k t = tS st us ops S k t
  | 0 => rfl
  | k + 1 => by
    simp only [tS]
    by_cases e : k = i
    · subst e
      have : (dstO ops k == some t) = false := by simp [hr]
      simp [this, tS_ins_no hr k]
    · have : (k == i) = false := by simp [e]
      simp only [this, Bool.false_or, tS_ins_no hr k]
theorem tS_ins_yes {S : Nat → Bool} {i t : Nat} (hi : i < ops.size) (h2 : ∀ k, i < k → k < ops.size → S k = true → Apt st us ops i k) (hr : dstO ops i = some t) : ∀ k, i < k → k ≤ ops.size → tS st us ops (fun j => j == i || S j) k t = some (us i).v
  | 0, h1, _ => by omega
  | k + 1, h1, h3 => by
    simp only [tS]
    by_cases e : k = i
    · subst e; simp [hr]
    · have hb : (k == i) = false := by simp [e]
      have ih := tS_ins_yes hi h2 hr k (by omega) (by omega)
      simp only [hb, Bool.false_or]
      cases hSk : S k with
      | false => simpa using ih
      | true =>
        have hks : k < ops.size := by omega
        have ap := h2 k (by omega) hks hSk
        have hd := (ap.d1 ops[i] ops[k] (Array.getElem?_eq_getElem hi) (Array.getElem?_eq_getElem hks)).2.1
        have e1 : ops[i].dst = some t := by simpa [dstO, hi] using hr
        have : (dstO ops k == some t) = false := by simpa [dstO, hks] using hd t e1
        rw [this]; simpa using ih
theorem tS_full (h : Run F P eo call N ops st us) {S : Nat → Bool} (hS : ∀ i, i < ops.size → S i = true) (t : Nat) : ∀ k, k ≤ ops.size → tS st us ops S k t = (st k).T.get t
  | 0, _ => rfl
  | k + 1, hk => by
    have hks : k < ops.size := by omega
    simp only [tS]
    rw [(h.at hks).get t, hS k hks, tS_full h hS t k (by omega)]
    have : dstO ops k = ops[k].dst := by simp [dstO, hks]
    rw [this]
    by_cases e : ops[k].dst = some t
    · rw [if_pos (by simp [e]), if_pos e]
    · rw [if_neg (by simp [e]), if_neg e]
theorem hS_full (h : Run F P eo call N ops st us) {S : Nat → Bool} (hSt : ∀ i, i < ops.size → S i = true) (r : Nat) : ∀ k, k ≤ ops.size → hS st us S k r = (st k).H.get r
  | 0, _ => rfl
  | k + 1, hk => by
    have hks : k < ops.size := by omega
    simp only [hS]
    rw [hSt k hks, hS_full h hSt r k (by omega)]
    cases ho : own st us k r with
    | true => simp [(h.at hks).H]
    | false => simp [h.stepH hks ho]
end
end Go.Ev
