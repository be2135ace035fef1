/- A body by the evaluator. Plain lemmas. -/
import Derived.Test.YthfkgdjekmebgaaGreatDoorEv8b
import Derived.Scope
namespace Go.Ev
open Go
set_option linter.unusedVariables false
set_option linter.unusedSimpArgs false
set_option linter.unusedSectionVars false
variable [Env]
section
variable {F : Fence} {P : Program} {eo : Eo} {call : Cs} {N : Nat} {ops : Array Oper}
theorem orAll_bit {bf : Array Nat} : ∀ {l : List Edge} {k : Nat}, (orAll bf l).testBit k = true → ∃ e ∈ l, Region.binds .any e = true ∧ (e.on = k ∨ (bf.getD e.on 0).testBit k = true)
  | [], k, h => by simp [orAll] at h
  | e :: es, k, h => by
    simp only [orAll] at h
    split at h
    · rename_i hb
      have h : ((bit e.on ||| bf.getD e.on 0) ||| orAll bf es).testBit k = true := h
      rw [Nat.testBit_or, Nat.testBit_or, Bool.or_eq_true, Bool.or_eq_true] at h
      rcases h with (h | h) | h
      · rw [bit_tb] at h; exact ⟨e, by simp, hb, .inl (of_decide_eq_true h).symm⟩
      · exact ⟨e, by simp, hb, .inr h⟩
      · obtain ⟨e', h1, h2⟩ := orAll_bit h; exact ⟨e', by simp [h1], h2⟩
    · obtain ⟨e', h1, h2⟩ := orAll_bit h; exact ⟨e', by simp [h1], h2⟩
theorem formOp_at {bf : Array Nat} {o : Oper} {j : Nat} : ∀ (l : List Oper) (i : Nat), formOp bf ops o j l i = true → ∀ k x, l[k]? = some x → i + k < j → (bf.getD j 0).testBit (i + k) = true ∨ x.apart ops o = true
  | [], i, h, k, x, hk, hl => by simp at hk
  | y :: l, i, h, k, x, hk, hl => by
    simp only [formOp, Bool.and_eq_true, Bool.or_eq_true] at h
    cases k with
    | zero =>
      simp at hk; subst hk
      rcases h.1 with (g | g) | g
      · have := ble_t g; omega
      · exact .inl g
      · exact .inr g
    | succ k => rw [show i + (k + 1) = i + 1 + k by omega]; exact formOp_at l (i + 1) h.2 k x (by simpa using hk) (by omega)
theorem formOps_at {bf : Array Nat} {all : List Oper} : ∀ (l : List Oper) (i : Nat), formOps bf ops all l i = true → ∀ k o, l[k]? = some o → (∀ e ∈ o.after, Region.binds .any e = true → e.on < i + k) ∧ bf.getD (i + k) 0 = orAll bf o.after.toList ∧ formOp bf ops o (i + k) all 0 = true
  | [], i, h, k, x, hk => by simp at hk
  | y :: l, i, h, k, x, hk => by
    simp only [formOps, Bool.and_eq_true] at h
    cases k with
    | zero =>
      simp at hk; subst hk
      refine ⟨fun e he hb => ?_, beq_t h.1.1.1.2, h.1.2⟩
      have := Array.all_eq_true'.1 h.1.1.1.1 e he
      rw [hb] at this
      simpa using blt_t (by simpa using this)
    | succ k => rw [show i + (k + 1) = i + 1 + k by omega]; exact formOps_at l (i + 1) h.2 k x (by simpa using hk)
theorem form_at (h : formOk ops = true) {j : Nat} {o : Oper} (ho : ops[j]? = some o) : (∀ e ∈ o.after, Region.binds .any e = true → e.on < j) ∧ (Region.before ops).getD j 0 = orAll (Region.before ops) o.after.toList ∧
    ∀ i x, ops[i]? = some x → i < j → ((Region.before ops).getD j 0).testBit i = true ∨ x.apart ops o = true := by
  obtain ⟨h1, h2, h3⟩ := formOps_at ops.toList 0 h j o (by simpa using ho)
  rw [Nat.zero_add] at h1 h2 h3
  exact ⟨h1, h2, fun i x hi hl => by simpa using formOp_at ops.toList 0 h3 i x (by simpa using hi) (by omega)⟩
theorem chk1_at {bf : Nat} {y : Inf} : ∀ {l : List Inf}, chk1 bf y l = true → ∀ x ∈ l, bf.testBit x.i = true ∨ apartI x y = true
  | [], _, x, hx => by cases hx
  | z :: l, h, x, hx => by
    simp only [chk1, Bool.and_eq_true, Bool.or_eq_true] at h
    cases hx with
    | head => exact h.1
    | tail _ hx => exact chk1_at h.2 x hx
theorem chkAll_pw {bf : Array Nat} : ∀ {l : List Inf}, chkAll bf l = true → l.Pairwise fun y x => (bf.getD y.i 0).testBit x.i = true ∨ apartI x y = true
  | [], _ => .nil
  | y :: l, h => by
    simp only [chkAll, Bool.and_eq_true] at h
    exact .cons (fun x hx => chk1_at h.1 x hx) (chkAll_pw h.2)
theorem apartI_dyn {x y : Inf} (h : apartI x y = true) : (∀ r, x.W.testBit r = true → y.R.testBit r = false) ∧ (∀ r, y.W.testBit r = true → x.R.testBit r = false) ∧ ∀ r, y.R.testBit r = true → ¬ (x.a ≤ r ∧ r < x.z) := by
  unfold apartI at h
  simp only [Bool.and_eq_true] at h
  obtain ⟨⟨h1, h2⟩, h3⟩ := h
  have h1 : x.W &&& y.R = 0 := beq_t h1
  have h2 : y.W &&& x.R = 0 := beq_t h2
  have h3 : (y.R >>> x.a) % 2 ^ (x.z - x.a) = 0 := beq_t h3
  have dis : ∀ a b : Nat, a &&& b = 0 → ∀ r, a.testBit r = true → b.testBit r = false := fun a b e r ha => by
    have := congrArg (fun n => n.testBit r) e
    simp only [Nat.testBit_and, Nat.zero_testBit, ha, Bool.true_and] at this
    exact this
  refine ⟨dis _ _ h1, dis _ _ h2, fun r hr hc => ?_⟩
  have := congrArg (fun n => n.testBit (r - x.a)) h3
  simp only [Nat.testBit_mod_two_pow, Nat.testBit_shiftRight, Nat.zero_testBit, Bool.and_eq_false_iff, decide_eq_false_iff_not] at this
  rcases this with g | g
  · omega
  · rw [show x.a + (r - x.a) = r by omega, hr] at g; cases g
/-- Two operations that are not bound may change places. -/
theorem apt_of {st : Nat → St} {us : Nat → Ou} (h : Run F P eo call N ops st us) (hf : formOk ops = true) (hc : chkAll (Region.before ops) (loud ((List.range' 0 ops.size).map fun k => infOf k (st k) (us k)).reverse) = true)
    {i k : Nat} (hik : i < k) (hk : k < ops.size) : ((Region.before ops).getD k 0).testBit i = true ∨ Apt st us ops i k := by
  cases hb : ((Region.before ops).getD k 0).testBit i with
  | true => exact .inl rfl
  | false =>
    right
    have hst : ∀ oi ok, ops[i]? = some oi → ops[k]? = some ok → (∀ d, oi.dst = some d → d ∉ ok.looksAt ops) ∧ (∀ d, oi.dst = some d → ok.dst ≠ some d) ∧ (∀ d, ok.dst = some d → d ∉ oi.looksAt ops) := by
      intro oi ok h1 h2
      have := ((form_at hf h2).2.2 i oi h1 hik).resolve_left (by rw [hb]; simp)
      exact Oper.apart_spec this
    have hki := h.keep (k := i) (by omega)
    have hkk := h.keep hk
    by_cases qi : quietI (infOf i (st i) (us i)) = true
    · unfold quietI infOf at qi
      simp only [Bool.and_eq_true] at qi
      have hR := beq_t qi.1
      have hz := beq_t qi.2
      have hW : ∀ r, (us i).W.testBit r = true → False := fun r hr => by have := (hki.wr r hr).1; rw [hR] at this; simp at this
      exact ⟨fun r hr => (hW r hr).elim, fun r _ => by rw [hR]; simp, fun r _ e => by have := e.1; have := e.2; omega, hst⟩
    · by_cases qk : quietI (infOf k (st k) (us k)) = true
      · unfold quietI infOf at qk
        simp only [Bool.and_eq_true] at qk
        have hR := beq_t qk.1
        have hW : ∀ r, (us k).W.testBit r = true → False := fun r hr => by have := (hkk.wr r hr).1; rw [hR] at this; simp at this
        exact ⟨fun r _ => by rw [hR]; simp, fun r hr => (hW r hr).elim, fun r hr => by rw [hR] at hr; simp at hr, hst⟩
      · have hp := chkAll_pw hc
        unfold loud at hp
        rw [List.pairwise_filter, List.pairwise_reverse, List.pairwise_map, List.pairwise_iff_getElem] at hp
        have g := hp i k (by simp; omega) (by simp; omega) hik
        simp only [List.getElem_range', Nat.one_mul, Nat.zero_add] at g
        have g := g (by simp [qk]) (by simp [qi])
        rcases g with g | g
        · have g : ((Region.before ops).getD k 0).testBit i = true := g
          rw [hb] at g; cases g
        · obtain ⟨d1, d2, d3⟩ := apartI_dyn g
          exact ⟨d1, d2, d3, hst⟩
/-- A region, as the draw takes its operations. -/
theorem draw_ok (hF : Wd F) {id : Nat} (hm : P.follows .mixedOrders = true) {st : Nat → St} {us : Nat → Ou} (h : Run F P eo call N ops st us) (hf : formOk ops = true) (hc : chkAll (Region.before ops) (loud ((List.range' 0 ops.size).map fun k => infOf k (st k) (us k)).reverse) = true)
    {X : Nat → Prop} {m : Mp} {a : Act} {w : World} {Q : Exit → Act → World → Prop} (hT : TRel m (st 0).T.get N a) (hrep : RepOn P X m (st 0).H.get w) (hR : ∀ r, (st ops.size).R.testBit r = true → X r ∨ ((st 0).nx ≤ r ∧ r < (st ops.size).nx))
    (hX : ∀ r, (st 0).nx ≤ r → r < (st ops.size).nx → m r = none ∧ ¬ X r)
    (hQ : ∀ m' a' w', TRel m' (st ops.size).T.get N a' → (a'.defers = a.defers ∧ Kd w w') → RepOn P (fun r => X r ∨ ((st 0).nx ≤ r ∧ r < (st ops.size).nx)) m' (st ops.size).H.get w' → Mv (st ops.size).W (st 0).nx (st ops.size).nx m w m' w' → Q .normal a' w') : (Code.region id ops true).wpIn F 0 P Q a w := by
  refine wp_region_inv hm (fun l a' w' => (∃ m', RI P N ops st us X m a w l m' a' w') ∧ ∀ j, j < ops.size → l j = true → ∀ i, ((Region.before ops).getD j 0).testBit i = true → l i = true) (fun i o ho => (form_at hf ho).1) ⟨⟨m, RI.start hT hrep rfl rfl rfl rfl⟩, fun j _ e => by cases e⟩ ?_ ?_
  · rintro l a' w' i ⟨⟨m', hi⟩, hcl⟩ hlt hli hdep
    have ho : ops[i]? = some ops[i] := Array.getElem?_eq_getElem hlt
    have hpre : ∀ k, ((Region.before ops).getD i 0).testBit k = true → l k = true := by
      intro k hk
      rw [(form_at hf ho).2.1] at hk
      obtain ⟨e, e1, e2, e3⟩ := orAll_bit hk
      have he : e ∈ ops[i].after := by simpa using e1
      have h1 := hdep _ ho e he e2
      rcases e3 with e3 | e3
      · rw [← e3]; exact h1
      · have := (form_at hf ho).1 e he e2
        exact hcl e.on (by omega) h1 k e3
    refine hi.step hF h ho hli (fun k hk => ?_) (fun k hk hks hlk => ?_) hR hX fun m2 a2 w2 h2 => ⟨⟨m2, h2⟩, fun j hj hlj k hk => ?_⟩
    · rcases apt_of h hf hc hk hlt with g | g
      · exact .inl (hpre k g)
      · exact .inr g
    · rcases apt_of h hf hc hk hks with g | g
      · have := hcl k hks hlk i g; rw [hli] at this; cases this
      · exact g
    · simp only [Bool.or_eq_true, beq_iff_eq] at hlj ⊢
      rcases hlj with e | e
      · subst e; exact .inr (hpre k hk)
      · exact .inr (hcl j hj e k hk)
  · rintro l a' w' hl ⟨⟨m', hi⟩, _⟩
    obtain ⟨g1, g2, g3, g4⟩ := hi.done h hl
    exact hQ m' a' w' g1 g2 g3 g4
/-- A region in the order of the text. -/
theorem text_ok (hF : Wd F) {id : Nat} {st : Nat → St} {us : Nat → Ou} (h : Run F P eo call N ops st us)
    {X : Nat → Prop} {m : Mp} {a : Act} {w : World} {Q : Exit → Act → World → Prop} (hT : TRel m (st 0).T.get N a) (hrep : RepOn P X m (st 0).H.get w) (hR : ∀ r, (st ops.size).R.testBit r = true → X r ∨ ((st 0).nx ≤ r ∧ r < (st ops.size).nx))
    (hX : ∀ r, (st 0).nx ≤ r → r < (st ops.size).nx → m r = none ∧ ¬ X r)
    (hQ : ∀ m' a' w', TRel m' (st ops.size).T.get N a' → (a'.defers = a.defers ∧ Kd w w') → RepOn P (fun r => X r ∨ ((st 0).nx ≤ r ∧ r < (st ops.size).nx)) m' (st ops.size).H.get w' → Mv (st ops.size).W (st 0).nx (st ops.size).nx m w m' w' → Q .normal a' w') : (Code.region id ops false).wpIn F 0 P Q a w := by
  refine wpIn_region ?_
  have key : ∀ n k m' a' w', k + n = ops.size → RI P N ops st us X m a w (fun j => decide (j < k)) m' a' w' → wpOpsIn F 0 P ops Q (List.range' k n) a' w' := by
    intro n
    induction n with
    | zero =>
      intro k m' a' w' hk hi
      obtain ⟨g1, g2, g3, g4⟩ := hi.done h (fun i hi' => decide_eq_true (by omega))
      exact hQ m' a' w' g1 g2 g3 g4
    | succ n ih =>
      intro k m' a' w' hk hi
      rw [List.range'_succ, wpOpsIn_cons]
      have hlt : k < ops.size := by omega
      refine hi.step hF h (Array.getElem?_eq_getElem hlt) (by simp) (fun j hj => .inl (decide_eq_true hj)) (fun j hj _ e => by have := of_decide_eq_true e; omega) hR hX fun m2 a2 w2 h2 => ih (k + 1) m2 a2 w2 (by omega) ?_
      have e : (fun j => j == k || decide (j < k)) = fun j => decide (j < k + 1) := by
        funext j
        rw [Bool.eq_iff_iff]
        simp only [Bool.or_eq_true, beq_iff_eq, decide_eq_true_eq]
        omega
      rw [← e]; exact h2
  have := key ops.size 0 m a w (by omega) (by
    have e : (fun j : Nat => decide (j < 0)) = fun _ => false := by funext j; simp
    rw [e]; exact RI.start hT hrep rfl rfl rfl rfl)
  rw [List.range_eq_range']
  exact this
end
end Go.Ev
