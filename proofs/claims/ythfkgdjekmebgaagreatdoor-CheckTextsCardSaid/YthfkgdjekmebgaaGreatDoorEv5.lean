/- The evaluator's operations are the model's: arithmetic, comparison, slicing, literals. Plain lemmas. -/
import Derived.Test.YthfkgdjekmebgaaGreatDoorEv4
namespace Go.Ev
open Go
set_option linter.unusedVariables false
set_option linter.unusedSimpArgs false
set_option linter.unusedSectionVars false
variable [Env]

theorem bnd_i {x : Option AV} {X : Option Value} {m : Mp} {d most k : Nat} (h : bnd x d most = some k) (hx : ∀ v, x = some v → ∃ V, X = some V ∧ Rel m v V) (hn : x = none → X = none) :
    (X = none ∧ k = d ∧ x = none) ∨ ∃ q, X = some (.int q (k : Int)) ∧ k ≤ most := by
  unfold bnd at h
  split at h
  · cases h; exact .inl ⟨hn rfl, rfl, rfl⟩
  · rename_i q i
    obtain ⟨V, h1, h2⟩ := hx _ rfl
    cases h2
    obtain ⟨rfl, h3⟩ := inB_t h
    exact .inr ⟨q, h1, by omega⟩
  · cases h
section
variable {P : Program}
theorem run_sliceBound (q : IntKind) (k y : Nat) (code : BoundsCode) (h : k ≤ y) (w : World) : (Instr.sliceBound (.int q (k : Int)) y code).run P w = .ok k w := by
  have : (0 : Int) ≤ k ∧ (k : Int) ≤ y := ⟨by omega, by omega⟩
  simp [Instr.sliceBound, asIntOf, this, h]
def RelO (m : Mp) (x : Option AV) (X : Option Value) : Prop := (x = none → X = none) ∧ ∀ v, x = some v → ∃ V, X = some V ∧ Rel m v V
theorem run_bnds {m : Mp} {n c' c a h q : Nat} {lo hi mx : Option AV} {LO HI MX : Option Value} (e : bnds n c' lo hi mx = some (a, h, q)) (hc : c' ≤ c) (h1 : RelO m lo LO) (h2 : RelO m hi HI) (h3 : RelO m mx MX) (b : Bool) (w : World) :
    ∃ q', (Instr.sliceBounds b n c LO HI MX).run P w = .ok (a, h, q') w ∧ a ≤ h ∧ (h ≤ c' ∨ h = n) ∧ (mx = none → q' = c ∧ q = c') ∧ (mx ≠ none → q' = q ∧ h ≤ q ∧ q ≤ c') := by
  unfold bnds at e
  split at e
  · have e3 := h3.1 rfl
    subst e3
    split at e
    · rename_i h' eh
      split at e
      · rename_i l el
        cases e
        have gl : (LO = none ∧ a = 0 ∧ lo = none) ∨ ∃ q', LO = some (.int q' (a : Int)) ∧ a ≤ h := bnd_i el h1.2 h1.1
        have gh : (HI = none ∧ h = n ∧ hi = none) ∨ ∃ q', HI = some (.int q' (h : Int)) ∧ h ≤ c' := bnd_i eh h2.2 h2.1
        refine ⟨c, ?_, ?_, ?_, fun _ => ⟨rfl, rfl⟩, fun e => absurd rfl e⟩
        · rcases gl with ⟨rfl, rfl, _⟩ | ⟨ql, rfl, hl⟩ <;> rcases gh with ⟨rfl, rfl, eh0⟩ | ⟨qh, rfl, hh⟩
          · simp [Instr.sliceBounds]
          · simp [Instr.sliceBounds, run_sliceBound _ _ _ _ (Nat.le_trans hh hc)]
          · simp [Instr.sliceBounds, run_sliceBound _ _ _ _ hl]
          · simp [Instr.sliceBounds, run_sliceBound _ _ _ _ hl, run_sliceBound _ _ _ _ (Nat.le_trans hh hc)]
        · rcases gl with ⟨_, rfl, _⟩ | ⟨_, _, hl⟩
          · exact Nat.zero_le _
          · exact hl
        · rcases gh with ⟨_, rfl, _⟩ | ⟨_, _, hh⟩
          · exact .inr rfl
          · exact .inl hh
      · cases e
    · cases e
  · rename_i x
    split at e
    · rename_i y q' eq
      split at e
      · rename_i h' eh
        split at e
        · rename_i l el
          cases e
          have gl : (LO = none ∧ a = 0 ∧ lo = none) ∨ ∃ q', LO = some (.int q' (a : Int)) ∧ a ≤ h := bnd_i el h1.2 h1.1
          have gh : (HI = none ∧ h = 0 ∧ some y = none) ∨ ∃ q', HI = some (.int q' (h : Int)) ∧ h ≤ q := bnd_i eh h2.2 h2.1
          have gq : (MX = none ∧ q = 0 ∧ some x = none) ∨ ∃ q', MX = some (.int q' (q : Int)) ∧ q ≤ c' := bnd_i eq h3.2 h3.1
          rcases gh with ⟨_, _, e0⟩ | ⟨qh, rfl, hh⟩
          · cases e0
          rcases gq with ⟨_, _, e0⟩ | ⟨qq, rfl, hq⟩
          · cases e0
          refine ⟨q, ?_, ?_, .inl (Nat.le_trans hh hq), (fun e => by cases e), fun _ => ⟨rfl, hh, hq⟩⟩
          · rcases gl with ⟨rfl, rfl, _⟩ | ⟨ql, rfl, hl⟩
            · simp [Instr.sliceBounds, run_sliceBound _ _ _ _ hh, run_sliceBound _ _ _ _ (Nat.le_trans hq hc)]
            · simp [Instr.sliceBounds, run_sliceBound _ _ _ _ hl, run_sliceBound _ _ _ _ hh, run_sliceBound _ _ _ _ (Nat.le_trans hq hc)]
          · rcases gl with ⟨_, rfl, _⟩ | ⟨_, _, hl⟩
            · exact Nat.zero_le _
            · exact hl
        · cases e
      · cases e
    · cases e
theorem mx_rel {m : Mp} {T : Tr AV} {ρ : Operand → Value} {x : Option Operand} {v : Option AV} (h : evMx T x = some v) (hr : ∀ y z, x = some y → evx T y = some z → Rel m z (ρ y)) : RelO m v (x.map ρ) := by
  unfold evMx at h
  split at h
  · cases h; exact ⟨fun _ => rfl, fun v e => by cases e⟩
  · rename_i y
    split at h
    · rename_i z hz
      cases h
      exact ⟨(fun e => by cases e), (fun v e => by cases e; exact ⟨ρ y, rfl, hr y _ rfl hz⟩)⟩
    · cases h
theorem sl_at (b : Nat) (a q o z : Nat) : (if q = a then (Addr.mk b o none) else (Addr.mk b o none).add (a * z)) = ⟨b, (match Nat.beq q a with | true => o | false => o + a * z), none⟩ := by
  cases e : Nat.beq q a with
  | true => rw [if_pos (beq_t e)]
  | false => rw [if_neg (beq_f e), add_none]
theorem sl_at' (b : Nat) (a q o z : Nat) (B : Nat) : (if q = a then (Addr.mk b (B + o) none) else (Addr.mk b (B + o) none).add (a * z)) = ⟨b, B + (match Nat.beq q a with | true => o | false => o + a * z), none⟩ := by
  rw [sl_at]; cases Nat.beq q a <;> simp [Nat.add_assoc]
theorem slice_run {t e : TypeId} {z n c a h q : Nat} {A : Addr} {LO HI MX : Option Value} {w : World} (hd : P.underlying t = some (.slice e)) (hz : szO P e = some z) (g : (Instr.sliceBounds true n c LO HI MX).run P w = .ok (a, h, q) w) :
    (Instr.sliceAt t (.slice (some A) n c) LO HI MX).run P w = .ok (.slice (some (if q = a then A else A.add (a * z))) (h - a) (q - a)) w := by
  simp only [Instr.sliceAt, Instr.slice, Sem.run_bind, run_und hd, Result.andThen_ok, g, run_size hz, Sem.run_pure]
  by_cases e : q = a
  · simp [e]
  · simp [e]
theorem slice_ok {t : TypeId} {x v : AV} {lo hi mx : Option AV} (h : evSlice P t x lo hi mx = some v) {m : Mp} {X : Value} {LO HI MX : Option Value} (hx : Rel m x X) (h1 : RelO m lo LO) (h2 : RelO m hi HI) (h3 : RelO m mx MX) (w : World) :
    ∃ V, (Instr.sliceAt t X LO HI MX).run P w = .ok V w ∧ Rel m v V := by
  unfold evSlice at h
  split at h
  · rename_i l hd
    cases hx
    rename_i S hS
    split at h
    · rename_i a hh _ e
      cases h
      have e3 := h3.1 rfl
      subst e3
      obtain ⟨q', g, ga, gh, _, _⟩ := run_bnds (P := P) e (Nat.le_refl _) h1 h2 (⟨fun _ => rfl, fun v e => by cases e⟩ : RelO m none none) false w
      have hsz : S.size = l.length := by rw [← hS, Array.length_toList]; rfl
      refine ⟨.string (S.extract a hh), ?_, .s _ _ ?_⟩
      · rw [← hsz] at g
        simp [Instr.sliceAt, Instr.slice, run_und hd, g]
      · rw [← hS]
        simp [ByteArray.data_extract, List.extract_eq_take_drop]
    · cases h
  · rename_i e0 hd
    cases hx
    split at h
    · rename_i z p hz e
      obtain ⟨a, hh, q⟩ := p
      cases h
      obtain ⟨q', g, ga, gh, g1, g2⟩ := run_bnds (P := P) e (Nat.le_refl _) h1 h2 h3 true w
      have hh0 : hh = 0 := by omega
      have hq0 : q' = 0 := by
        cases mx with
        | none => exact (g1 rfl).1
        | some x => have := g2 (by simp); omega
      have ha0 : a = 0 := by omega
      subst hq0; subst hh0; subst ha0
      exact ⟨_, by simp [Instr.sliceAt, Instr.slice, run_und hd, g, run_size hz], .ns⟩
    · cases h
  · rename_i e0 r o n c hd
    cases hx
    rename_i L hL
    split at h
    · rename_i z a hh q hz e
      cases h
      obtain ⟨q', g, ga, gh, g1, g2⟩ := run_bnds (P := P) e (Nat.le_refl _) h1 h2 h3 true w
      have hq : q' = q := by
        cases mx with
        | none => have := g1 rfl; omega
        | some x => exact (g2 (by simp)).1
      subst hq
      refine ⟨_, slice_run hd hz g, ?_⟩
      rw [sl_at']
      exact .sl _ _ _ _ L hL
    · cases h
  · rename_i e0 r o n c hd
    cases hx
    rename_i L hL hn
    split at h
    · rename_i z a hh q hz e
      obtain ⟨q', g, ga, gh, g1, g2⟩ := run_bnds (P := P) (c := L.cap - c) e (by omega) h1 h2 h3 true w
      split at h
      · split at h
        · rename_i hb
          cases h
          have hlt := blt_t hb
          obtain ⟨rfl, hq⟩ := g1 rfl
          refine ⟨_, slice_run hd hz g, ?_⟩
          rw [if_neg (by omega), add_none, Nat.add_assoc, show L.cap - c - a = L.cap - (c + a) by omega]
          exact .slr _ _ _ _ L hL (by omega)
        · cases h
      · cases h
        obtain ⟨rfl, hq1, hq2⟩ := g2 (by simp)
        refine ⟨_, slice_run hd hz g, ?_⟩
        rw [sl_at']
        exact .sl _ _ _ _ L hL
    · cases h
  · rename_i n e0 r o hd
    cases hx
    rename_i L hL
    split at h
    · rename_i z a hh q hz e
      cases h
      obtain ⟨q', g, ga, gh, g1, g2⟩ := run_bnds (P := P) e (Nat.le_refl _) h1 h2 h3 false w
      have hq : q' = q := by
        cases mx with
        | none => have := g1 rfl; omega
        | some x => exact (g2 (by simp)).1
      subst hq
      refine ⟨.slice (some (if q' = a then (Addr.mk L.block (L.base + o) none) else (Addr.mk L.block (L.base + o) none).add (a * z))) (hh - a) (q' - a), ?_, ?_⟩
      · simp only [Instr.sliceAt, Sem.run_bind, run_und hd, Result.andThen_ok, g, run_size hz, Sem.run_pure, Instr.sureAddr]
      · rw [sl_at']; exact .sl _ _ _ _ L hL
    · cases h
  · cases h
theorem ok_slice {T : Tr AV} {H : Tr AO} {nx : Nat} {o : Oper} {u : Ou} {t : TypeId} {x : Operand} {lo hi mx : Option Operand} (ho : o.op = .slice t x lo hi mx) (h : evOp P T H nx (.slice t x lo hi mx) = some (.ok u)) : Goal P T H nx o u := by
  simp only [evOp] at h
  split at h
  · rename_i v0 a b c hx h1 h2 h3
    obtain ⟨v, hv, hu⟩ := lift_inv h
    refine goal_pure hu fun X m ρ w hr hp => ?_
    obtain ⟨V, g1, g2⟩ := slice_ok hv (hr x _ (by rw [ho]; simp [Op.operands]) hx) (mx_rel h1 fun y z e hz => hr y z (by rw [ho]; subst e; simp [Op.operands]) hz)
      (mx_rel h2 fun y z e hz => hr y z (by rw [ho]; subst e; simp [Op.operands]) hz) (mx_rel h3 fun y z e hz => hr y z (by rw [ho]; subst e; simp [Op.operands]) hz) w
    refine ⟨V, ?_, g2⟩
    unfold execOp; rw [ho]
    exact run_v g1
  · cases h

/-! Comparison and arithmetic. -/
theorem noIf_ok : ∀ (d : Nat) (t : TypeId), noIf P d t = true → ∀ D, d ≤ D → P.eqGuardType D t = false
  | 0, t, h, D, hD => by simp [noIf] at h
  | d + 1, t, h, D, hD => by
    obtain ⟨D, rfl⟩ : ∃ E, D = E + 1 := ⟨D - 1, by omega⟩
    simp only [noIf] at h
    simp only [Program.eqGuardType]
    split at h
    · cases h
    · rename_i fs hf
      rw [hf]
      simp only []
      rw [Bool.eq_false_iff]
      intro hc
      rw [Array.any_eq_true'] at hc
      obtain ⟨f, hf1, hf2⟩ := hc
      have h3 := List.all_eq_true.1 h f (by simpa using hf1)
      simp only [Bool.and_eq_true, bne_iff_ne, ne_eq] at hf2
      simp only [Bool.or_eq_true, beq_iff_eq] at h3
      rcases h3 with h3 | h3
      · exact hf2.1 h3
      · have := noIf_ok d f.type h3 D (by omega)
        rw [this] at hf2; cases hf2.2
    · rename_i n e hf
      rw [hf]
      exact noIf_ok d e h D (by omega)
    · rename_i n1 n2 n3
      cases hu : P.underlying t with
      | none => rfl
      | some d' =>
        cases d' <;> first
          | rfl
          | exact absurd hu (n1 _)
          | exact absurd hu (n2 _)
          | exact absurd hu (n3 _ _)
set_option maxHeartbeats 2000000 in
theorem evEq_ok : ∀ (d : Nat) (t : TypeId) (x y : AV) (b : Bool), evEq P d t x y = some b → ∀ (m : Mp) (X Y : Value), Rel m x X → Rel m y Y → ∀ D, d ≤ D → ∀ w, (Op.equalIn D t X Y).run P w = .ok b w
  | 0, t, x, y, b, h => by simp [evEq] at h
  | d + 1, t, x, y, b, h => by
    intro m X Y hx hy D hD w
    obtain ⟨D, rfl⟩ : ∃ E, D = E + 1 := ⟨D - 1, by omega⟩
    have go : ∀ (fl : List Field) (p q : List AV) (A B : Array Value) (b : Bool), eqFl P (evEq P d) p q fl = some b → RelL m p A.toList → RelL m q B.toList → ∀ w, (Op.eqFields D A B fl).run P w = .ok b w := by
      intro fl
      induction fl with
      | nil => intro p q A B b h _ _ w; simp [eqFl] at h; subst h; simp [Op.eqFields]
      | cons f fl ih =>
        intro p q A B b h hA hB w
        simp only [eqFl] at h
        split at h
        · rename_i hn
          have hn' : f.name = "_" := by simpa using hn
          simp only [Op.eqFields, hn', ne_eq, not_true_eq_false, if_false]
          exact ih p q A B b h hA hB w
        · rename_i hn
          have hn' : f.name ≠ "_" := by simpa using hn
          split at h
          · rename_i x1 y1 e1 e2
            obtain ⟨V1, g1, r1⟩ := run_part e1 hA w
            obtain ⟨V2, g2, r2⟩ := run_part e2 hB w
            split at h
            · rename_i e3
              have g3 := evEq_ok d f.type x1 y1 true e3 m V1 V2 r1 r2 D (by omega) w
              simp only [Op.eqFields, if_pos hn', Sem.run_bind, g1, g2, g3, Result.andThen_ok, Bool.not_true, Bool.false_eq_true, if_false]
              exact ih p q A B b h hA hB w
            · rename_i e3
              cases h
              have g3 := evEq_ok d f.type x1 y1 false e3 m V1 V2 r1 r2 D (by omega) w
              simp [Op.eqFields, if_pos hn', Sem.run_bind, g1, g2, g3]
            · cases h
          · cases h
    simp only [evEq] at h
    split at h
    · rename_i hd; cases hx; cases hy; cases h; simp [Op.equalIn, run_und hd]
    · rename_i hd; cases hx; cases hy
      split at h
      · rename_i e; subst e; cases h; simp [Op.equalIn, run_und hd, ieq_eq]
      · cases h
    · rename_i hd; cases hx; cases hy
      rename_i n h1 h2
      split at h
      · rename_i e; subst e
        have hne : ∀ {lo hi q : Int}, rngNe lo hi q = some b → lo ≤ n → n ≤ hi → b = false ∧ n ≠ q := by
          intro lo hi q h a1 a2
          unfold rngNe at h
          split at h
          · rename_i e; rw [ile_eq, decide_eq_false_iff_not] at e; cases h; exact ⟨rfl, by omega⟩
          · split at h
            · rename_i e; rw [ile_eq, decide_eq_false_iff_not] at e; cases h; exact ⟨rfl, by omega⟩
            · cases h
        obtain ⟨rfl, hq⟩ := hne h h1 h2
        simp [Op.equalIn, run_und hd, hq]
      · cases h
    · rename_i hd; cases hx; cases hy; cases h
      rename_i S1 h1 S2 h2
      simp only [Op.equalIn, Sem.run_bind, run_und hd, Result.andThen_ok, Sem.run_pure]
      rw [seq'_eq, beq_toListBytes, ByteArray.toList_eq, ByteArray.toList_eq, h1, h2]
    · rename_i hd; cases hx; cases hy; cases h; simp [Op.equalIn, run_und hd]
    · rename_i hd; cases hx; cases hy; cases h; simp [Op.equalIn, run_und hd]
    · rename_i hd; cases hx; cases hy; cases h; simp [Op.equalIn, run_und hd]
    · rename_i hd; cases hx; cases hy; cases h; simp [Op.equalIn, run_und hd]
    · rename_i hd; cases hx; cases hy <;> (cases h; simp [Op.equalIn, run_und hd])
    · rename_i hd; cases hy; cases hx <;> (cases h; simp [Op.equalIn, run_und hd])
    · rename_i hd; cases hx; cases hy; cases h; simp [Op.equalIn, run_und hd]
    · rename_i hd; cases hx; cases hy; cases h; simp [Op.equalIn, run_und hd]
    · rename_i hd; cases hx; cases hy; cases h; simp [Op.equalIn, run_und hd]
    · rename_i hd; cases hx; cases hy; cases h; simp [Op.equalIn, run_und hd]
    · rename_i hd; cases hx; cases hy; cases h; simp [Op.equalIn, run_und hd]
    · rename_i hd; cases hx; cases hy; cases h; simp [Op.equalIn, run_und hd]
    · rename_i hd; cases hx; cases hy; cases h; simp [Op.equalIn, run_und hd]
    · rename_i hd; cases hx; cases hy; cases h; simp [Op.equalIn, run_und hd]
    · rename_i fs p q hd
      cases hx; cases hy
      rename_i A ha1 ha2 B hb1 hb2
      split at h
      · cases h
      · rename_i hs
        have hf : P.fieldsOf t = fs := by simp [Program.fieldsOf, hd]
        rw [run_equalIn_struct w D t A B (by rw [hf]; exact hd) hs, hf]
        exact go fs.toList p q A B b h ⟨ha1, ha2⟩ ⟨hb1, hb2⟩ w
    · cases h
theorem equal_ok {d : Nat} {t : TypeId} {x y : AV} {b : Bool} (h : evEq P d t x y = some b) (hd : d ≤ 10000) {m : Mp} {X Y : Value} (hx : Rel m x X) (hy : Rel m y Y) (w : World) : (Op.equal t X Y).run P w = .ok b w :=
  evEq_ok d t x y b h m X Y hx hy 10000 hd w
end
end Go.Ev
