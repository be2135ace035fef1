/- The evaluator's operations are the model's: calls; all of them. Plain lemmas. Ahead of it: The evaluator's operations are the model's: copy, clear, length, maps, iterators, conversions. Plain lemmas. The evaluator's operations are the model's: length, maps, iterators, conversions. Plain lemmas. The evaluator's operations are the model's: maps. Plain lemmas. The evaluator's operations are the model's: maps that are written, iterators, conversions. Plain lemmas. The evaluator's operations are the model's: iterators, conversions, calls; all of them. Plain lemmas. -/
import Derived.Test.YtmhiblmgadmgcaaDoorU12
import Derived.Test.YtmhiblmgadmgcaaDoorUEv9
import Derived.Test.YtmhiblmgadmgcaaDoorUEv8e
namespace Go.Ev
open Go
set_option linter.unusedVariables false
set_option linter.unusedSimpArgs false
set_option linter.unusedSectionVars false
variable [Env]
section
variable {P : Program}
/-- What a builtin does: its value. -/
def BGoal (P : Program) (H : Tr AO) (nx : Nat) (u : Ou) (x : (args : Array Value) → Sem Next) (args : List AV) : Prop :=
  Keep H nx u ∧ ∀ X m w (A : Array Value), RelL m args A.toList → Pre P X m H nx u w → Does P (x A) X nx u m w
theorem arr1 {m : Mp} {a : AV} {A : Array Value} (h : RelL m [a] A.toList) : ∃ V, A = #[V] ∧ Rel m a V := by
  obtain ⟨V, l, e, h1, h2⟩ := h.cons_inv
  have := h2.nil_inv
  subst this
  exact ⟨V, by cases A; simpa using e, h1⟩
theorem arr2 {m : Mp} {a b : AV} {A : Array Value} (h : RelL m [a, b] A.toList) : ∃ V W, A = #[V, W] ∧ Rel m a V ∧ Rel m b W := by
  obtain ⟨V, l, e, h1, h2⟩ := h.cons_inv
  obtain ⟨W, l', e', h3, h4⟩ := h2.cons_inv
  have := h4.nil_inv
  subst this
  subst e'
  exact ⟨V, W, by cases A; simpa using e, h1, h3⟩
theorem copy_ok {H : Tr AO} {nx : Nat} {tys : Array TypeId} {d x : AV} {u : Ou} {ty : TypeId} (h : evCopy P H nx tys d x = some (.ok u)) :
    BGoal P H nx u (fun A => Builtin.copy_ tys ty A >>= fun y => (pure (Next.value y) : Sem Next)) [d, x] := by
  unfold evCopy at h
  split at h
  · rename_i td htd
    split at h
    · rename_i e hd
      split at h
      · rename_i z hz
        split at h
        · have nil : ∀ n, u = ⟨.i .i64 0, H, nx, 0, 0⟩ → (∀ m V, Rel m x V → ∀ w : World, (Builtin.lenOf V).run P w = .ok n w ∧ ∃ A, (Builtin.firstCells z 0 V).run P w = .ok A w) →
              BGoal P H nx u (fun A => Builtin.copy_ tys ty A >>= fun y => (pure (Next.value y) : Sem Next)) [.ns, x] := by
            intro n hu hx
            subst hu
            refine ⟨keep_pure _ _ _ _ (live_0 _), fun X m w A hA hp => ?_⟩
            obtain ⟨V, W, rfl, h1, h2⟩ := arr2 hA
            cases h1
            obtain ⟨g1, B, g2⟩ := hx m W h2 w
            refine does_pure hp (run_v (V := .int .i64 0) ?_) (.i _ _)
            simp [Builtin.copy_, htd, run_und hd, g1, run_size hz, g2, goInt]
          split at h
          · refine nil 0 (pure_inv h) fun m V hV w => ?_
            cases hV; exact ⟨rfl, #[], rfl⟩
          · rename_i r o n c rel
            refine nil n (pure_inv h) fun m V hV w => ?_
            cases hV
            · exact ⟨rfl, _, by simp only [Builtin.firstCells, Nat.zero_mul]; exact run_loadRow0 _ _⟩
            · exact ⟨rfl, _, by simp only [Builtin.firstCells, Nat.zero_mul]; exact run_loadRow0 _ _⟩
          · rename_i l
            refine nil l.length (pure_inv h) fun m V hV w => ?_
            cases hV
            rename_i S hS
            exact ⟨by rw [← hS, Array.length_toList]; rfl, _, rfl⟩
          · cases h
        · rename_i r o k c rel
          split at h
          · rename_i l e' tl xs n rx hrow hc
            split at h
            · rename_i l' hov h1x
              cases h
              have hbr : (bit r ||| rx).testBit r = true := or_l (bit_self r)
              refine ⟨keep_set hrow hbr (live_or (live_bit hrow) (cells_live hc)), fun X m w A hA hp => ?_⟩
              obtain ⟨V, W, rfl, h1, h2⟩ := arr2 hA
              obtain ⟨e1, e2, e3⟩ := first_ok hc h2 hp.rep (fun q hq => hp.R q (or_r hq))
              obtain ⟨B, b1, b2⟩ := e3 (min n k) (Nat.min_le_left _ _)
              have h1x' : (xs.take (min n k * z)).all AV.one = true := List.all_eq_true.2 fun y hy => List.all_eq_true.1 h1x y (List.mem_of_mem_take hy)
              have key : ∀ L, m r = some L → ∀ cp, V = .slice (some ⟨L.block, L.base + o, none⟩) k cp →
                  Does P (Builtin.copy_ tys ty #[V, W] >>= fun y => (pure (Next.value y) : Sem Next)) X nx ⟨.i .i64 (min n k), H.set r (some (.c l' e' tl)), nx, bit r ||| rx, bit r⟩ m w := by
                intro L hL cp hV
                subst hV
                obtain ⟨c1, _, _, c4, c5⟩ := row_over (hp.row hrow hbr hL) hov b2 h1x'
                refine does_set hp hbr hrow hL c4 c5 (.i .i64 _) (.inl (run_v ?_))
                have hm : min n k = (if n ≤ k then n else k) := Nat.min_def
                have b1' := b1 w rfl
                rw [hm] at b1'
                have hv : ((if n ≤ k then n else k : Nat) : Int) = min (n : Int) (k : Int) := by split <;> omega
                simp [Builtin.copy_, htd, run_und hd, e1, run_size hz, b1', c1, goInt, Nat.min_def, hv]
              cases h1
              · rename_i L hL; exact key L hL _ rfl
              · rename_i L hL hn; exact key L hL _ rfl
            · cases h
          · cases h
        · cases h
      · cases h
    · cases h
  · cases h
end
end Go.Ev
namespace Go.Ev
open Go
set_option linter.unusedVariables false
set_option linter.unusedSimpArgs false
set_option linter.unusedSectionVars false
variable [Env]
section
variable {P : Program}
theorem bgoal_pure {H : Tr AO} {nx : Nat} {u : Ou} {v : AV} {R : Nat} {x : Array Value → Sem Next} {args : List AV} (hu : u = ⟨v, H, nx, R, 0⟩) (h : ∀ X m w (A : Array Value), RelL m args A.toList → Pre P X m H nx u w → ∃ V, (x A).run P w = .ok (.value V) w ∧ Rel m v V)
    (hR : ∀ r, R.testBit r = true → H.get r ≠ none := by exact live_0 _) : BGoal P H nx u x args := by
  subst hu
  refine ⟨keep_pure _ _ _ _ hR, fun X m w A hA hp => ?_⟩
  obtain ⟨V, h1, h2⟩ := h X m w A hA hp
  exact does_pure hp h1 h2
theorem len_ok {H : Tr AO} {nx : Nat} {tys : Array TypeId} {t : TypeId} {x : AV} {u : Ou} {ty : TypeId} (ht : tys[0]? = some t) (h : evLen P H nx t x = some (.ok u)) :
    BGoal P H nx u (fun A => Builtin.len_ tys ty A >>= fun y => (pure (Next.value y) : Sem Next)) [x] := by
  unfold evLen at h
  split at h
  · rename_i hd
    unfold evLenS at h
    split at h
    · rename_i l
      refine bgoal_pure (pure_inv h) fun X m w A hA hp => ?_
      obtain ⟨V, rfl, h1⟩ := arr1 hA
      cases h1
      rename_i S hS
      refine ⟨.int .i64 l.length, run_v ?_, .i _ _⟩
      have : S.size = l.length := by rw [← hS, Array.length_toList]; rfl
      simp [Builtin.len_, ht, run_und hd, goInt, this]
    · cases h
  · rename_i n e hd
    refine bgoal_pure (pure_inv h) fun X m w A hA hp => ?_
    obtain ⟨V, rfl, h1⟩ := arr1 hA
    exact ⟨.int .i64 n, run_v (by simp [Builtin.len_, ht, run_und hd, goInt]), .i _ _⟩
  · rename_i e hd
    unfold evLenL at h
    split at h
    · refine bgoal_pure (pure_inv h) fun X m w A hA hp => ?_
      obtain ⟨V, rfl, h1⟩ := arr1 hA
      cases h1
      exact ⟨.int .i64 0, run_v (by simp [Builtin.len_, ht, run_und hd, goInt]), .i _ _⟩
    · rename_i r o n c rel
      refine bgoal_pure (pure_inv h) fun X m w A hA hp => ?_
      obtain ⟨V, rfl, h1⟩ := arr1 hA
      cases h1 <;> exact ⟨.int .i64 n, run_v (by simp [Builtin.len_, ht, run_und hd, goInt]), .i _ _⟩
    · cases h
  · rename_i k e hd
    unfold evLenM at h
    split at h
    · refine bgoal_pure (pure_inv h) fun X m w A hA hp => ?_
      obtain ⟨V, rfl, h1⟩ := arr1 hA
      cases h1
      exact ⟨.int .i64 0, run_v (by simp [Builtin.len_, ht, run_und hd, goInt]), .i _ _⟩
    · rename_i r
      split at h
      · rename_i es cl hrow
        cases h
        refine bgoal_pure rfl (hR := live_bit hrow) fun X m w A hA hp => ?_
        obtain ⟨V, rfl, h1⟩ := arr1 hA
        cases h1
        rename_i L hL
        obtain ⟨E, g1, g2, g3⟩ := hp.row hrow (bit_self r) hL
        refine ⟨.int .i64 es.length, run_v ?_, .i _ _⟩
        simp [Builtin.len_, ht, run_und hd, goInt, getObj, Sem.run, g1, g2]
      · cases h
    · cases h
  · rename_i e hd
    split at h
    · rename_i n e' hd'
      refine bgoal_pure (pure_inv h) fun X m w A hA hp => ?_
      obtain ⟨V, rfl, h1⟩ := arr1 hA
      exact ⟨.int .i64 n, run_v (by simp [Builtin.len_, ht, run_und hd, run_und hd', goInt]), .i _ _⟩
    · cases h
  · cases h
theorem clear_ok {H : Tr AO} {nx : Nat} {tys : Array TypeId} {t : TypeId} {x : AV} {u : Ou} {ty : TypeId} (ht : tys[0]? = some t) (h : evClear P H nx t x = some (.ok u)) :
    BGoal P H nx u (fun A => Builtin.clear_ tys ty A >>= fun y => (pure (Next.value y) : Sem Next)) [x] := by
  unfold evClear at h
  split at h
  · rename_i e hd
    unfold evClearL at h
    split at h
    · refine bgoal_pure (pure_inv h) fun X m w A hA hp => ?_
      obtain ⟨V, rfl, h1⟩ := arr1 hA
      cases h1
      exact ⟨undef, run_v (by simp [Builtin.clear_, ht, run_und hd, undef]), .un m⟩
    · rename_i r o n c rel
      split at h
      · rename_i l e' tl hrow
        split at h
        · rename_i z ze hz hze
          split at h
          · rename_i l' b1 b2 hov
            cases h
            obtain ⟨Z, z1, z2⟩ := run_zero hze
            refine ⟨keep_set hrow (bit_self r) (live_bit hrow), fun X m w A hA hp => ?_⟩
            obtain ⟨V, rfl, h1⟩ := arr1 hA
            have hZ := (absV_rel m z1).cells
            have hrel := rept_rel hZ n
            have hone : (rept ze.cells n).all AV.one = true := by
              have : ∀ n, (rept ze.cells n).all AV.one = true := by
                intro n
                induction n with
                | zero => rfl
                | succ n ih => simp only [rept, List.all_append, b2, ih, Bool.and_self]
              exact this n
            have hzc : Builtin.zeroCells Z.cells n = (Array.range (n * ze.cells.length)).map (Z.cells[· % Z.cells.size]!) := by
              unfold Builtin.zeroCells
              have : Z.cells.size = ze.cells.length := by have := hZ.1; simp at this; omega
              rw [this]
            have key : ∀ L, m r = some L → ∀ cp, V = .slice (some ⟨L.block, L.base + o, none⟩) n cp → Does P (Builtin.clear_ tys ty #[V] >>= fun y => (pure (Next.value y) : Sem Next)) X nx ⟨.un, H.set r (some (.c l' e' tl)), nx, bit r, bit r⟩ m w := by
              intro L hL cp hV
              subst hV
              obtain ⟨c1, _, _, c4, c5⟩ := row_over (hp.row hrow (bit_self r) hL) hov hrel hone
              by_cases hn : n = 0
              · subst hn
                have e0 : ((Array.range (0 * ze.cells.length)).map (Z.cells[· % Z.cells.size]!)).toList = [] := by simp
                rw [e0] at c4 c5
                refine does_set hp (bit_self r) hrow hL c4 c5 (.un m) (.inl (run_v ?_))
                simp [Builtin.clear_, ht, run_und hd, undef, World.setCells]
              · refine does_set hp (bit_self r) hrow hL c4 c5 (.un m) (.inl (run_v ?_))
                cases n with
                | zero => exact (hn rfl).elim
                | succ n =>
                  simp at c1
                  simp only [Builtin.clear_, ht, List.size_toArray, Sem.run_bind]
                  simp [run_und hd, z2, hzc, c1, undef]
            cases h1
            · rename_i L hL; exact key L hL _ rfl
            · rename_i L hL hn; exact key L hL _ rfl
          · cases h
        · cases h
      · cases h
    · cases h
  · cases h
theorem fold_ok {f : AV → AV → Option AV} {g : Value → Value → Sem Value} {m : Mp} {w : World} (hfg : ∀ x y z X Y, f x y = some z → Rel m x X → Rel m y Y → ∃ Z, (g X Y).run P w = .ok Z w ∧ Rel m z Z) : ∀ {l : List AV} {x v : AV} {X : Value} {L : List Value}, foldA f x l = some v → Rel m x X → RelL m l L → ∃ V, (L.foldlM g X).run P w = .ok V w ∧ Rel m v V
  | [], x, v, X, L, h, hx, hl => by
    have := hl.nil_inv; subst this
    simp only [foldA] at h; cases h
    exact ⟨X, rfl, hx⟩
  | y :: l, x, v, X, L, h, hx, hl => by
    obtain ⟨Y, L', rfl, h1, h2⟩ := hl.cons_inv
    simp only [foldA] at h
    split at h
    · rename_i z hz
      obtain ⟨Z, g1, g2⟩ := hfg x y z X Y hz hx h1
      obtain ⟨V, k1, k2⟩ := fold_ok hfg h g2 h2
      exact ⟨V, by simp only [List.foldlM_cons, Sem.run_bind, g1, Result.andThen_ok, k1], k2⟩
    · cases h
theorem min_ok {H : Tr AO} {nx : Nat} {tys : Array TypeId} {args : List AV} {u : Ou} {ty : TypeId} (h : evMin H nx args = some (.ok u)) :
    BGoal P H nx u (fun A => Builtin.min_ tys ty A >>= fun y => (pure (Next.value y) : Sem Next)) args := by
  unfold evMin at h
  split at h
  · rename_i x xs
    split at h
    · rename_i v hv
      refine bgoal_pure (pure_inv h) fun X m w A hA hp => ?_
      obtain ⟨V, A', e, h1, h2⟩ := hA.cons_inv
      obtain ⟨W, k1, k2⟩ := fold_ok (P := P) (w := w) (g := Builtin.min2) (fun x y z X Y hz hx hy => by
        unfold minA at hz
        split at hz
        · rename_i k a
          split at hz
          · rename_i k' b
            cases hx; cases hy; cases hz
            refine ⟨.int k (if b < a then b else a), by simp [Builtin.min2], ?_⟩
            cases e0 : ile a b with
            | true => rw [ile_eq, decide_eq_true_eq] at e0; rw [if_neg (by omega)]; exact .i _ _
            | false => rw [ile_eq, decide_eq_false_iff_not] at e0; rw [if_pos (by omega)]; exact .i _ _
          · cases hz
        · cases hz) hv h1 h2
      exact ⟨W, run_v (by simp only [Builtin.min_, e]; exact k1), k2⟩
    · cases h
  · cases h
theorem max_ok {H : Tr AO} {nx : Nat} {tys : Array TypeId} {args : List AV} {u : Ou} {ty : TypeId} (h : evMax H nx args = some (.ok u)) :
    BGoal P H nx u (fun A => Builtin.max_ tys ty A >>= fun y => (pure (Next.value y) : Sem Next)) args := by
  unfold evMax at h
  split at h
  · rename_i x xs
    split at h
    · rename_i v hv
      refine bgoal_pure (pure_inv h) fun X m w A hA hp => ?_
      obtain ⟨V, A', e, h1, h2⟩ := hA.cons_inv
      obtain ⟨W, k1, k2⟩ := fold_ok (P := P) (w := w) (g := Builtin.max2) (fun x y z X Y hz hx hy => by
        unfold maxA at hz
        split at hz
        · rename_i k a
          split at hz
          · rename_i k' b
            cases hx; cases hy; cases hz
            refine ⟨.int k (if b > a then b else a), by simp [Builtin.max2], ?_⟩
            cases e0 : ile b a with
            | true => rw [ile_eq, decide_eq_true_eq] at e0; rw [if_neg (by omega)]; exact .i _ _
            | false => rw [ile_eq, decide_eq_false_iff_not] at e0; rw [if_pos (by omega)]; exact .i _ _
          · cases hz
        · cases hz) hv h1 h2
      exact ⟨W, run_v (by simp only [Builtin.max_, e]; exact k1), k2⟩
    · cases h
  · cases h
/-- The builtins. -/
theorem builtin_ok {H : Tr AO} {nx : Nat} {b : Builtin} {tys : Array TypeId} {args : List AV} {u : Ou} {ty : TypeId} {cs : Array Bool} (h : evBuiltin P H nx b tys args = some (.ok u)) :
    BGoal P H nx u (fun A => builtin b tys ty cs A) args := by
  have two : ∀ {f : AV → AV → Option Rs} {x : Array Value → Sem Next}, with2 f args = some (.ok u) → (∀ a b, f a b = some (.ok u) → BGoal P H nx u x [a, b]) → BGoal P H nx u x args := by
    intro f x h hf
    unfold with2 at h
    split at h
    · exact hf _ _ h
    · cases h
  have one : ∀ {f : TypeId → AV → Option Rs} {x : Array Value → Sem Next}, with1 f tys args = some (.ok u) → (∀ t a, tys[0]? = some t → f t a = some (.ok u) → BGoal P H nx u x [a]) → BGoal P H nx u x args := by
    intro f x h hf
    unfold with1 at h
    split at h
    · split at h
      · rename_i t ht; exact hf t _ ht h
      · cases h
    · cases h
  cases b <;> first
    | (cases h; done)
    | exact two h fun a b h => by
        obtain ⟨g1, g2⟩ := append_ok h
        refine ⟨g1, fun X m w A hA hp => ?_⟩
        obtain ⟨V, W, rfl, h1, h2⟩ := arr2 hA
        exact g2 X m w V W ty h1 h2 hp
    | exact two h fun a b h => copy_ok h
    | exact one h fun t a ht h => len_ok ht h
    | exact one h fun t a ht h => clear_ok ht h
    | exact min_ok h
    | exact max_ok h
end
end Go.Ev
namespace Go.Ev
open Go
set_option linter.unusedVariables false
set_option linter.unusedSimpArgs false
set_option linter.unusedSectionVars false
variable [Env]
section
variable {P : Program}
theorem keyFl_ok {f : TypeId → AV → Bool} {D : Nat} {e : Bool} (hf : ∀ t v, f t v = true → ∀ m V, Rel m v V → ∀ w, (Instr.checkKey e D t V).run P w = .ok () w) {l : List AV} {m : Mp} {A : Array Value} (hA : RelL m l A.toList) :
    ∀ {fs : List Field}, keyFl P f l fs = true → ∀ w, (forIn fs PUnit.unit fun (fd : Field) (_ : PUnit) => (do
      if fd.name ≠ "_" then Instr.checkKey e D fd.type (← part fd.type A fd.offset)
      pure (ForInStep.yield PUnit.unit) : Sem (ForInStep PUnit))).run P w = .ok PUnit.unit w
  | [], _, w => by simp
  | fd :: fs, h, w => by
    simp only [keyFl] at h
    split at h
    · rename_i x hx
      simp only [Bool.and_eq_true] at h
      obtain ⟨V, g1, g2⟩ := run_part hx hA w
      have g3 := hf _ _ h.1 m V g2 w
      have ih := keyFl_ok hf hA h.2 w
      simp only [List.forIn_cons, Sem.run_bind]
      by_cases hn : fd.name = "_"
      · simp only [hn, ne_eq, not_true_eq_false, if_false, Sem.run_pure, Result.andThen_ok]
        exact ih
      · simp only [hn, ne_eq, not_false_eq_true, if_true, Sem.run_bind, g1, g3, Sem.run_pure, Result.andThen_ok]
        exact ih
    · cases h
theorem checkKey_ok (e : Bool) : ∀ (d : Nat) (t : TypeId) (v : AV), keyOk P d t v = true → ∀ (m : Mp) (V : Value), Rel m v V → ∀ D, d ≤ D → ∀ w, (Instr.checkKey e D t V).run P w = .ok () w
  | 0, t, v, h => by simp [keyOk] at h
  | d + 1, t, v, h => by
    intro m V hV D hD w
    obtain ⟨D, rfl⟩ : ∃ E, D = E + 1 := ⟨D - 1, by omega⟩
    simp only [keyOk] at h
    split at h
    · rename_i k hd
      split at h
      · cases hV; simp [Instr.checkKey, run_und hd]
      · cases h
    · rename_i hd
      split at h
      · cases hV; simp [Instr.checkKey, run_und hd]
      · cases h
    · rename_i fs hd
      split at h
      · rename_i l
        cases hV
        rename_i A h1 h2
        have := keyFl_ok (P := P) (D := D) (e := e) (fun t v hv m V hV w => checkKey_ok e d t v hv m V hV D (by omega) w) ⟨h1, h2⟩ h w
        simp only [Instr.checkKey, Sem.run_bind, run_und hd, Result.andThen_ok]
        rw [← Array.forIn_toList]
        first
          | exact this
          | (rw [this]; rfl)
          | (simp only [this, Result.andThen_ok, Sem.run_pure])
      · cases h
    · cases h
/-- The entries of a map. -/
def EntR (m : Mp) (es : List (AV × AV × Nat)) (E : List MapEntry) : Prop := es.length = E.length ∧ ∀ (i : Nat) (k v : AV) (b : Nat) (x : MapEntry), es[i]? = some (k, v, b) → E[i]? = some x → Rel m k x.key ∧ Rel m v x.val ∧ x.born = b
theorem EntR.cons_inv {m : Mp} {k v : AV} {b : Nat} {es : List (AV × AV × Nat)} {E : List MapEntry} (h : EntR m ((k, v, b) :: es) E) : ∃ x E', E = x :: E' ∧ Rel m k x.key ∧ Rel m v x.val ∧ x.born = b ∧ EntR m es E' := by
  cases E with
  | nil => have := h.1; simp at this
  | cons x E' =>
    obtain ⟨a1, a2, a3⟩ := h.2 0 k v b x (by simp) (by simp)
    exact ⟨x, E', rfl, a1, a2, a3, by have := h.1; simpa using this, fun i k' v' b' y h1 h2 => h.2 (i + 1) k' v' b' y (by simpa using h1) (by simpa using h2)⟩
theorem EntR.nil_inv {m : Mp} {E : List MapEntry} (h : EntR m [] E) : E = [] := by
  have := h.1; simp at this; exact List.eq_nil_of_length_eq_zero this.symm
/-- What a search finds. -/
def FindR (m : Mp) (E : List MapEntry) (i : Nat) (r : Option (Nat × AV × AV)) (R : Option (Nat × Value)) : Prop :=
  (r = none ∧ R = none) ∨ ∃ j k' v x, r = some (i + j, k', v) ∧ E[j]? = some x ∧ R = some (i + j, x.val) ∧ Rel m k' x.key ∧ Rel m v x.val
theorem FindR.up {m : Mp} {E : List MapEntry} {x0 : MapEntry} {i : Nat} {r : Option (Nat × AV × AV)} {R : Option (Nat × Value)} (h : FindR m E (i + 1) r R) : FindR m (x0 :: E) i r R := by
  rcases h with h | ⟨j, k', v, x, h1, h2, h3, h4, h5⟩
  · exact .inl h
  · exact .inr ⟨j + 1, k', v, x, by rw [h1, show i + 1 + j = i + (j + 1) by omega], by simpa using h2, by rw [h3, show i + 1 + j = i + (j + 1) by omega], h4, h5⟩
theorem ask_ok {kt : TypeId} {k : AV} {m : Mp} {K : Value} (hk : Rel m k K) (w : World) : ∀ {es : List (AV × AV × Nat)} {i : Nat} {r : Option (Nat × AV × AV)} {E : List MapEntry}, findA P kt k es i = some r → EntR m es E → ∃ R, (Instr.findAsking kt K E i).run P w = .ok R w ∧ FindR m E i r R
  | [], i, r, E, h, hE => by
    have := hE.nil_inv; subst this
    simp only [findA] at h; cases h
    exact ⟨none, rfl, .inl ⟨rfl, rfl⟩⟩
  | (k', v, b) :: es, i, r, E, h, hE => by
    obtain ⟨x, E', rfl, h1, h2, _, h3⟩ := hE.cons_inv
    simp only [findA, fEq_eq] at h
    split at h
    · rename_i he
      cases h
      have g := equal_ok he (by omega) hk h1 w
      exact ⟨some (i, x.val), by simp [Instr.findAsking, g], .inr ⟨0, k', v, x, rfl, rfl, rfl, h1, h2⟩⟩
    · rename_i he
      have g := equal_ok he (by omega) hk h1 w
      obtain ⟨R, g1, g2⟩ := ask_ok hk w h h3
      exact ⟨R, by simp [Instr.findAsking, g, g1], g2.up⟩
    · cases h
theorem rngNe_ok {lo hi q n : Int} {b : Bool} (h : rngNe lo hi q = some b) (a1 : lo ≤ n) (a2 : n ≤ hi) : b = false ∧ n ≠ q := by
  unfold rngNe at h
  split at h
  · rename_i e; rw [ile_eq, decide_eq_false_iff_not] at e; cases h; exact ⟨rfl, by omega⟩
  · split at h
    · rename_i e; rw [ile_eq, decide_eq_false_iff_not] at e; cases h; exact ⟨rfl, by omega⟩
    · cases h
theorem now_same {kt : TypeId} {d : TypeDesc} {k k' : AV} {m : Mp} {K K' : Value} {b b' : Bool} (hd : P.underlying kt = some d) (hk : Rel m k K) (hk' : Rel m k' K') (h : Instr.sameNow d K K' = some b) (he : evEq P 8 kt k k' = some b') : b = b' := by
  unfold Instr.sameNow at h
  simp only [evEq, hd] at he
  split at h
  · cases hk <;> cases hk' <;> try (simp at he; done)
    · split at h
      · rename_i e
        subst e
        simp at h he
        rw [← h, ← he, ieq_eq]
      · cases h
    · rename_i lo hi h1 h2
      split at h
      · rename_i e
        subst e
        simp at h he
        obtain ⟨rfl, hq⟩ := rngNe_ok he h1 h2
        rw [← h]; simp [hq]
      · cases h
  · cases hk <;> cases hk' <;> try (simp at he; done)
    rename_i S1 h1 S2 h2
    simp at h he
    rw [← h, ← he, seq'_eq, beq_toListBytes, ByteArray.toList_eq, ByteArray.toList_eq, h1, h2]
  · cases hk <;> cases hk' <;> try (simp at he; done)
    simp at h he
    rw [← h, ← he]
  · cases h
theorem now_ok {kt : TypeId} {d : TypeDesc} {k : AV} {m : Mp} {K : Value} (hd : P.underlying kt = some d) (hk : Rel m k K) : ∀ {es : List (AV × AV × Nat)} {i : Nat} {r : Option (Nat × AV × AV)} {R : Option (Nat × Value)} {E : List MapEntry}, findA P kt k es i = some r → EntR m es E → Instr.findNow d K E i = some R → FindR m E i r R
  | [], i, r, R, E, h, hE, hn => by
    have := hE.nil_inv; subst this
    simp only [findA] at h; cases h
    simp only [Instr.findNow] at hn; cases hn
    exact .inl ⟨rfl, rfl⟩
  | (k', v, b) :: es, i, r, R, E, h, hE, hn => by
    obtain ⟨x, E', rfl, h1, h2, _, h3⟩ := hE.cons_inv
    simp only [findA, fEq_eq] at h
    simp only [Instr.findNow] at hn
    split at hn
    · rename_i hs
      cases hn
      split at h
      · cases h; exact .inr ⟨0, k', v, x, rfl, rfl, rfl, h1, h2⟩
      · rename_i he; have := now_same hd hk h1 hs he; cases this
      · cases h
    · rename_i hs
      split at h
      · rename_i he; have := now_same hd hk h1 hs he; cases this
      · exact (now_ok hd hk h h3 hn).up
      · cases h
    · cases hn
theorem find_ok {kt : TypeId} {d : TypeDesc} {k : AV} {m : Mp} {K : Value} (hd : P.underlying kt = some d) (hk : Rel m k K) {es : List (AV × AV × Nat)} {r : Option (Nat × AV × AV)} {E : List MapEntry} (h : findA P kt k es 0 = some r) (hE : EntR m es E) (w : World) :
    ∃ R, (Instr.findKey kt K E).run P w = .ok R w ∧ FindR m E 0 r R := by
  unfold Instr.findKey
  simp only [Sem.run_bind, run_und hd, Result.andThen_ok]
  cases hn : Instr.findNow d K E 0 with
  | some R => exact ⟨R, rfl, now_ok hd hk h hE hn⟩
  | none => exact ask_ok hk w h hE
theorem keyOk_und {t : TypeId} {v : AV} (h : keyOk P 8 t v = true) : ∃ d, P.underlying t = some d := by
  simp only [keyOk] at h
  cases hd : P.underlying t with
  | none => rw [hd] at h; cases h
  | some d => exact ⟨d, rfl⟩
/-! Keys are flat. -/
theorem sameA1_eq {x y : AV} (h : sameA1 x y = true) : x = y := by
  unfold sameA1 at h
  split at h
  · split at h
    · simp at h; rw [h]
    · cases h
  · split at h
    · simp only [Bool.and_eq_true, decide_eq_true_eq, ieq_eq, beq_iff_eq] at h
      rw [h.1, h.2]
    · cases h
  · split at h
    · rw [seq'_eq] at h; simp at h; rw [h]
    · cases h
  · cases h
theorem sameAL_eq : ∀ {x y : List AV}, sameAL x y = true → x = y ∧ ∀ z ∈ x, sameA1 z z = true
  | [], [], _ => ⟨rfl, fun z hz => by cases hz⟩
  | [], _ :: _, h => by simp [sameAL] at h
  | _ :: _, [], h => by simp [sameAL] at h
  | a :: x, b :: y, h => by
    simp only [sameAL, Bool.and_eq_true] at h
    obtain ⟨e1, e2⟩ := sameAL_eq h.2
    have e3 := sameA1_eq h.1
    subst e3; subst e1
    exact ⟨rfl, fun z hz => by cases hz with | head => exact h.1 | tail _ hz => exact e2 z hz⟩
theorem uniq1 {m : Mp} {x : AV} {V W : Value} (h : sameA1 x x = true) (hV : Rel m x V) (hW : Rel m x W) : V = W ∧ ∀ n, Instr.sameBits n V V = true := by
  cases hV <;> first
    | (simp [sameA1] at h; done)
    | (cases hW; exact ⟨rfl, fun n => by cases n <;> simp [Instr.sameBits]⟩)
    | (cases hW
       rename_i S1 h1 S2 h2
       have : S1 = S2 := by
         have e : S1.data.toList = S2.data.toList := h1.trans h2.symm
         have e : S1.data = S2.data := Array.toList_inj.1 e
         cases S1; cases S2; simpa using e
       subst this
       exact ⟨rfl, fun n => by cases n <;> simp [Instr.sameBits, beq_toListBytes]⟩)
theorem uniqA {m : Mp} {x y : AV} {V W : Value} (h : sameA x y = true) (hV : Rel m x V) (hW : Rel m y W) : x = y ∧ V = W ∧ ∀ n, Instr.sameBits (n + 1) V V = true := by
  unfold sameA at h
  split at h
  · rename_i l
    split at h
    · rename_i l'
      obtain ⟨e1, e2⟩ := sameAL_eq h
      subst e1
      cases hV; cases hW
      rename_i A a1 a2 B b1 b2
      have hA : RelL m l A.toList := ⟨a1, a2⟩
      have hB : RelL m l B.toList := ⟨b1, b2⟩
      have key : ∀ (l : List AV) (A B : List Value), (∀ z ∈ l, sameA1 z z = true) → RelL m l A → RelL m l B → A = B ∧ ∀ V ∈ A, ∀ n, Instr.sameBits n V V = true := by
        intro l
        induction l with
        | nil => intro A B _ h1 h2; rw [h1.nil_inv, h2.nil_inv]; exact ⟨rfl, fun V hV => by cases hV⟩
        | cons z l ih =>
          intro A B hz h1 h2
          obtain ⟨V, A', rfl, p1, p2⟩ := h1.cons_inv
          obtain ⟨W, B', rfl, q1, q2⟩ := h2.cons_inv
          obtain ⟨e, f⟩ := ih A' B' (fun y hy => hz y (by simp [hy])) p2 q2
          obtain ⟨e', f'⟩ := uniq1 (hz z (by simp)) p1 q1
          exact ⟨by rw [e, e'], fun U hU => by cases hU with | head => exact f' | tail _ hU => exact f U hU⟩
      obtain ⟨e, f⟩ := key l A.toList B.toList e2 hA hB
      have e' : A = B := Array.toList_inj.1 e
      subst e'
      refine ⟨rfl, rfl, fun n => ?_⟩
      simp only [Instr.sameBits, Bool.and_eq_true]
      refine ⟨by simp, ?_⟩
      rw [List.all_eq_true]
      intro p hp
      have : p.1 = p.2 ∧ p.1 ∈ A.toList := by
        have h1 : ∀ (L : List Value), ∀ p ∈ L.zip L, p.1 = p.2 ∧ p.1 ∈ L := by
          intro L
          induction L with
          | nil => intro p hp; cases hp
          | cons v L ih =>
            intro p hp
            simp only [List.zip_cons_cons] at hp
            cases hp with
            | head => exact ⟨rfl, by simp⟩
            | tail _ hp => exact ⟨(ih p hp).1, by simp [(ih p hp).2]⟩
        exact h1 _ p hp
      obtain ⟨q1, q2⟩ := this
      obtain ⟨p1, p2⟩ := p
      simp only at q1 q2
      subst q1
      exact f _ q2 n
    · cases h
  · have e := sameA1_eq h
    subst e
    obtain ⟨e1, e2⟩ := uniq1 h hV hW
    exact ⟨rfl, e1, fun n => e2 (n + 1)⟩
theorem ent_of {m : Mp} {L : Loc} {es : List (AV × AV × Nat)} {cl : Nat} {w : World} (h : RepO P m L (.m es cl) w) : ∃ E, w.heap[L.block]? = some (.map E cl) ∧ EntR m es E.toList := by
  obtain ⟨E, g1, g2, g3⟩ := h
  exact ⟨E, g1, by simpa using g2.symm, fun i k v b x h1 h2 => g3 i k v b x h1 (by rw [← Array.getElem?_toList]; exact h2)⟩
theorem of_ent {m : Mp} {L : Loc} {es : List (AV × AV × Nat)} {cl : Nat} {w : World} {E : Array MapEntry} (h1 : w.heap[L.block]? = some (.map E cl)) (h2 : EntR m es E.toList) : RepO P m L (.m es cl) w :=
  ⟨E, h1, by have := h2.1; simpa using this.symm, fun i k v b x a1 a2 => h2.2 i k v b x a1 (by rw [Array.getElem?_toList]; exact a2)⟩
theorem run_getObj {w : World} {r : Nat} {o : Obj} (h : w.heap[r]? = some o) (hn : ∀ c e f, o ≠ .cells c e f) : (getObj r).run P w = .ok o w := by
  simp only [getObj, Sem.run, h]
  all_goals cases o <;> first | rfl | exact (hn _ _ _ rfl).elim
theorem run_setObj {w : World} {r : Nat} {o o' : Obj} (h : w.heap[r]? = some o) (hn : ∀ c e f, o ≠ .cells c e f) : (setObj r o').run P w = .ok () { w with heap := w.heap.setIfInBounds r o' } := by
  simp only [setObj, Sem.run, h]
  all_goals cases o <;> first | rfl | exact (hn _ _ _ rfl).elim
theorem wrote_obj {w : World} {r : Nat} {o o' : Obj} (h : w.heap[r]? = some o) : Wrote1 r w { w with heap := w.heap.setIfInBounds r o' } ∧ (World.mk (w.heap.setIfInBounds r o') w.tape w.drawn w.os w.output).heap[r]? = some o' := by
  have hlt := (Array.getElem?_eq_some_iff.1 h).1
  refine ⟨⟨by simp, fun k hk => Array.getElem?_setIfInBounds_ne (fun e => hk e.symm), rfl, rfl, rfl⟩, ?_⟩
  simp [hlt]
theorem lookup_ok {H : Tr AO} {nx : Nat} {t : TypeId} {x k : AV} {ok : Bool} {u : Ou} (h : evLookup P H nx t x k ok = some (.ok u)) : Keep H nx u ∧ ∀ X m w A K, Rel m x A → Rel m k K → Pre P X m H nx u w → Does P (Instr.lookup t A K ok >>= fun y => (pure (Next.value y) : Sem Next)) X nx u m w := by
  unfold evLookup at h
  split at h
  · rename_i kt et hd
    split at h
    · rename_i z hko hz
      obtain ⟨Z, z1, z2⟩ := run_zero hz
      have res : ∀ (m : Mp) (v : AV) (V : Value) (b : Bool), Rel m v V → Rel m (if ok then .t [v, .b b] else v) (if ok then .tuple #[V, .bool b] else V) := by
        intro m v V b hv
        cases ok with
        | true => exact .t_of (.cons hv (.cons (.b b) (.nil m)))
        | false => exact hv
      unfold evLookupM at h
      split at h
      · have hu := pure_inv h
        subst hu
        refine ⟨keep_pure _ _ _ _ (live_0 _), fun X m w A K hx hk hp => ?_⟩
        cases hx
        refine does_pure hp (run_v ?_) (res m z Z false (absV_rel m z1))
        have hck := checkKey_ok (P := P) true 8 kt k hko m K hk 10000 (by omega) w
        obtain ⟨d, hd'⟩ := keyOk_und hko
        obtain ⟨R, f1, f2⟩ := find_ok (P := P) (es := []) (E := []) (r := none) hd' hk rfl ⟨rfl, fun i k v b x h => by simp at h⟩ w
        rcases f2 with ⟨_, rfl⟩ | ⟨j, _, _, _, e, _⟩
        · simp [Instr.lookup, run_und hd, hck, f1, z2]
        · cases e
      · rename_i r
        split at h
        · rename_i es cl hrow
          have base : ∀ (res' : Option (Nat × AV × AV)) (v : AV), findA P kt k es 0 = some res' → u = ⟨v, H, nx, bit r, 0⟩ → (∀ m E R, EntR m es E → FindR m E 0 res' R → ∃ V, (match R with | some (_, v) => (V, true) = (v, true) | none => (V, false) = (Z, false)) ∧ Rel m v (if ok then .tuple #[V, .bool R.isSome] else V)) →
              Keep H nx u ∧ ∀ X m w A K, Rel m (.m r) A → Rel m k K → Pre P X m H nx u w → Does P (Instr.lookup t A K ok >>= fun y => (pure (Next.value y) : Sem Next)) X nx u m w := by
            intro res' v hf hu hv
            subst hu
            refine ⟨keep_pure _ _ _ _ (live_bit hrow), fun X m w A K hx hk hp => ?_⟩
            cases hx
            rename_i L hL
            obtain ⟨E, e1, e2⟩ := ent_of (hp.row hrow (bit_self r) hL)
            obtain ⟨d, hd'⟩ := keyOk_und hko
            obtain ⟨R, f1, f2⟩ := find_ok (P := P) hd' hk hf e2 w
            obtain ⟨V, v1, v2⟩ := hv m E.toList R e2 f2
            have hck := checkKey_ok (P := P) E.isEmpty 8 kt k hko m K hk 10000 (by omega) w
            refine does_pure hp (run_v ?_) v2
            have hg := run_getObj (P := P) e1 (fun c e f h => by cases h)
            cases R with
            | none =>
              simp only [Prod.mk.injEq, and_true] at v1
              subst v1
              simp only [Instr.lookup, Sem.run_bind, run_und hd, hg, hck, f1, z2, Sem.run_pure, Result.andThen_ok, Option.isSome_none]
            | some p =>
              simp only [Prod.mk.injEq, and_true] at v1
              subst v1
              simp only [Instr.lookup, Sem.run_bind, run_und hd, hg, hck, f1, z2, Sem.run_pure, Result.andThen_ok, Option.isSome_some]
          split at h
          · rename_i q1 q2 v hf
            refine base _ _ hf (by simpa using h.symm) fun m E R hE hR => ?_
            rcases hR with ⟨e, _⟩ | ⟨j, k', v', x, e1, e2, e3, e4, e5⟩
            · cases e
            · simp only [Option.some.injEq, Prod.mk.injEq] at e1
              obtain ⟨_, _, rfl⟩ := e1
              subst e3
              exact ⟨x.val, rfl, res m v x.val true e5⟩
          · rename_i hf
            refine base _ _ hf (by simpa using h.symm) fun m E R hE hR => ?_
            rcases hR with ⟨_, rfl⟩ | ⟨j, k', v', x, e1, _⟩
            · exact ⟨Z, rfl, res m z Z false (absV_rel m z1)⟩
            · cases e1
          · cases h
        · cases h
      · cases h
    · cases h
  · cases h
end
end Go.Ev
namespace Go.Ev
open Go
set_option linter.unusedVariables false
set_option linter.unusedSimpArgs false
set_option linter.unusedSectionVars false
variable [Env]
section
variable {P : Program}
theorem setKV_get : ∀ (es : List (AV × AV × Nat)) (i : Nat) (v : AV) (j : Nat), (setKV es i v)[j]? = if j = i then (es[j]?).map (fun x => (x.1, v, x.2.2)) else es[j]?
  | [], i, v, j => by simp [setKV]
  | (k, u, b) :: es, 0, v, j => by
    cases j with
    | zero => simp [setKV]
    | succ j => simp [setKV]
  | e :: es, i + 1, v, j => by
    cases j with
    | zero => simp [setKV]
    | succ j => simp [setKV, setKV_get es i v j]
theorem setKV_len : ∀ (es : List (AV × AV × Nat)) (i : Nat) (v : AV), (setKV es i v).length = es.length
  | [], i, v => rfl
  | (k, u, b) :: es, 0, v => rfl
  | e :: es, i + 1, v => by simp [setKV, setKV_len es i v]
theorem ent_set {m : Mp} {es : List (AV × AV × Nat)} {E : Array MapEntry} {i : Nat} {k' v : AV} {K V : Value} {b : Nat} {u : AV} (h : EntR m es E.toList) (hi : es[i]? = some (k', u, b)) (hk : Rel m k' K) (hv : Rel m v V) :
    EntR m (setKV es i v) (E.modify i fun e => { e with key := K, val := V }).toList := by
  refine ⟨by rw [setKV_len]; simpa using h.1, fun j k2 v2 b2 x h1 h2 => ?_⟩
  rw [setKV_get] at h1
  rw [Array.getElem?_toList, Array.getElem?_modify] at h2
  by_cases e : j = i
  · subst e
    rw [if_pos rfl] at h1 h2
    rw [hi] at h1
    simp only [Option.map_some, Option.some.injEq, Prod.mk.injEq] at h1
    obtain ⟨rfl, rfl, rfl⟩ := h1
    cases hE : E[j]? with
    | none => rw [hE] at h2; cases h2
    | some y =>
      rw [hE] at h2
      simp only [Option.map_some, Option.some.injEq] at h2
      subst h2
      obtain ⟨_, _, q⟩ := h.2 j _ _ _ y hi (by rw [Array.getElem?_toList]; exact hE)
      exact ⟨hk, hv, q⟩
  · rw [if_neg e] at h1
    rw [if_neg (fun q => e q.symm)] at h2
    exact h.2 j k2 v2 b2 x h1 (by rw [Array.getElem?_toList]; exact h2)
theorem ent_push {m : Mp} {es : List (AV × AV × Nat)} {E : Array MapEntry} {k v : AV} {K V : Value} {b : Nat} (h : EntR m es E.toList) (hk : Rel m k K) (hv : Rel m v V) : EntR m (es ++ [(k, v, b)]) (E.push { key := K, val := V, born := b }).toList := by
  have hl : es.length = E.size := by simpa using h.1
  refine ⟨by simp [hl], fun j k2 v2 b2 x h1 h2 => ?_⟩
  rw [Array.getElem?_toList, Array.getElem?_push] at h2
  by_cases e : j = E.size
  · rw [if_pos e] at h2
    rw [List.getElem?_append_right (by omega), show j - es.length = 0 by omega] at h1
    simp at h1 h2
    obtain ⟨rfl, rfl, rfl⟩ := h1
    subst h2
    exact ⟨hk, hv, rfl⟩
  · rw [if_neg e] at h2
    have hj := (Array.getElem?_eq_some_iff.1 h2).1
    rw [List.getElem?_append_left (by omega)] at h1
    exact h.2 j k2 v2 b2 x h1 (by rw [Array.getElem?_toList]; exact h2)
/-- The entry that a search finds. -/
theorem find_at {kt : TypeId} {k : AV} : ∀ {es : List (AV × AV × Nat)} {i j : Nat} {k' v : AV}, findA P kt k es i = some (some (j, k', v)) → i ≤ j ∧ ∃ b, es[j - i]? = some (k', v, b)
  | [], i, j, k', v, h => by simp [findA] at h
  | (k0, v0, b) :: es, i, j, k', v, h => by
    simp only [findA] at h
    split at h
    · simp at h
      obtain ⟨rfl, rfl, rfl⟩ := h
      exact ⟨Nat.le_refl _, b, by simp⟩
    · obtain ⟨h1, b', h2⟩ := find_at h
      exact ⟨by omega, b', by rw [show j - i = (j - (i + 1)) + 1 by omega, List.getElem?_cons_succ]; exact h2⟩
    · cases h
theorem stays {K' K : Value} (h : ∀ n, Instr.sameBits (n + 1) K' K' = true) (e : K' = K) (w : World) : (Instr.keyThatStays K' K).run P w = .ok K w := by
  subst e
  have := h 9999
  simp [Instr.keyThatStays, this]
theorem update_ok {H : Tr AO} {nx : Nat} {t : TypeId} {x k v : AV} {u : Ou} (h : evUpdate P H nx t x k v = some (.ok u)) : Keep H nx u ∧ ∀ X m w A K V, Rel m x A → Rel m k K → Rel m v V → Pre P X m H nx u w → Does P (Instr.mapUpdate t A K V >>= fun _ => (pure Next.skip : Sem Next)) X nx u m w := by
  unfold evUpdate at h
  split at h
  · rename_i kt et hd
    split at h
    · rename_i hko
      unfold evUpdateM at h
      split at h
      · rename_i r
        split at h
        · rename_i es cl hrow
          split at h
          · rename_i i k' q hf
            split at h
            · rename_i hsame
              cases h
              refine ⟨keep_set hrow (bit_self r) (live_bit hrow), fun X m w A K V hx hk hv hp => ?_⟩
              cases hx
              rename_i L hL
              obtain ⟨E, e1, e2⟩ := ent_of (hp.row hrow (bit_self r) hL)
              obtain ⟨d, hd'⟩ := keyOk_und hko
              obtain ⟨R, f1, f2⟩ := find_ok (P := P) hd' hk hf e2 w
              have hck := checkKey_ok (P := P) false 8 kt k hko m K hk 10000 (by omega) w
              have hg := run_getObj (P := P) e1 (fun c e f h => by cases h)
              rcases f2 with ⟨e, _⟩ | ⟨j, k2, v2, y, e3, e4, rfl, e6, e7⟩
              · cases e
              · simp only [Option.some.injEq, Prod.mk.injEq] at e3
                obtain ⟨rfl, rfl, rfl⟩ := e3
                obtain ⟨_, b, hat⟩ := find_at hf
                simp only [Nat.zero_add, Nat.sub_zero] at *
                obtain ⟨q1, q2, q3⟩ := uniqA hsame e6 hk
                have hy : E[j]? = some y := by rw [← Array.getElem?_toList]; exact e4
                have hst := stays (P := P) q3 q2 w
                have hs := run_setObj (P := P) (o' := .map (E.modify j fun e => { e with key := K, val := V }) cl) e1 (fun c e f h => by cases h)
                obtain ⟨w1, w2⟩ := wrote_obj (o' := .map (E.modify j fun e => { e with key := K, val := V }) cl) e1
                refine does_set hp (bit_self r) hrow hL w1 (of_ent w2 (ent_set e2 hat (q2 ▸ e6) hv)) (.un m) (.inr ⟨run_u ?_, rfl⟩)
                simp only [Instr.mapUpdate, Sem.run_bind, run_und hd, hg, hck, f1, Result.andThen_ok, hy, Option.map_some, Option.getD_some, hst, hs]
            · cases h
          · rename_i hf
            cases h
            refine ⟨keep_set hrow (bit_self r) (live_bit hrow), fun X m w A K V hx hk hv hp => ?_⟩
            cases hx
            rename_i L hL
            obtain ⟨E, e1, e2⟩ := ent_of (hp.row hrow (bit_self r) hL)
            obtain ⟨d, hd'⟩ := keyOk_und hko
            obtain ⟨R, f1, f2⟩ := find_ok (P := P) hd' hk hf e2 w
            have hck := checkKey_ok (P := P) false 8 kt k hko m K hk 10000 (by omega) w
            have hg := run_getObj (P := P) e1 (fun c e f h => by cases h)
            rcases f2 with ⟨_, rfl⟩ | ⟨j, k2, v2, y, e3, _⟩
            · have hs := run_setObj (P := P) (o' := .map (E.push { key := K, val := V, born := cl }) (cl + 1)) e1 (fun c e f h => by cases h)
              obtain ⟨w1, w2⟩ := wrote_obj (o' := .map (E.push { key := K, val := V, born := cl }) (cl + 1)) e1
              refine does_set hp (bit_self r) hrow hL w1 (of_ent w2 (ent_push e2 hk hv)) (.un m) (.inr ⟨run_u ?_, rfl⟩)
              simp only [Instr.mapUpdate, Sem.run_bind, run_und hd, hg, hck, f1, Result.andThen_ok, hs]
            · cases e3
          · cases h
        · cases h
      · cases h
    · cases h
  · cases h
theorem born_at {m : Mp} : ∀ {es : List (AV × AV × Nat)} {i b : Nat}, bornAt es i = some b → ∃ k v, es[i]? = some (k, v, b)
  | [], i, b, h => by simp [bornAt] at h
  | (k, v, b') :: es, 0, b, h => by simp [bornAt] at h; subst h; exact ⟨k, v, rfl⟩
  | e :: es, i + 1, b, h => by simp only [bornAt] at h; simpa using born_at (m := m) h
theorem mod_same {E : Array MapEntry} {i : Nat} {y : MapEntry} {K : Value} (h : E[i]? = some y) (e : y.key = K) : (E.modify i fun e => { e with key := K }) = E := by
  apply Array.ext'
  apply List.ext_getElem?
  intro j
  rw [Array.getElem?_toList, Array.getElem?_toList, Array.getElem?_modify]
  by_cases q : i = j
  · subst q
    rw [if_pos rfl, h]
    simp [← e]
  · rw [if_neg q]
theorem entry_ok {H : Tr AO} {nx : Nat} {t : TypeId} {x k : AV} {u : Ou} (h : evEntry P H nx t x k = some (.ok u)) : Keep H nx u ∧ ∀ X m w A K, Rel m x A → Rel m k K → Pre P X m H nx u w → Does P (Instr.mapEntry t A K >>= fun y => (pure (Next.value y) : Sem Next)) X nx u m w := by
  unfold evEntry at h
  split at h
  · rename_i kt et hd
    split at h
    · rename_i z hko hz
      obtain ⟨Z, z1, z2⟩ := run_zero hz
      unfold evEntryM at h
      split at h
      · rename_i r
        split at h
        · rename_i es cl hrow
          split at h
          · rename_i i k' v hf
            split at h
            · rename_i b hsame hb
              have hset : H.set r (some (.m es cl)) = H.set r (some (.m es cl)) := rfl
              cases h
              have hk' : Keep H nx ⟨.t [v, .i .i64 b], H, nx, bit r, bit r⟩ := ⟨Nat.le_refl _, live_bit hrow, fun q hq => ⟨hq, live_bit hrow q hq⟩, fun _ _ _ => rfl⟩
              refine ⟨hk', fun X m w A K hx hk hp => ?_⟩
              cases hx
              rename_i L hL
              obtain ⟨E, e1, e2⟩ := ent_of (hp.row hrow (bit_self r) hL)
              obtain ⟨d, hd'⟩ := keyOk_und hko
              obtain ⟨R, f1, f2⟩ := find_ok (P := P) hd' hk hf e2 w
              have hck := checkKey_ok (P := P) false 8 kt k hko m K hk 10000 (by omega) w
              have hg := run_getObj (P := P) e1 (fun c e f h => by cases h)
              rcases f2 with ⟨e, _⟩ | ⟨j, k2, v2, y, e3, e4, rfl, e6, e7⟩
              · cases e
              · simp only [Option.some.injEq, Prod.mk.injEq] at e3
                obtain ⟨rfl, rfl, rfl⟩ := e3
                simp only [Nat.zero_add, Nat.sub_zero] at *
                obtain ⟨q1, q2, q3⟩ := uniqA hsame e6 hk
                have hy : E[j]? = some y := by rw [← Array.getElem?_toList]; exact e4
                have hst := stays (P := P) q3 q2 w
                have hmod := mod_same hy q2
                have hs := run_setObj (P := P) (o' := .map E cl) e1 (fun c e f h => by cases h)
                obtain ⟨k3, v3, hat⟩ := born_at (m := m) hb
                have hborn := (e2.2 j k3 v3 b y hat e4).2.2
                have hw : (World.mk (w.heap.setIfInBounds L.block (.map E cl)) w.tape w.drawn w.os w.output) = w := by
                  have : w.heap.setIfInBounds L.block (.map E cl) = w.heap := by
                    apply Array.ext'
                    apply List.ext_getElem?
                    intro j
                    rw [Array.getElem?_toList, Array.getElem?_toList, Array.getElem?_setIfInBounds]
                    by_cases q : L.block = j
                    · subst q
                      have := (Array.getElem?_eq_some_iff.1 e1).1
                      rw [if_pos rfl, if_pos this, e1]
                    · rw [if_neg q]
                  rw [this]
                refine ⟨m, .tuple #[y.val, .int .i64 b], w, .inl (run_v ?_), .t_of (.cons e7 (.cons (.i _ _) (.nil m))), (Mv.refl nx m w).more (fun r L e => by simp at e), hp.rep.sub P (fun q hq => hq.elim id fun e => by have := e.1; have := e.2; simp at this; omega) fun _ _ => rfl⟩
                simp only [Instr.mapEntry, Sem.run_bind, run_und hd, hg, hck, f1, Result.andThen_ok, hy, Option.map_some, Option.getD_some, hst, hmod, hs, Sem.run_pure, hborn, goInt]
                exact congrArg (Result.ok _) hw
            · cases h
          · rename_i hf
            cases h
            refine ⟨keep_set hrow (bit_self r) (live_bit hrow), fun X m w A K hx hk hp => ?_⟩
            cases hx
            rename_i L hL
            obtain ⟨E, e1, e2⟩ := ent_of (hp.row hrow (bit_self r) hL)
            obtain ⟨d, hd'⟩ := keyOk_und hko
            obtain ⟨R, f1, f2⟩ := find_ok (P := P) hd' hk hf e2 w
            have hck := checkKey_ok (P := P) false 8 kt k hko m K hk 10000 (by omega) w
            have hg := run_getObj (P := P) e1 (fun c e f h => by cases h)
            rcases f2 with ⟨_, rfl⟩ | ⟨j, k2, v2, y, e3, _⟩
            · have hs := run_setObj (P := P) (o' := .map (E.push { key := K, val := Z, born := cl }) (cl + 1)) e1 (fun c e f h => by cases h)
              obtain ⟨w1, w2⟩ := wrote_obj (o' := .map (E.push { key := K, val := Z, born := cl }) (cl + 1)) e1
              refine does_set hp (bit_self r) hrow hL w1 (of_ent w2 (ent_push e2 hk (absV_rel m z1))) (.t_of (A := #[Z, .int .i64 cl]) (.cons (absV_rel m z1) (.cons (.i _ _) (.nil m)))) (.inl (run_v ?_))
              simp only [Instr.mapEntry, Sem.run_bind, run_und hd, hg, hck, f1, Result.andThen_ok, z2, hs, Sem.run_pure, goInt]
            · cases e3
          · cases h
        · cases h
      · cases h
    · cases h
  · cases h
theorem setBorn_ok {m : Mp} {v : AV} {V : Value} (hv : Rel m v V) : ∀ {es l : List (AV × AV × Nat)} {b : Nat} {E : List MapEntry}, setBorn es b v = some l → EntR m es E → ∃ i E', E.findIdx? (fun e => (e.born : Int) == (b : Int)) = some i ∧ (E.modify i fun e => { e with val := V }) = E' ∧ EntR m l E'
  | [], l, b, E, h, hE => by simp [setBorn] at h
  | (k, u, b') :: es, l, b, E, h, hE => by
    obtain ⟨x, E0, rfl, h1, h2, h3, h4⟩ := hE.cons_inv
    simp only [setBorn] at h
    split at h
    · rename_i hb
      have := beq_t hb; subst this
      cases h
      refine ⟨0, { x with val := V } :: E0, by simp [List.findIdx?_cons, h3], by simp, by simpa using h4.1, fun i k2 v2 b2 y a1 a2 => ?_⟩
      cases i with
      | zero => simp at a1 a2; obtain ⟨rfl, rfl, rfl⟩ := a1; subst a2; exact ⟨h1, hv, h3⟩
      | succ i => exact h4.2 i k2 v2 b2 y (by simpa using a1) (by simpa using a2)
    · rename_i hb
      have hne := beq_f hb
      split at h
      · rename_i l' hl
        cases h
        obtain ⟨i, E', g1, g2, g3⟩ := setBorn_ok hv hl h4
        refine ⟨i + 1, x :: E', ?_, by simp [g2], by simpa using g3.1, fun j k2 v2 b2 y a1 a2 => ?_⟩
        · have : ((x.born : Int) == (b : Int)) = false := by rw [h3]; simp; omega
          simp [List.findIdx?_cons, this, g1]
        · cases j with
          | zero => simp at a1 a2; obtain ⟨rfl, rfl, rfl⟩ := a1; subst a2; exact ⟨h1, h2, h3⟩
          | succ j => exact g3.2 j k2 v2 b2 y (by simpa using a1) (by simpa using a2)
      · cases h
theorem entryS_ok {H : Tr AO} {nx : Nat} {t : TypeId} {x b v : AV} {u : Ou} (h : evEntryS H nx x b v = some (.ok u)) : Keep H nx u ∧ ∀ X m w A B V, Rel m x A → Rel m b B → Rel m v V → Pre P X m H nx u w → Does P (Instr.entryStore t A B V >>= fun _ => (pure Next.skip : Sem Next)) X nx u m w := by
  unfold evEntryS at h
  split at h
  · rename_i r
    split at h
    · rename_i q n
      split at h
      · rename_i n
        split at h
        · rename_i es cl hrow
          split at h
          · rename_i l hl
            cases h
            refine ⟨keep_set hrow (bit_self r) (live_bit hrow), fun X m w A B V hx hb hv hp => ?_⟩
            cases hx; cases hb
            rename_i L hL
            obtain ⟨E, e1, e2⟩ := ent_of (hp.row hrow (bit_self r) hL)
            obtain ⟨i, E', g1, g2, g3⟩ := setBorn_ok hv hl e2
            have hg := run_getObj (P := P) e1 (fun c e f h => by cases h)
            have hs := run_setObj (P := P) (o' := .map (E.modify i fun e => { e with val := V }) cl) e1 (fun c e f h => by cases h)
            obtain ⟨w1, w2⟩ := wrote_obj (o' := .map (E.modify i fun e => { e with val := V }) cl) e1
            have hE' : (E.modify i fun e => { e with val := V }).toList = E' := by rw [← g2]; simp
            have hfi : E.findIdx? (fun e => (e.born : Int) == (n : Int)) = some i := by
              cases E; simpa using g1
            refine does_set hp (bit_self r) hrow hL w1 (of_ent w2 (by rw [hE']; exact g3)) (.un m) (.inr ⟨run_u ?_, rfl⟩)
            simp only [Instr.entryStore, Sem.run_bind, hg, Result.andThen_ok, asInt, asIntOf, Sem.run_pure, Int.ofNat_eq_natCast, hfi, hs]
          · cases h
        · cases h
      · cases h
    · cases h
  · cases h
end
end Go.Ev
namespace Go.Ev
open Go
set_option linter.unusedVariables false
set_option linter.unusedSimpArgs false
set_option linter.unusedSectionVars false
variable [Env]
section
variable {P : Program}
theorem range_ok {H : Tr AO} {nx : Nat} {t : TypeId} {x : AV} {u : Ou} (h : evRange P H nx t x = some (.ok u)) : Keep H nx u ∧ ∀ X m w A, Rel m x A → Pre P X m H nx u w → Does P (Instr.range t A >>= fun y => (pure (Next.value y) : Sem Next)) X nx u m w := by
  unfold evRange at h
  split at h
  · rename_i k e hd
    unfold evRangeM at h
    split at h
    · simp only [newO, Option.some.injEq, Rs.ok.injEq] at h
      subst h
      refine ⟨keep_new _ _ _ _ _ (live_0 _), fun X m w A hx hp => ?_⟩
      cases hx
      refine does_new (L := ⟨w.heap.size, 0, 0⟩) (V := .pointer (some ⟨w.heap.size, 0, none⟩)) hp (made_push w (.mapIter none 0 #[] 0)) rfl (fun hext => ⟨rfl, none, ?_, rfl⟩) (fun hext => .p nx 0 ⟨w.heap.size, 0, 0⟩ (upd_self _ _ _)) (run_v ?_)
      · show (w.heap.push _)[w.heap.size]? = _; simp
      · simp [Instr.range, run_und hd]
    · rename_i r
      split at h
      · rename_i es cl hrow
        cases h
        refine ⟨keep_new _ _ _ _ _ (live_bit hrow), fun X m w A hx hp => ?_⟩
        cases hx
        rename_i L hL
        obtain ⟨E, e1, e2⟩ := ent_of (hp.row hrow (bit_self r) hL)
        have hg := run_getObj (P := P) e1 (fun c e f h => by cases h)
        refine does_new (L := ⟨w.heap.size, 0, 0⟩) (V := .pointer (some ⟨w.heap.size, 0, none⟩)) hp (made_push w (.mapIter (some L.block) cl #[] cl)) rfl (fun hext => ⟨rfl, some L.block, ?_, L, hext _ _ hL, rfl⟩) (fun hext => .p nx 0 ⟨w.heap.size, 0, 0⟩ (upd_self _ _ _)) (run_v ?_)
        · show (w.heap.push _)[w.heap.size]? = _; simp
        · simp [Instr.range, run_und hd, hg]
      · cases h
    · cases h
  · cases h
theorem memN_eq (n : Nat) : ∀ l : List Nat, memN n l = l.contains n
  | [] => rfl
  | x :: xs => by
    simp only [memN, List.contains_cons, memN_eq n xs]
    congr 1
    rw [Bool.eq_iff_iff]
    constructor
    · intro h; have := beq_t h; subst this; simp
    · intro h; simp at h; subst h; exact Nat.beq_refl _
theorem filt_rel {m : Mp} {f : AV × AV × Nat → Bool} {g : MapEntry → Bool} : ∀ {es : List (AV × AV × Nat)} {E : List MapEntry}, EntR m es E → (∀ (k v : AV) (b : Nat) (x : MapEntry), x.born = b → f (k, v, b) = g x) → EntR m (es.filter f) (E.filter g)
  | [], E, h, _ => by rw [h.nil_inv]; exact ⟨rfl, fun i k v b x h => by simp at h⟩
  | (k, v, b) :: es, E, h, hfg => by
    obtain ⟨x, E', rfl, h1, h2, h3, h4⟩ := h.cons_inv
    have ih := filt_rel h4 hfg
    simp only [List.filter_cons, hfg k v b x h3]
    cases g x with
    | false => simpa using ih
    | true =>
      simp only [if_true]
      refine ⟨by simp [ih.1], fun i k2 v2 b2 y a1 a2 => ?_⟩
      cases i with
      | zero => simp at a1 a2; obtain ⟨rfl, rfl, rfl⟩ := a1; subst a2; exact ⟨h1, h2, h3⟩
      | succ i => exact ih.2 i k2 v2 b2 y (by simpa using a1) (by simpa using a2)
theorem all_rel {m : Mp} {f : AV × AV × Nat → Bool} {g : MapEntry → Bool} : ∀ {es : List (AV × AV × Nat)} {E : List MapEntry}, EntR m es E → (∀ (k v : AV) (b : Nat) (x : MapEntry), x.born = b → f (k, v, b) = g x) → es.all f = E.all g
  | [], E, h, _ => by rw [h.nil_inv]; rfl
  | (k, v, b) :: es, E, h, hfg => by
    obtain ⟨x, E', rfl, h1, h2, h3, h4⟩ := h.cons_inv
    simp only [List.all_cons, hfg k v b x h3, all_rel h4 hfg]
theorem next_ok {H : Tr AO} {nx : Nat} {str : Bool} {x : AV} {u : Ou} {ty : TypeId} (h : evNext H nx str x = some (.ok u)) : Keep H nx u ∧ ∀ X m w A, Rel m x A → Pre P X m H nx u w → Does P (Instr.next A str ty >>= fun y => (pure (Next.value y) : Sem Next)) X nx u m w := by
  unfold evNext at h
  split at h
  · rename_i r o
    split at h
    · split at h
      · cases h
      · split at h
        · rename_i q since seen last hrow
          split at h
          · cases h
            refine ⟨keep_pure _ _ _ _ (live_bit hrow), fun X m w A hx hp => ?_⟩
            cases hx
            rename_i L hL
            obtain ⟨hb, B, e1, e2⟩ := hp.row hrow (bit_self r) hL
            have e2 : B = none := e2
            subst e2
            have hg := run_getObj (P := P) e1 (fun c e f h => by cases h)
            refine does_pure hp (run_v (V := .tuple #[.bool false]) ?_) (.t_of (.cons (.b _) (.nil m)))
            rw [hb]
            simp [Instr.next, hg]
          · rename_i q
            unfold evNextM at h
            split at h
            · rename_i es cl hmap
              split at h
              · cases h
              · rename_i hun
                have both : ∀ (X : Nat → Prop) m w (L : Loc) (u : Ou), Pre P X m H nx u w → (∀ z, (bit r ||| bit q).testBit z = true → u.R.testBit z = true) → m r = some L → ∃ L2 E, L.base = 0 ∧ m q = some L2 ∧ w.heap[L.block]? = some (.mapIter (some L2.block) since seen.toArray last) ∧ w.heap[L2.block]? = some (.map E cl) ∧ EntR m es E.toList ∧
                    (!seen.toArray.isEmpty && !E.isEmpty && E.all (fun e => decide (e.born ≥ last))) = false := by
                  intro X m w L u hp hR hL
                  obtain ⟨hb, B, e1, L2, e2, e3⟩ := hp.row hrow (hR r (or_l (bit_self r))) hL
                  subst e3
                  obtain ⟨E, e4, e5⟩ := ent_of (hp.row hmap (hR q (or_r (bit_self q))) e2)
                  refine ⟨L2, E, hb, e2, e1, e4, e5, ?_⟩
                  have ha := all_rel (f := fun e => Nat.ble last e.2.2) (g := fun e => decide (e.born ≥ last)) e5 (fun k v b x hx => by
                    show Nat.ble last b = decide (x.born ≥ last)
                    rw [hx, Bool.eq_iff_iff]; simp [Nat.ble_eq])
                  have hl : es.isEmpty = E.isEmpty := by
                    have := e5.1
                    rw [Bool.eq_iff_iff]
                    simp only [List.isEmpty_iff, Array.isEmpty_iff_size_eq_zero]
                    rw [← List.length_eq_zero_iff, this]; simp
                  rw [← hl, ← Array.all_toList, ← ha]
                  simpa using hun
                have filt : ∀ m (E : Array MapEntry), EntR m es E.toList → EntR m (es.filter fun e => !memN e.2.2 seen) (E.filter fun e => !seen.toArray.contains e.born).toList := by
                  intro m E hE
                  rw [Array.toList_filter]
                  exact filt_rel hE fun k v b x hx => by
                    show (!memN b seen) = !seen.toArray.contains x.born
                    rw [memN_eq, hx]; simp
                split at h
                · rename_i hfl
                  cases h
                  refine ⟨keep_pure _ _ _ _ (live_or (live_bit hrow) (live_bit hmap)), fun X m w A hx hp => ?_⟩
                  cases hx
                  rename_i L hL
                  obtain ⟨L2, E, hb, e2, e1, e4, e5, e6⟩ := both X m w L _ hp (fun z hz => hz) hL
                  have hg := run_getObj (P := P) e1 (fun c e f h => by cases h)
                  have hg2 := run_getObj (P := P) e4 (fun c e f h => by cases h)
                  have hf := filt m E e5
                  rw [hfl] at hf
                  have hleft : (E.filter fun e => !seen.toArray.contains e.born) = #[] := Array.toList_inj.1 hf.nil_inv
                  refine does_pure hp (run_v (V := .tuple #[.bool false]) ?_) (.t_of (.cons (.b _) (.nil m)))
                  rw [hb]
                  simp only [Instr.next, Sem.run_bind, hg, hg2, Result.andThen_ok, e6, Bool.false_eq_true, if_false, hleft]
                  simp [Question.forced]
                · rename_i k v b hfl
                  split at h
                  · rename_i hlt
                    have hlt := blt_t hlt
                    cases h
                    have hbr : (bit r ||| bit q).testBit r = true := or_l (bit_self r)
                    refine ⟨keep_set hrow hbr (live_or (live_bit hrow) (live_bit hmap)), fun X m w A hx hp => ?_⟩
                    cases hx
                    rename_i L hL
                    obtain ⟨L2, E, hb, e2, e1, e4, e5, e6⟩ := both X m w L _ hp (fun z hz => hz) hL
                    have hg := run_getObj (P := P) e1 (fun c e f h => by cases h)
                    have hg2 := run_getObj (P := P) e4 (fun c e f h => by cases h)
                    have hf := filt m E e5
                    rw [hfl] at hf
                    obtain ⟨y, l', q1, q2, q3, q4, q5⟩ := hf.cons_inv
                    have := q5.nil_inv
                    subst this
                    have hleft : (E.filter fun e => !seen.toArray.contains e.born) = #[y] := Array.toList_inj.1 q1
                    have hs := run_setObj (P := P) (o' := .mapIter (some L2.block) since (seen ++ [y.born]).toArray cl) e1 (fun c e f h => by cases h)
                    obtain ⟨w1, w2⟩ := wrote_obj (o' := .mapIter (some L2.block) since (seen ++ [y.born]).toArray cl) e1
                    refine does_set (V := .tuple #[.bool true, y.key, y.val]) hp hbr hrow hL w1 ⟨hb, some L2.block, ?_, L2, e2, rfl⟩ (.t_of (.cons (.b _) (.cons q2 (.cons q3 (.nil m))))) (.inl (run_v ?_))
                    · rw [w2]; simp [q4]
                    · rw [hb]
                      have o1 : (#[y].filter fun e => decide (e.born < since)) = #[y] := by simp [q4, hlt]
                      have o2 : (#[y].filter fun e => decide (e.born ≥ since)) = #[] := by simp [q4]; omega
                      simp only [Instr.next, Sem.run_bind, hg, hg2, Result.andThen_ok, e6, Bool.false_eq_true, if_false, hleft, o1, o2]
                      simp [Question.forced, hs]
                  · cases h
                · cases h
            · cases h
        · cases h
    · cases h
  · cases h
theorem lastN_eq : ∀ l : List Nat, lastN l = l.getLast?
  | [] => rfl
  | [x] => rfl
  | x :: y :: l => by simp only [lastN]; rw [lastN_eq (y :: l)]; simp [List.getLast?_cons_cons]
theorem findB_ok {m : Mp} {b : Nat} {k v : AV} : ∀ {es : List (AV × AV × Nat)} {E : List MapEntry}, findB b es = some (k, v) → EntR m es E → ∃ x, E.find? (fun e => e.born == b) = some x ∧ Rel m k x.key ∧ Rel m v x.val
  | [], E, h, _ => by simp [findB] at h
  | (k', v', b') :: es, E, h, hE => by
    obtain ⟨x, E', rfl, h1, h2, h3, h4⟩ := hE.cons_inv
    simp only [findB] at h
    split at h
    · rename_i hb
      have := beq_t hb; subst this
      cases h
      exact ⟨x, by simp [List.find?_cons, h3], h1, h2⟩
    · rename_i hb
      have hne := beq_f hb
      obtain ⟨y, g1, g2⟩ := findB_ok h h4
      have : (x.born == b) = false := by rw [h3]; simp [hne]
      exact ⟨y, by simp [List.find?_cons, this, g1], g2⟩
theorem entryI_ok {H : Tr AO} {nx : Nat} {x : AV} {u : Ou} (h : evEntryI H nx x = some (.ok u)) : Keep H nx u ∧ ∀ X m w A, Rel m x A → Pre P X m H nx u w → Does P (Instr.entry A >>= fun y => (pure (Next.value y) : Sem Next)) X nx u m w := by
  unfold evEntryI at h
  split at h
  · rename_i r
    split at h
    · rename_i q since seen st hrow
      split at h
      · rename_i es cl b hmap hlast
        split at h
        · rename_i k v hcl hfb
          have hcl := beq_t hcl
          subst hcl
          cases h
          refine ⟨keep_pure _ _ _ _ (live_or (live_bit hrow) (live_bit hmap)), fun X m w A hx hp => ?_⟩
          cases hx
          rename_i L hL
          obtain ⟨hb, B, e1, L2, e2, e3⟩ := hp.row hrow (or_l (bit_self r)) hL
          subst e3
          obtain ⟨E, e4, e5⟩ := ent_of (hp.row hmap (or_r (bit_self q)) e2)
          have hg := run_getObj (P := P) e1 (fun c e f h => by cases h)
          have hg2 := run_getObj (P := P) e4 (fun c e f h => by cases h)
          obtain ⟨y, g1, g2, g3⟩ := findB_ok hfb e5
          have hback : seen.toArray.back? = some b := by rw [← hlast, lastN_eq]; simp
          have hfind : E.find? (fun e => e.born == b) = some y := by cases E; simpa using g1
          refine does_pure hp (run_v (V := .tuple #[y.key, y.val]) ?_) (.t_of (.cons g2 (.cons g3 (.nil m))))
          rw [hb]
          simp [Instr.entry, hg, hg2, hback, hfind]
        · cases h
      · cases h
    · cases h
  · cases h
theorem toBytes_ok {m : Mp} : ∀ {xs : List AV} {b : List UInt8} {A : List Value}, toBytes xs = some b → RelL m xs A → ∃ ns : List Int, A = ns.map (Value.int .u8) ∧ ns.map (fun n => UInt8.ofNat n.toNat) = b
  | [], b, A, h, hA => by simp [toBytes] at h; subst h; exact ⟨[], by rw [hA.nil_inv]; rfl, rfl⟩
  | x :: xs, b, A, h, hA => by
    obtain ⟨V, A', rfl, h1, h2⟩ := hA.cons_inv
    unfold toBytes at h
    split at h
    · rename_i e; cases e
    · rename_i n l e
      obtain ⟨rfl, rfl⟩ := List.cons.inj e
      split at h
      · rename_i b' hn hb
        cases h
        cases h1
        obtain ⟨ns, g1, g2⟩ := toBytes_ok hb h2
        exact ⟨(n : Int) :: ns, by rw [g1]; rfl, by rw [← g2]; simp⟩
      · cases h
    · cases h
theorem fold_push : ∀ (ns : List Int) (s : ByteArray), (ns.foldl (fun r n => r.push (UInt8.ofNat n.toNat)) s).data.toList = s.data.toList ++ ns.map fun n => UInt8.ofNat n.toNat
  | [], s => by simp
  | n :: ns, s => by
    simp only [List.foldl_cons, fold_push ns, List.map_cons]
    simp [ByteArray.push]
theorem conv_ok {H : Tr AO} {nx : Nat} {src dst : TypeId} {x : AV} {u : Ou} (h : evConv P H nx src dst x = some (.ok u)) : Keep H nx u ∧ ∀ X m w A, Rel m x A → Pre P X m H nx u w → Does P (convert src dst A >>= fun y => (pure (Next.value y) : Sem Next)) X nx u m w := by
  unfold evConv at h
  split at h
  · rename_i s hs
    split at h
    · rename_i d hd
      unfold evConvD at h
      split at h
      · rename_i k
        unfold evConvI at h
        split at h
        · rename_i q n
          have hu := pure_inv h
          subst hu
          refine ⟨keep_pure _ _ _ _ (live_0 _), fun X m w A hx hp => ?_⟩
          cases hx
          refine does_pure hp (run_v (V := .int k (k.wrap n)) ?_) (.i _ _)
          cases s <;> simp [convert, run_und hs, run_und hd, Conv.intToInt]
        · cases h
      · split at h
        · rename_i e
          unfold evConvB at h
          split at h
          · split at h
            · rename_i he
              have hu := pure_inv h
              subst hu
              refine ⟨keep_pure _ _ _ _ (live_0 _), fun X m w A hx hp => ?_⟩
              cases hx
              refine does_pure hp (run_v (V := .string .empty) ?_) (.s _ _ rfl)
              simp [convert, run_und hs, run_und hd, run_und he, Conv.bytesToString]
            · cases h
          · rename_i r o n c rel
            split at h
            · rename_i he
              split at h
              · rename_i l e' tl hrow
                split at h
                · rename_i xs hc
                  split at h
                  · rename_i b hb
                    cases h
                    refine ⟨keep_pure _ _ _ _ (live_bit hrow), fun X m w A hx hp => ?_⟩
                    have key : ∀ L, m r = some L → ∀ cp, A = .slice (some ⟨L.block, L.base + o, none⟩) n cp → Does P (convert src dst A >>= fun y => (pure (Next.value y) : Sem Next)) X nx ⟨.s b, H, nx, bit r, 0⟩ m w := by
                      intro L hL cp hA
                      subst hA
                      obtain ⟨C, fr, g1, g2, g3, g4⟩ := hp.row hrow (bit_self r) hL
                      obtain ⟨c1, c2⟩ := row_cut g3 hc
                      obtain ⟨ns, n1, n2⟩ := toBytes_ok hb c2
                      have hl := run_loadRow (P := P) g1 c1
                      have hl' : (loadCells ⟨L.block, L.base + o, none⟩ n).run P w = .ok (ns.map (Value.int .u8)).toArray w := by
                        rw [hl]; congr 1; exact Array.toList_inj.1 (by rw [n1])
                      refine does_pure hp (run_v (V := .string (ns.foldl (fun r n => r.push (UInt8.ofNat n.toNat)) ByteArray.empty)) ?_) (.s _ _ (by rw [fold_push, n2]; rfl))
                      have := run_bytesToString w ⟨L.block, L.base + o, none⟩ n cp ns hl'
                      simp [convert, run_und hs, run_und hd, run_und he, this]
                    cases hx
                    · rename_i L hL; exact key L hL _ rfl
                    · rename_i L hL hn; exact key L hL _ rfl
                  · cases h
                · cases h
              · cases h
            · cases h
          · cases h
        · unfold evConvS at h
          split at h
          · rename_i l
            have hu := pure_inv h
            subst hu
            refine ⟨keep_pure _ _ _ _ (live_0 _), fun X m w A hx hp => ?_⟩
            have hx' := hx
            cases hx
            refine does_pure hp (run_v ?_) hx'
            simp [convert, run_und hs, run_und hd]
          · cases h
        · cases h
      · rename_i e
        unfold evConvT at h
        split at h
        · rename_i l
          split at h
          · rename_i he
            split at h
            · rename_i hz
              simp only [newO, Option.some.injEq, Rs.ok.injEq] at h
              subst h
              refine ⟨keep_new _ _ _ _ _ (live_0 _), fun X m w A hx hp => ?_⟩
              cases hx
              rename_i S hS
              have hsz : S.size = l.length := by rw [← hS, Array.length_toList]; rfl
              generalize hcp : grownCap w S.size 0 e = cp
              have hge : S.size ≤ cp := by rw [← hcp]; exact grown_ge _ _ _ _
              generalize hC : ((S.data.map fun b => Value.int .u8 b.toNat) ++ Array.replicate (cp - S.size) (Value.int .u8 0)) = C
              have hCs : C.size = cp := by rw [← hC]; simp; have : S.data.size = S.size := rfl; omega
              have hcells : ∀ (i : Nat) (x : AV), (l.map fun c => AV.i .u8 c.toNat)[i]? = some x → ∃ V, C[0 + i]? = some V ∧ Rel (upd m nx ⟨w.heap.size, 0, cp⟩) x V := by
                intro i x hx
                rw [List.getElem?_map] at hx
                cases hi : l[i]? with
                | none => rw [hi] at hx; cases hx
                | some c =>
                  rw [hi] at hx
                  simp only [Option.map_some, Option.some.injEq] at hx
                  subst hx
                  have hlt := (List.getElem?_eq_some_iff.1 hi).1
                  refine ⟨.int .u8 c.toNat, ?_, .i _ _⟩
                  rw [Nat.zero_add, ← hC, Array.getElem?_append_left (by simp; have : S.data.size = S.size := rfl; omega), Array.getElem?_map, ← Array.getElem?_toList, hS, hi]
                  rfl
              let w' : World := (w.drew.alloc (.cells C e)).freeze { block := w.heap.size, off := C.size } 1
              have hrow : w'.heap[w.heap.size]? = some (.cells C e (C.size, C.size + 1)) := by
                show ((w.heap.push (.cells C e)).modify w.heap.size _)[w.heap.size]? = _
                rw [Array.getElem?_modify]
                simp
              have hold : ∀ b, b < w.heap.size → w'.heap[b]? = w.heap[b]? := by
                intro b hb
                show ((w.heap.push (.cells C e)).modify w.heap.size _)[b]? = _
                rw [Array.getElem?_modify, if_neg (by omega), Array.getElem?_push, if_neg (by omega)]
              have hsize : w'.heap.size = w.heap.size + 1 := by
                show ((w.heap.push (.cells C e)).modify w.heap.size _).size = _
                simp
              refine does_new (L := ⟨w.heap.size, 0, cp⟩) (w' := w') (V := .slice (some ⟨w.heap.size, 0, none⟩) S.size cp) hp ⟨hsize, hold, rfl, rfl, rfl⟩ rfl (fun hext => ⟨C, _, hrow, .inl (Nat.le_refl _), hcells, fun _ => ⟨1, hz, by omega, by rw [hCs]; simp⟩⟩) (fun hext => ?_) (run_v ?_)
              · have := Rel.slr (m := upd m nx ⟨w.heap.size, 0, cp⟩) nx 0 S.size 0 ⟨w.heap.size, 0, cp⟩ (upd_self _ _ _) (by simpa using hge)
                rw [← hsz]
                simpa using this
              · have hcp' : (Question.appendCap S.size 0 e).cut (w.tape w.drawn (.appendCap S.size 0 e)) = cp := hcp
                have hsh : (w.drew.alloc (.cells C e)).shape? w.heap.size = some (e, C.size) := by
                  unfold World.shape?
                  have : (w.drew.alloc (.cells C e)).heap[w.heap.size]? = some (.cells C e (0, 0)) := by
                    show (w.heap.push _)[w.heap.size]? = _; simp
                  rw [this]
                have hconv : (Conv.stringToBytes e S).run P w = .ok (.slice (some ⟨w.heap.size, 0, none⟩) S.size cp) w' := by
                  simp only [Conv.stringToBytes, Sem.run_bind, run_choose, Question.forced, Bool.false_eq_true, if_false, Result.andThen_ok, hcp', hC, newRow, run_newObj, Sem.run_pure, markStringish, run_shape]
                  have hsh' : World.shape? { w with drawn := w.drawn + 1, heap := w.heap.push (.cells C e) } w.heap.size = some (e, C.size) := hsh
                  simp only [hsh', run_freeze, Result.andThen_ok]
                  rfl
                cases s <;> simp [convert, run_und hs, run_und hd, run_und he, hconv]
            · cases h
          · cases h
        · cases h
      · cases h
    · cases h
  · cases h
end
end Go.Ev
namespace Go.Ev
open Go
set_option linter.unusedVariables false
set_option linter.unusedSimpArgs false
set_option linter.unusedSectionVars false
variable [Env]
section
variable {P : Program}
theorem method_ok {t : TypeId} {name : String} {f : FuncId} (h : evMethod P t name = some f) (V : Value) (w : World) : (method (P.types.size + Made.depth) t V name).run P w = .ok (f, V) w := by
  unfold evMethod at h
  split at h
  · rename_i inf hi
    split at h
    · rename_i mt hm
      have hfu : P.types.size + Made.depth = (P.types.size + 99) + 1 := rfl
      rw [hfu]
      generalize P.types.size + 99 = fuel
      split at h
      · rename_i f' d hp hf hu
        cases h
        simp only [method, Sem.run_bind, run_info hi, Result.andThen_ok, hm, hp, follow, Sem.run_pure, hf, receiverAt, run_und hu, Place.get]
      · cases h
      · rename_i f' d hn hp hf hu
        cases h
        simp only [method, Sem.run_bind, run_info hi, Result.andThen_ok, hm, hp, follow, Sem.run_pure, hf, receiverAt, run_und hu]
        cases d <;> first | rfl | exact (hn _ rfl).elim
      · cases h
    · cases h
  · cases h
theorem ext1 {G : Array Value} {v : Value} {A : List Value} (h : G.toList = v :: A) : (G.extract 1 G.size).toList = A := by
  have hs : G.size = A.length + 1 := by rw [← Array.length_toList, h]; simp
  rw [hs, Nat.add_comm, ext_list, h]
  simp
theorem callMethod_run {t : TypeId} {name : String} {f : FuncId} (h : evMethod P t name = some f) (V : Value) (A : Array Value) (w : World) : (callMethod (.iface t V) name A).run P w = (callFunc f (#[V] ++ A)).run P w := by
  simp only [callMethod, Sem.run_bind, run_program, Result.andThen_ok, method_ok h]
theorem via_ok {t : TypeId} {path : Array FieldStep} {ptr : Bool} {V : Value} (hp : path.toList = []) (h : (∃ e, P.underlying t = some (.pointer e) ∧ ptr = true) ∨ (∃ d, P.underlying t = some d ∧ (∀ e, d ≠ .pointer e) ∧ ptr = false)) (w : World) : (receiverVia t V path ptr).run P w = .ok V w := by
  rcases h with ⟨e, hu, rfl⟩ | ⟨d, hu, hn, rfl⟩
  · simp [receiverVia, hp, follow, receiverAt, run_und hu, Place.get]
  · simp only [receiverVia, Sem.run_bind, hp, follow, Sem.run_pure, Result.andThen_ok, receiverAt, run_und hu]
    cases d <;> first | rfl | exact (hn _ rfl).elim
theorem call_run {T : Tr AV} {H : Tr AO} {nx : Nat} {c : Call} {ty : TypeId} {f : FuncId} {args : List AV} (h : evCall P T H nx c = some (.call f args)) {m : Mp} {ρ : Operand → Value} (hr : ∀ x v, x ∈ c.operands.toList → evx T x = some v → Rel m v (ρ x)) (w : World) :
    ∃ A : Array Value, (do let d ← resolve ρ c ty; invoke d.target d.args : Sem Next).run P w = (callFunc f A).run P w ∧ RelL m args A.toList := by
  unfold evCall at h
  split at h
  · cases h
  · rename_i as has
    have hA : RelL m as (c.args.map ρ).toList := by
      rw [Array.toList_map]
      exact evArgs_rel has fun x v hx => hr x v (by unfold Call.operands; simp; right; simpa using hx)
    split at h
    · -- a builtin does not call
      rename_i b hc
      exfalso
      unfold evBuiltin at h
      have nc1 : ∀ (g : TypeId → AV → Option Rs), (∀ t a f' as', g t a ≠ some (.call f' as')) → with1 g c.argTypes as ≠ some (.call f args) := by
        intro g hg e
        unfold with1 at e
        split at e
        · split at e
          · exact hg _ _ _ _ e
          · cases e
        · cases e
      have nc2 : ∀ (g : AV → AV → Option Rs), (∀ a b f' as', g a b ≠ some (.call f' as')) → with2 g as ≠ some (.call f args) := by
        intro g hg e
        unfold with2 at e
        split at e
        · exact hg _ _ _ _ e
        · cases e
      split at h
      · refine nc2 _ (fun a b f' as' e => ?_) h
        unfold evAppend evAppendS evAppendZ pure' at e
        (repeat' split at e) <;> cases e
      · refine nc2 _ (fun a b f' as' e => ?_) h
        unfold evCopy pure' at e
        (repeat' split at e) <;> cases e
      · refine nc1 _ (fun a b f' as' e => ?_) h
        unfold evLen evLenS evLenL evLenM pure' at e
        (repeat' split at e) <;> cases e
      · refine nc1 _ (fun a b f' as' e => ?_) h
        unfold evClear evClearL pure' at e
        (repeat' split at e) <;> cases e
      · unfold evMin pure' at h
        (repeat' split at h) <;> cases h
      · unfold evMax pure' at h
        (repeat' split at h) <;> cases h
      · cases h
    · -- a method of an interface value
      rename_i recv name hc
      split at h
      · rename_i t v hv
        unfold evInvoke at h
        simp only [evInvM] at h
        split at h
        · rename_i f' hf
          simp only [evCallF, Option.some.injEq, Rs.call.injEq] at h
          obtain ⟨rfl, rfl⟩ := h
          have hR := hr recv _ (by unfold Call.operands; rw [hc]; simp) hv
          generalize hρ : ρ recv = R at hR
          cases hR
          rename_i V hV
          refine ⟨#[V] ++ c.args.map ρ, ?_, ?_⟩
          · have hl : (#[Value.iface t V] ++ c.args.map ρ).toList = .iface t V :: (c.args.map ρ).toList := by simp
            have h0 : (#[Value.iface t V] ++ c.args.map ρ)[0]? = some (.iface t V) := by rw [← Array.getElem?_toList, hl]; rfl
            have h1 : (#[Value.iface t V] ++ c.args.map ρ).extract 1 (#[Value.iface t V] ++ c.args.map ρ).size = c.args.map ρ := Array.toList_inj.1 (ext1 hl)
            simp only [resolve, hc, Sem.run_bind, Sem.run_pure, Result.andThen_ok, invoke, hρ, h0, h1]
            exact callMethod_run hf V _ w
          · simpa using RelL.cons hV (by simpa using hA)
        · cases h
      · cases h
    · -- a function value
      rename_i fo hc
      split at h
      · rename_i fn first captured hv
        have hR := hr fo _ (by unfold Call.operands; rw [hc]; simp) hv
        generalize hρ : ρ fo = R at hR
        cases hR with
        | f _ _ _ F C hf hcp h1 h2 =>
        have hF : RelL m first F.toList := ⟨hf, h1⟩
        have hC : RelL m captured C.toList := ⟨hcp, h2⟩
        have hFA : RelL m (first ++ as) (F ++ c.args.map ρ).toList := by rw [Array.toList_append]; exact hF.append hA
        have hres : ∀ (k : Deferred → Sem Next), (do let d ← resolve ρ c ty; k d : Sem Next).run P w = (k { target := .fn fn C, args := F ++ c.args.map ρ }).run P w := by
          intro k
          simp only [resolve, hc, hρ, Deferred.ofValue, Sem.run_bind, Sem.run_pure, Result.andThen_ok]
        rw [hres]
        unfold evInvoke at h
        split at h
        · rename_i f'
          simp only [evCallF, Option.some.injEq, Rs.call.injEq] at h
          obtain ⟨rfl, rfl⟩ := h
          exact ⟨F ++ c.args.map ρ ++ C, rfl, by rw [Array.toList_append]; exact hFA.append hC⟩
        · rename_i name
          unfold evInvM at h
          split at h
          · rename_i x rest hx
            split at h
            · rename_i t v
              split at h
              · rename_i f' hf'
                simp only [evCallF, Option.some.injEq, Rs.call.injEq] at h
                obtain ⟨rfl, rfl⟩ := h
                rw [hx] at hFA
                obtain ⟨V, A', e1, e2, e3⟩ := hFA.cons_inv
                cases e2
                rename_i V hV
                generalize hG : F ++ c.args.map ρ = G at e1
                have hG0 : G[0]? = some (.iface t V) := by rw [← Array.getElem?_toList, e1]; rfl
                have hGe : (G.extract 1 G.size).toList = A' := ext1 e1
                refine ⟨#[V] ++ G.extract 1 G.size, ?_, ?_⟩
                · simp only [invoke, hG0]
                  exact callMethod_run hf' V _ w
                · rw [Array.toList_append, hGe]; exact RelL.cons hV e3
              · cases h
            · cases h
          · cases h
        · rename_i t path f' ptr
          unfold evInvV at h
          split at h
          · rename_i x rest hx
            split at h
            · rename_i hpath
              have done : ∀ q, q = some (.call f args) → q = evCallF f' (x :: rest) → ((∃ e, P.underlying t = some (.pointer e) ∧ ptr = true) ∨ (∃ d, P.underlying t = some d ∧ (∀ e, d ≠ .pointer e) ∧ ptr = false)) →
                  ∃ A : Array Value, (invoke (Target.fn (Fn.via t path f' ptr) C) (F ++ c.args.map ρ)).run P w = (callFunc f A).run P w ∧ RelL m args A.toList := by
                intro q h1 h2 hv
                rw [h2] at h1
                simp only [evCallF, Option.some.injEq, Rs.call.injEq] at h1
                obtain ⟨rfl, rfl⟩ := h1
                rw [hx] at hFA
                obtain ⟨V, A', e1, e2, e3⟩ := hFA.cons_inv
                generalize hG : F ++ c.args.map ρ = G at e1
                have hG0 : G[0]? = some V := by rw [← Array.getElem?_toList, e1]; rfl
                have hGe : (G.extract 1 G.size).toList = A' := ext1 e1
                refine ⟨#[V] ++ G.extract 1 G.size, ?_, ?_⟩
                · simp only [invoke, hG0, Sem.run_bind, via_ok hpath hv, Result.andThen_ok]
                · rw [Array.toList_append, hGe]; exact RelL.cons e2 e3
              split at h
              · rename_i e hu
                split at h
                · exact done _ h rfl (.inl ⟨e, hu, rfl⟩)
                · cases h
              · rename_i d hn hu
                split at h
                · cases h
                · exact done _ h rfl (.inr ⟨d, hu, fun e he => hn e he, rfl⟩)
              · cases h
            · cases h
          · cases h
        · cases h
      · cases h
      · cases h
theorem call_val {T : Tr AV} {H : Tr AO} {nx : Nat} {c : Call} {ty : TypeId} {u : Ou} (h : evCall P T H nx c = some (.ok u)) : Keep H nx u ∧ ∀ X m w (ρ : Operand → Value), (∀ x v, x ∈ c.operands.toList → evx T x = some v → Rel m v (ρ x)) → Pre P X m H nx u w →
    Does P (do let d ← resolve ρ c ty; invoke d.target d.args : Sem Next) X nx u m w := by
  unfold evCall at h
  split at h
  · cases h
  · rename_i as has
    split at h
    · rename_i b hc
      obtain ⟨g1, _⟩ := builtin_ok (ty := ty) (cs := #[]) h
      refine ⟨g1, fun X m w ρ hr hp => ?_⟩
      have hA : RelL m as (c.args.map ρ).toList := by
        rw [Array.toList_map]
        exact evArgs_rel has fun x v hx => hr x v (by unfold Call.operands; simp; right; simpa using hx)
      have hb := (builtin_ok (ty := ty) (cs := c.args.map fun | .const _ => true | _ => false) h).2 X m w (c.args.map ρ) hA hp
      have : (do let d ← resolve ρ c ty; invoke d.target d.args : Sem Next) = builtin b c.argTypes ty (c.args.map fun | .const _ => true | _ => false) (c.args.map ρ) := by
        unfold resolve
        rw [hc]
        rfl
      rw [this]; exact hb
    · rename_i recv name hc
      exfalso
      split at h
      · unfold evInvoke evInvM at h
        simp only [evCallF] at h
        (repeat' split at h) <;> cases h
      · cases h
    · rename_i fo hc
      exfalso
      split at h
      · unfold evInvoke evInvM evInvV at h
        simp only [evCallF] at h
        (repeat' split at h) <;> cases h
      · cases h
      · cases h
theorem rnd_run {T : Tr AV} {H : Tr AO} {nx : Nat} {c : Call} {ty : TypeId} {l : Nat} {args : List AV} (h : evCall P T H nx c = some (.rnd l args)) {m : Mp} {ρ : Operand → Value} (hr : ∀ x v, x ∈ c.operands.toList → evx T x = some v → Rel m v (ρ x)) (w : World) :
    ∃ (A : Array Value) (L : Loc), (do let d ← resolve ρ c ty; invoke d.target d.args : Sem Next).run P w = (Instr.yield L.block A).run P w ∧ m l = some L ∧ RelL m args A.toList := by
  unfold evCall at h
  split at h
  · cases h
  · rename_i as has
    have hA : RelL m as (c.args.map ρ).toList := by
      rw [Array.toList_map]
      exact evArgs_rel has fun x v hx => hr x v (by unfold Call.operands; simp; right; simpa using hx)
    split at h
    · rename_i b hc
      exfalso
      unfold evBuiltin at h
      have nc1 : ∀ (g : TypeId → AV → Option Rs), (∀ t a f' as', g t a ≠ some (.rnd f' as')) → with1 g c.argTypes as ≠ some (.rnd l args) := by
        intro g hg e
        unfold with1 at e
        split at e
        · split at e
          · exact hg _ _ _ _ e
          · cases e
        · cases e
      have nc2 : ∀ (g : AV → AV → Option Rs), (∀ a b f' as', g a b ≠ some (.rnd f' as')) → with2 g as ≠ some (.rnd l args) := by
        intro g hg e
        unfold with2 at e
        split at e
        · exact hg _ _ _ _ e
        · cases e
      split at h
      · refine nc2 _ (fun a b f' as' e => ?_) h
        unfold evAppend evAppendS evAppendZ pure' at e
        (repeat' split at e) <;> cases e
      · refine nc2 _ (fun a b f' as' e => ?_) h
        unfold evCopy pure' at e
        (repeat' split at e) <;> cases e
      · refine nc1 _ (fun a b f' as' e => ?_) h
        unfold evLen evLenS evLenL evLenM pure' at e
        (repeat' split at e) <;> cases e
      · refine nc1 _ (fun a b f' as' e => ?_) h
        unfold evClear evClearL pure' at e
        (repeat' split at e) <;> cases e
      · unfold evMin pure' at h
        (repeat' split at h) <;> cases h
      · unfold evMax pure' at h
        (repeat' split at h) <;> cases h
      · cases h
    · rename_i recv name hc
      exfalso
      split at h
      · unfold evInvoke evInvM at h
        simp only [evCallF] at h
        (repeat' split at h) <;> cases h
      · cases h
    · rename_i fo hc
      split at h
      · exfalso
        unfold evInvoke evInvM evInvV at h
        simp only [evCallF] at h
        (repeat' split at h) <;> cases h
      · rename_i l' hv
        cases h
        have hR := hr fo _ (by unfold Call.operands; rw [hc]; simp) hv
        generalize hρ : ρ fo = R at hR
        cases hR
        rename_i L hL
        refine ⟨#[] ++ c.args.map ρ, L, ?_, hL, by simpa using hA⟩
        simp only [resolve, hc, hρ, Deferred.ofValue, Sem.run_bind, Sem.run_pure, Result.andThen_ok, invoke]
      · cases h
/-- All operations. -/
theorem ops_ok : OpsOk P (evOp P) := by
  refine ⟨fun T H nx o u h => ?_, fun T H nx o f args h m ρ w hr => ?_, fun T H nx o l args h m ρ w hr => ?_⟩
  · generalize ho : o.op = op at h
    have g2 : ∀ {x y : Operand} {a b : AV}, True := fun {_ _ _ _} => trivial
    cases op with
    | move x => exact ok_move ho h
    | assign x => exact ok_assign ho h
    | pick c a b => exact ok_pick ho h
    | alloc e => exact ok_alloc ho h
    | box e x => exact ok_box ho h
    | build t p => exact ok_build ho h
    | buildSlice t n p => exact ok_buildSlice ho h
    | load t a => exact ok_load ho h
    | store t a x => exact ok_store ho h
    | nilCheck x => exact ok_nilCheck ho h
    | binOp op t x y t' => exact ok_binOp ho h
    | unOp op t x => exact ok_unOp ho h
    | convert s d x =>
      simp only [evOp] at h
      split at h
      · rename_i a hx
        obtain ⟨k1, k2⟩ := conv_ok h
        refine ⟨k1, fun X m ρ w hr hp => ?_⟩
        unfold execOp; rw [ho]
        exact k2 X m w (ρ x) (hr x _ (by rw [ho]; simp [Op.operands]) hx) hp
      · cases h
    | makeInterface t x => exact ok_makeInterface ho h
    | makeFunc fn a b => exact ok_makeFunc ho h
    | makeMap t r =>
      cases r with
      | none => exact ok_makeMap ho h
      | some r => cases h
    | makeSlice t l c => exact ok_makeSlice ho h
    | slice t x lo hi mx => exact ok_slice ho h
    | fieldAddr t x f => exact ok_fieldAddr ho h
    | field t x f => exact ok_field ho h
    | indexAddr t x i => exact ok_indexAddr ho h
    | index t x i => exact ok_index ho h
    | lookup t x k ok =>
      simp only [evOp] at h
      split at h
      · rename_i a b hx hk
        obtain ⟨k1, k2⟩ := lookup_ok h
        refine ⟨k1, fun X m ρ w hr hp => ?_⟩
        unfold execOp; rw [ho]
        exact k2 X m w (ρ x) (ρ k) (hr x _ (by rw [ho]; simp [Op.operands]) hx) (hr k _ (by rw [ho]; simp [Op.operands]) hk) hp
      · cases h
    | mapUpdate t x k v =>
      simp only [evOp] at h
      split at h
      · rename_i a b c hx hk hv
        obtain ⟨k1, k2⟩ := update_ok h
        refine ⟨k1, fun X m ρ w hr hp => ?_⟩
        unfold execOp; rw [ho]
        exact k2 X m w (ρ x) (ρ k) (ρ v) (hr x _ (by rw [ho]; simp [Op.operands]) hx) (hr k _ (by rw [ho]; simp [Op.operands]) hk) (hr v _ (by rw [ho]; simp [Op.operands]) hv) hp
      · cases h
    | insert t x k v =>
      simp only [evOp] at h
      split at h
      · rename_i a b c hx hk hv
        obtain ⟨k1, k2⟩ := update_ok h
        refine ⟨k1, fun X m ρ w hr hp => ?_⟩
        unfold execOp; rw [ho]
        exact k2 X m w (ρ x) (ρ k) (ρ v) (hr x _ (by rw [ho]; simp [Op.operands]) hx) (hr k _ (by rw [ho]; simp [Op.operands]) hk) (hr v _ (by rw [ho]; simp [Op.operands]) hv) hp
      · cases h
    | mapEntry t x k =>
      simp only [evOp] at h
      split at h
      · rename_i a b hx hk
        obtain ⟨k1, k2⟩ := entry_ok h
        refine ⟨k1, fun X m ρ w hr hp => ?_⟩
        unfold execOp; rw [ho]
        exact k2 X m w (ρ x) (ρ k) (hr x _ (by rw [ho]; simp [Op.operands]) hx) (hr k _ (by rw [ho]; simp [Op.operands]) hk) hp
      · cases h
    | entryStore t x b v =>
      simp only [evOp] at h
      split at h
      · rename_i a c d hx hb hv
        obtain ⟨k1, k2⟩ := entryS_ok (t := t) h
        refine ⟨k1, fun X m ρ w hr hp => ?_⟩
        unfold execOp; rw [ho]
        exact k2 X m w (ρ x) (ρ b) (ρ v) (hr x _ (by rw [ho]; simp [Op.operands]) hx) (hr b _ (by rw [ho]; simp [Op.operands]) hb) (hr v _ (by rw [ho]; simp [Op.operands]) hv) hp
      · cases h
    | range t x =>
      simp only [evOp] at h
      split at h
      · rename_i a hx
        obtain ⟨k1, k2⟩ := range_ok h
        refine ⟨k1, fun X m ρ w hr hp => ?_⟩
        unfold execOp; rw [ho]
        exact k2 X m w (ρ x) (hr x _ (by rw [ho]; simp [Op.operands]) hx) hp
      · cases h
    | next x s =>
      simp only [evOp] at h
      split at h
      · rename_i a hx
        obtain ⟨k1, k2⟩ := next_ok (ty := o.type) h
        refine ⟨k1, fun X m ρ w hr hp => ?_⟩
        unfold execOp; rw [ho]
        exact k2 X m w (ρ x) (hr x _ (by rw [ho]; simp [Op.operands]) hx) hp
      · cases h
    | entry x =>
      simp only [evOp] at h
      split at h
      · rename_i a hx
        obtain ⟨k1, k2⟩ := entryI_ok h
        refine ⟨k1, fun X m ρ w hr hp => ?_⟩
        unfold execOp; rw [ho]
        exact k2 X m w (ρ x) (hr x _ (by rw [ho]; simp [Op.operands]) hx) hp
      · cases h
    | typeAssert x t0 t k => exact ok_typeAssert ho h
    | extract x i => exact ok_extract ho h
    | call c =>
      simp only [evOp] at h
      obtain ⟨k1, k2⟩ := call_val (ty := o.type) h
      refine ⟨k1, fun X m ρ w hr hp => ?_⟩
      unfold execOp; rw [ho]
      exact k2 X m w ρ (fun x v hx => hr x v (by rw [ho]; simpa [Op.operands] using hx)) hp
    | _ => cases h
  · generalize ho : o.op = op at h hr
    have nolift : ∀ {x : Option AV}, lift H nx x = some (.call f args) → False := by
      intro x e; cases x <;> simp [lift, pure'] at e
    cases op with
    | call c =>
      simp only [evOp] at h
      obtain ⟨A, e, hA⟩ := call_run (ty := o.type) h (fun x v hx => hr x v (by simpa [Op.operands] using hx)) w
      refine ⟨A, ?_, hA⟩
      unfold execOp; rw [ho]
      exact e
    | convert s d x =>
      exfalso
      simp only [evOp, evConv, evConvI, evConvS, pure', newO] at h
      split at h
      · split at h
        · split at h
          · unfold evConvD at h
            split at h
            · unfold evConvI pure' at h; (repeat' split at h) <;> cases h
            · split at h
              · unfold evConvB pure' at h; (repeat' split at h) <;> cases h
              · unfold evConvS pure' at h; (repeat' split at h) <;> cases h
              · cases h
            · unfold evConvT newO at h; (repeat' split at h) <;> cases h
            · cases h
          · cases h
        · cases h
      · cases h
    | binOp op t x y t' => exfalso; simp only [evOp] at h; (repeat' split at h) <;> first | exact nolift h | cases h
    | load t a => exfalso; simp only [evOp, evLoad] at h; (repeat' split at h) <;> cases h
    | store t a x => exfalso; simp only [evOp, evStore] at h; (repeat' split at h) <;> cases h
    | buildSlice t n p => exfalso; simp only [evOp, evBuildS, newO] at h; (repeat' split at h) <;> cases h
    | makeSlice t l c => exfalso; simp only [evOp, evMakeS, newO] at h; (repeat' split at h) <;> cases h
    | lookup t x k ok => exfalso; simp only [evOp, evLookup, evLookupM, pure'] at h; (repeat' split at h) <;> cases h
    | mapUpdate t x k v => exfalso; simp only [evOp, evUpdate, evUpdateM] at h; (repeat' split at h) <;> cases h
    | insert t x k v => exfalso; simp only [evOp, evUpdate, evUpdateM] at h; (repeat' split at h) <;> cases h
    | mapEntry t x k => exfalso; simp only [evOp, evEntry, evEntryM] at h; (repeat' split at h) <;> cases h
    | entryStore t x b v => exfalso; simp only [evOp, evEntryS] at h; (repeat' split at h) <;> cases h
    | range t x => exfalso; simp only [evOp, evRange, evRangeM, newO] at h; (repeat' split at h) <;> cases h
    | next x s => exfalso; simp only [evOp, evNext, evNextM] at h; (repeat' split at h) <;> cases h
    | entry x =>
      exfalso; simp only [evOp] at h
      split at h
      · unfold evEntryI at h; (repeat' split at h) <;> cases h
      · cases h
    | typeAssert x t0 t k => exfalso; simp only [evOp, evAssert, pure'] at h; (repeat' split at h) <;> cases h
    | makeMap t r => exfalso; cases r <;> cases h
    | nilCheck x => exfalso; simp only [evOp, evNilM, pure'] at h; (repeat' split at h) <;> cases h
    | _ => exfalso; simp only [evOp, pure', newO] at h; (repeat' split at h) <;> first | exact nolift h | cases h
  · generalize ho : o.op = op at h hr
    have nolift : ∀ {x : Option AV}, lift H nx x = some (.rnd l args) → False := by
      intro x e; cases x <;> simp [lift, pure'] at e
    cases op with
    | call c =>
      simp only [evOp] at h
      obtain ⟨A, L, e, hL, hA⟩ := rnd_run (ty := o.type) h (fun x v hx => hr x v (by simpa [Op.operands] using hx)) w
      refine ⟨A, L, ?_, hL, hA⟩
      unfold execOp; rw [ho]
      exact e
    | convert s d x =>
      exfalso
      simp only [evOp, evConv, evConvI, evConvS, pure', newO] at h
      split at h
      · split at h
        · split at h
          · unfold evConvD at h
            split at h
            · unfold evConvI pure' at h; (repeat' split at h) <;> cases h
            · split at h
              · unfold evConvB pure' at h; (repeat' split at h) <;> cases h
              · unfold evConvS pure' at h; (repeat' split at h) <;> cases h
              · cases h
            · unfold evConvT newO at h; (repeat' split at h) <;> cases h
            · cases h
          · cases h
        · cases h
      · cases h
    | binOp op t x y t' => exfalso; simp only [evOp] at h; (repeat' split at h) <;> first | exact nolift h | cases h
    | load t a => exfalso; simp only [evOp, evLoad] at h; (repeat' split at h) <;> cases h
    | store t a x => exfalso; simp only [evOp, evStore] at h; (repeat' split at h) <;> cases h
    | buildSlice t n p => exfalso; simp only [evOp, evBuildS, newO] at h; (repeat' split at h) <;> cases h
    | makeSlice t l c => exfalso; simp only [evOp, evMakeS, newO] at h; (repeat' split at h) <;> cases h
    | lookup t x k ok => exfalso; simp only [evOp, evLookup, evLookupM, pure'] at h; (repeat' split at h) <;> cases h
    | mapUpdate t x k v => exfalso; simp only [evOp, evUpdate, evUpdateM] at h; (repeat' split at h) <;> cases h
    | insert t x k v => exfalso; simp only [evOp, evUpdate, evUpdateM] at h; (repeat' split at h) <;> cases h
    | mapEntry t x k => exfalso; simp only [evOp, evEntry, evEntryM] at h; (repeat' split at h) <;> cases h
    | entryStore t x b v => exfalso; simp only [evOp, evEntryS] at h; (repeat' split at h) <;> cases h
    | range t x => exfalso; simp only [evOp, evRange, evRangeM, newO] at h; (repeat' split at h) <;> cases h
    | next x s => exfalso; simp only [evOp, evNext, evNextM] at h; (repeat' split at h) <;> cases h
    | entry x =>
      exfalso; simp only [evOp] at h
      split at h
      · unfold evEntryI at h; (repeat' split at h) <;> cases h
      · cases h
    | typeAssert x t0 t k => exfalso; simp only [evOp, evAssert, pure'] at h; (repeat' split at h) <;> cases h
    | makeMap t r => exfalso; cases r <;> cases h
    | nilCheck x => exfalso; simp only [evOp, evNilM, pure'] at h; (repeat' split at h) <;> cases h
    | _ => exfalso; simp only [evOp, pure', newO] at h; (repeat' split at h) <;> first | exact nolift h | cases h
end
end Go.Ev
