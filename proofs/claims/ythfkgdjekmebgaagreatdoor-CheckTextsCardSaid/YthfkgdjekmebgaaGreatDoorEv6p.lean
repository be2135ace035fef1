/- The evaluator's operations are the model's: length, maps, iterators, conversions. Plain lemmas. -/
import Derived.Test.YthfkgdjekmebgaaGreatDoorEv6o
import Derived.Test.YthfkgdjekmebgaaGreatDoorEv9
namespace Go.Ev
open Go
set_option linter.unusedVariables false
set_option linter.unusedSimpArgs false
set_option linter.unusedSectionVars false
variable [Env]
section
variable {P : Program}
theorem bgoal_pure {H : Tr AO} {nx : Nat} {u : Ou} {v : AV} {R : Nat} {x : Array Value → Sem Next} {args : List AV} (hu : u = ⟨v, H, nx, R, 0⟩) (h : ∀ X m w (A : Array Value), RelL m args A.toList → Pre P X m H nx u w → ∃ V, (x A).run P w = .ok (.value V) w ∧ Rel m v V)
    (hR : ∀ r, R.testBit r = true → H.get r ≠ none := by exact live_0 _) : BGoal P H nx u x args := by
  subst hu
  refine ⟨keep_pure _ _ _ _ hR, fun X m w A hA hp => ?_⟩
  obtain ⟨V, h1, h2⟩ := h X m w A hA hp
  exact does_pure hp h1 h2
theorem len_ok {H : Tr AO} {nx : Nat} {tys : Array TypeId} {t : TypeId} {x : AV} {u : Ou} {ty : TypeId} (ht : tys[0]? = some t) (h : evLen P H nx t x = some (.ok u)) :
    BGoal P H nx u (fun A => Builtin.len_ tys ty A >>= fun y => (pure (Next.value y) : Sem Next)) [x] := by
  unfold evLen at h
  split at h
  · rename_i hd
    unfold evLenS at h
    split at h
    · rename_i l
      refine bgoal_pure (pure_inv h) fun X m w A hA hp => ?_
      obtain ⟨V, rfl, h1⟩ := arr1 hA
      cases h1
      rename_i S hS
      refine ⟨.int .i64 l.length, run_v ?_, .i _ _⟩
      have : S.size = l.length := by rw [← hS, Array.length_toList]; rfl
      simp [Builtin.len_, ht, run_und hd, goInt, this]
    · cases h
  · rename_i n e hd
    refine bgoal_pure (pure_inv h) fun X m w A hA hp => ?_
    obtain ⟨V, rfl, h1⟩ := arr1 hA
    exact ⟨.int .i64 n, run_v (by simp [Builtin.len_, ht, run_und hd, goInt]), .i _ _⟩
  · rename_i e hd
    unfold evLenL at h
    split at h
    · refine bgoal_pure (pure_inv h) fun X m w A hA hp => ?_
      obtain ⟨V, rfl, h1⟩ := arr1 hA
      cases h1
      exact ⟨.int .i64 0, run_v (by simp [Builtin.len_, ht, run_und hd, goInt]), .i _ _⟩
    · rename_i r o n c rel
      refine bgoal_pure (pure_inv h) fun X m w A hA hp => ?_
      obtain ⟨V, rfl, h1⟩ := arr1 hA
      cases h1 <;> exact ⟨.int .i64 n, run_v (by simp [Builtin.len_, ht, run_und hd, goInt]), .i _ _⟩
    · cases h
  · rename_i k e hd
    unfold evLenM at h
    split at h
    · refine bgoal_pure (pure_inv h) fun X m w A hA hp => ?_
      obtain ⟨V, rfl, h1⟩ := arr1 hA
      cases h1
      exact ⟨.int .i64 0, run_v (by simp [Builtin.len_, ht, run_und hd, goInt]), .i _ _⟩
    · rename_i r
      split at h
      · rename_i es cl hrow
        cases h
        refine bgoal_pure rfl (hR := live_bit hrow) fun X m w A hA hp => ?_
        obtain ⟨V, rfl, h1⟩ := arr1 hA
        cases h1
        rename_i L hL
        obtain ⟨E, g1, g2, g3⟩ := hp.row hrow (bit_self r) hL
        refine ⟨.int .i64 es.length, run_v ?_, .i _ _⟩
        simp [Builtin.len_, ht, run_und hd, goInt, getObj, Sem.run, g1, g2]
      · cases h
    · cases h
  · rename_i e hd
    split at h
    · rename_i n e' hd'
      refine bgoal_pure (pure_inv h) fun X m w A hA hp => ?_
      obtain ⟨V, rfl, h1⟩ := arr1 hA
      exact ⟨.int .i64 n, run_v (by simp [Builtin.len_, ht, run_und hd, run_und hd', goInt]), .i _ _⟩
    · cases h
  · cases h
theorem clear_ok {H : Tr AO} {nx : Nat} {tys : Array TypeId} {t : TypeId} {x : AV} {u : Ou} {ty : TypeId} (ht : tys[0]? = some t) (h : evClear P H nx t x = some (.ok u)) :
    BGoal P H nx u (fun A => Builtin.clear_ tys ty A >>= fun y => (pure (Next.value y) : Sem Next)) [x] := by
  unfold evClear at h
  split at h
  · rename_i e hd
    unfold evClearL at h
    split at h
    · refine bgoal_pure (pure_inv h) fun X m w A hA hp => ?_
      obtain ⟨V, rfl, h1⟩ := arr1 hA
      cases h1
      exact ⟨undef, run_v (by simp [Builtin.clear_, ht, run_und hd, undef]), .un m⟩
    · rename_i r o n c rel
      split at h
      · rename_i l e' tl hrow
        split at h
        · rename_i z ze hz hze
          split at h
          · rename_i l' b1 b2 hov
            cases h
            obtain ⟨Z, z1, z2⟩ := run_zero hze
            refine ⟨keep_set hrow (bit_self r) (live_bit hrow), fun X m w A hA hp => ?_⟩
            obtain ⟨V, rfl, h1⟩ := arr1 hA
            have hZ := (absV_rel m z1).cells
            have hrel := rept_rel hZ n
            have hone : (rept ze.cells n).all AV.one = true := by
              have : ∀ n, (rept ze.cells n).all AV.one = true := by
                intro n
                induction n with
                | zero => rfl
                | succ n ih => simp only [rept, List.all_append, b2, ih, Bool.and_self]
              exact this n
            have hzc : Builtin.zeroCells Z.cells n = (Array.range (n * ze.cells.length)).map (Z.cells[· % Z.cells.size]!) := by
              unfold Builtin.zeroCells
              have : Z.cells.size = ze.cells.length := by have := hZ.1; simp at this; omega
              rw [this]
            have key : ∀ L, m r = some L → ∀ cp, V = .slice (some ⟨L.block, L.base + o, none⟩) n cp → Does P (Builtin.clear_ tys ty #[V] >>= fun y => (pure (Next.value y) : Sem Next)) X nx ⟨.un, H.set r (some (.c l' e' tl)), nx, bit r, bit r⟩ m w := by
              intro L hL cp hV
              subst hV
              obtain ⟨c1, _, _, c4, c5⟩ := row_over (hp.row hrow (bit_self r) hL) hov hrel hone
              by_cases hn : n = 0
              · subst hn
                have e0 : ((Array.range (0 * ze.cells.length)).map (Z.cells[· % Z.cells.size]!)).toList = [] := by simp
                rw [e0] at c4 c5
                refine does_set hp (bit_self r) hrow hL c4 c5 (.un m) (.inl (run_v ?_))
                simp [Builtin.clear_, ht, run_und hd, undef, World.setCells]
              · refine does_set hp (bit_self r) hrow hL c4 c5 (.un m) (.inl (run_v ?_))
                cases n with
                | zero => exact (hn rfl).elim
                | succ n =>
                  simp at c1
                  simp only [Builtin.clear_, ht, List.size_toArray, Sem.run_bind]
                  simp [run_und hd, z2, hzc, c1, undef]
            cases h1
            · rename_i L hL; exact key L hL _ rfl
            · rename_i L hL hn; exact key L hL _ rfl
          · cases h
        · cases h
      · cases h
    · cases h
  · cases h
theorem fold_ok {f : AV → AV → Option AV} {g : Value → Value → Sem Value} {m : Mp} {w : World} (hfg : ∀ x y z X Y, f x y = some z → Rel m x X → Rel m y Y → ∃ Z, (g X Y).run P w = .ok Z w ∧ Rel m z Z) : ∀ {l : List AV} {x v : AV} {X : Value} {L : List Value}, foldA f x l = some v → Rel m x X → RelL m l L → ∃ V, (L.foldlM g X).run P w = .ok V w ∧ Rel m v V
  | [], x, v, X, L, h, hx, hl => by
    have := hl.nil_inv; subst this
    simp only [foldA] at h; cases h
    exact ⟨X, rfl, hx⟩
  | y :: l, x, v, X, L, h, hx, hl => by
    obtain ⟨Y, L', rfl, h1, h2⟩ := hl.cons_inv
    simp only [foldA] at h
    split at h
    · rename_i z hz
      obtain ⟨Z, g1, g2⟩ := hfg x y z X Y hz hx h1
      obtain ⟨V, k1, k2⟩ := fold_ok hfg h g2 h2
      exact ⟨V, by simp only [List.foldlM_cons, Sem.run_bind, g1, Result.andThen_ok, k1], k2⟩
    · cases h
theorem min_ok {H : Tr AO} {nx : Nat} {tys : Array TypeId} {args : List AV} {u : Ou} {ty : TypeId} (h : evMin H nx args = some (.ok u)) :
    BGoal P H nx u (fun A => Builtin.min_ tys ty A >>= fun y => (pure (Next.value y) : Sem Next)) args := by
  unfold evMin at h
  split at h
  · rename_i x xs
    split at h
    · rename_i v hv
      refine bgoal_pure (pure_inv h) fun X m w A hA hp => ?_
      obtain ⟨V, A', e, h1, h2⟩ := hA.cons_inv
      obtain ⟨W, k1, k2⟩ := fold_ok (P := P) (w := w) (g := Builtin.min2) (fun x y z X Y hz hx hy => by
        unfold minA at hz
        split at hz
        · rename_i k a
          split at hz
          · rename_i k' b
            cases hx; cases hy; cases hz
            refine ⟨.int k (if b < a then b else a), by simp [Builtin.min2], ?_⟩
            cases e0 : ile a b with
            | true => rw [ile_eq, decide_eq_true_eq] at e0; rw [if_neg (by omega)]; exact .i _ _
            | false => rw [ile_eq, decide_eq_false_iff_not] at e0; rw [if_pos (by omega)]; exact .i _ _
          · cases hz
        · cases hz) hv h1 h2
      exact ⟨W, run_v (by simp only [Builtin.min_, e]; exact k1), k2⟩
    · cases h
  · cases h
theorem max_ok {H : Tr AO} {nx : Nat} {tys : Array TypeId} {args : List AV} {u : Ou} {ty : TypeId} (h : evMax H nx args = some (.ok u)) :
    BGoal P H nx u (fun A => Builtin.max_ tys ty A >>= fun y => (pure (Next.value y) : Sem Next)) args := by
  unfold evMax at h
  split at h
  · rename_i x xs
    split at h
    · rename_i v hv
      refine bgoal_pure (pure_inv h) fun X m w A hA hp => ?_
      obtain ⟨V, A', e, h1, h2⟩ := hA.cons_inv
      obtain ⟨W, k1, k2⟩ := fold_ok (P := P) (w := w) (g := Builtin.max2) (fun x y z X Y hz hx hy => by
        unfold maxA at hz
        split at hz
        · rename_i k a
          split at hz
          · rename_i k' b
            cases hx; cases hy; cases hz
            refine ⟨.int k (if b > a then b else a), by simp [Builtin.max2], ?_⟩
            cases e0 : ile b a with
            | true => rw [ile_eq, decide_eq_true_eq] at e0; rw [if_neg (by omega)]; exact .i _ _
            | false => rw [ile_eq, decide_eq_false_iff_not] at e0; rw [if_pos (by omega)]; exact .i _ _
          · cases hz
        · cases hz) hv h1 h2
      exact ⟨W, run_v (by simp only [Builtin.max_, e]; exact k1), k2⟩
    · cases h
  · cases h
/-- The builtins. -/
theorem builtin_ok {H : Tr AO} {nx : Nat} {b : Builtin} {tys : Array TypeId} {args : List AV} {u : Ou} {ty : TypeId} {cs : Array Bool} (h : evBuiltin P H nx b tys args = some (.ok u)) :
    BGoal P H nx u (fun A => builtin b tys ty cs A) args := by
  have two : ∀ {f : AV → AV → Option Rs} {x : Array Value → Sem Next}, with2 f args = some (.ok u) → (∀ a b, f a b = some (.ok u) → BGoal P H nx u x [a, b]) → BGoal P H nx u x args := by
    intro f x h hf
    unfold with2 at h
    split at h
    · exact hf _ _ h
    · cases h
  have one : ∀ {f : TypeId → AV → Option Rs} {x : Array Value → Sem Next}, with1 f tys args = some (.ok u) → (∀ t a, tys[0]? = some t → f t a = some (.ok u) → BGoal P H nx u x [a]) → BGoal P H nx u x args := by
    intro f x h hf
    unfold with1 at h
    split at h
    · split at h
      · rename_i t ht; exact hf t _ ht h
      · cases h
    · cases h
  cases b <;> first
    | (cases h; done)
    | exact two h fun a b h => by
        obtain ⟨g1, g2⟩ := append_ok h
        refine ⟨g1, fun X m w A hA hp => ?_⟩
        obtain ⟨V, W, rfl, h1, h2⟩ := arr2 hA
        exact g2 X m w V W ty h1 h2 hp
    | exact two h fun a b h => copy_ok h
    | exact one h fun t a ht h => len_ok ht h
    | exact one h fun t a ht h => clear_ok ht h
    | exact min_ok h
    | exact max_ok h
end
end Go.Ev
