/- The evaluator's operations are the model's: copy, clear, length, maps, iterators, conversions. Plain lemmas. -/
import Derived.Test.YthfkgdjekmebgaaGreatDoorEv6n
namespace Go.Ev
open Go
set_option linter.unusedVariables false
set_option linter.unusedSimpArgs false
set_option linter.unusedSectionVars false
variable [Env]
section
variable {P : Program}
/-- What a builtin does: its value. -/
def BGoal (P : Program) (H : Tr AO) (nx : Nat) (u : Ou) (x : (args : Array Value) → Sem Next) (args : List AV) : Prop :=
  Keep H nx u ∧ ∀ X m w (A : Array Value), RelL m args A.toList → Pre P X m H nx u w → Does P (x A) X nx u m w
theorem arr1 {m : Mp} {a : AV} {A : Array Value} (h : RelL m [a] A.toList) : ∃ V, A = #[V] ∧ Rel m a V := by
  obtain ⟨V, l, e, h1, h2⟩ := h.cons_inv
  have := h2.nil_inv
  subst this
  exact ⟨V, by cases A; simpa using e, h1⟩
theorem arr2 {m : Mp} {a b : AV} {A : Array Value} (h : RelL m [a, b] A.toList) : ∃ V W, A = #[V, W] ∧ Rel m a V ∧ Rel m b W := by
  obtain ⟨V, l, e, h1, h2⟩ := h.cons_inv
  obtain ⟨W, l', e', h3, h4⟩ := h2.cons_inv
  have := h4.nil_inv
  subst this
  subst e'
  exact ⟨V, W, by cases A; simpa using e, h1, h3⟩
theorem copy_ok {H : Tr AO} {nx : Nat} {tys : Array TypeId} {d x : AV} {u : Ou} {ty : TypeId} (h : evCopy P H nx tys d x = some (.ok u)) :
    BGoal P H nx u (fun A => Builtin.copy_ tys ty A >>= fun y => (pure (Next.value y) : Sem Next)) [d, x] := by
  unfold evCopy at h
  split at h
  · rename_i td htd
    split at h
    · rename_i e hd
      split at h
      · rename_i z hz
        split at h
        · have nil : ∀ n, u = ⟨.i .i64 0, H, nx, 0, 0⟩ → (∀ m V, Rel m x V → ∀ w : World, (Builtin.lenOf V).run P w = .ok n w ∧ ∃ A, (Builtin.firstCells z 0 V).run P w = .ok A w) →
              BGoal P H nx u (fun A => Builtin.copy_ tys ty A >>= fun y => (pure (Next.value y) : Sem Next)) [.ns, x] := by
            intro n hu hx
            subst hu
            refine ⟨keep_pure _ _ _ _ (live_0 _), fun X m w A hA hp => ?_⟩
            obtain ⟨V, W, rfl, h1, h2⟩ := arr2 hA
            cases h1
            obtain ⟨g1, B, g2⟩ := hx m W h2 w
            refine does_pure hp (run_v (V := .int .i64 0) ?_) (.i _ _)
            simp [Builtin.copy_, htd, run_und hd, g1, run_size hz, g2, goInt]
          split at h
          · refine nil 0 (pure_inv h) fun m V hV w => ?_
            cases hV; exact ⟨rfl, #[], rfl⟩
          · rename_i r o n c rel
            refine nil n (pure_inv h) fun m V hV w => ?_
            cases hV
            · exact ⟨rfl, _, by simp only [Builtin.firstCells, Nat.zero_mul]; exact run_loadRow0 _ _⟩
            · exact ⟨rfl, _, by simp only [Builtin.firstCells, Nat.zero_mul]; exact run_loadRow0 _ _⟩
          · rename_i l
            refine nil l.length (pure_inv h) fun m V hV w => ?_
            cases hV
            rename_i S hS
            exact ⟨by rw [← hS, Array.length_toList]; rfl, _, rfl⟩
          · cases h
        · rename_i r o k c rel
          split at h
          · rename_i l e' tl xs n rx hrow hc
            split at h
            · rename_i l' hov h1x
              cases h
              have hbr : (bit r ||| rx).testBit r = true := or_l (bit_self r)
              refine ⟨keep_set hrow hbr (live_or (live_bit hrow) (cells_live hc)), fun X m w A hA hp => ?_⟩
              obtain ⟨V, W, rfl, h1, h2⟩ := arr2 hA
              obtain ⟨e1, e2, e3⟩ := first_ok hc h2 hp.rep (fun q hq => hp.R q (or_r hq))
              obtain ⟨B, b1, b2⟩ := e3 (min n k) (Nat.min_le_left _ _)
              have h1x' : (xs.take (min n k * z)).all AV.one = true := List.all_eq_true.2 fun y hy => List.all_eq_true.1 h1x y (List.mem_of_mem_take hy)
              have key : ∀ L, m r = some L → ∀ cp, V = .slice (some ⟨L.block, L.base + o, none⟩) k cp →
                  Does P (Builtin.copy_ tys ty #[V, W] >>= fun y => (pure (Next.value y) : Sem Next)) X nx ⟨.i .i64 (min n k), H.set r (some (.c l' e' tl)), nx, bit r ||| rx, bit r⟩ m w := by
                intro L hL cp hV
                subst hV
                obtain ⟨c1, _, _, c4, c5⟩ := row_over (hp.row hrow hbr hL) hov b2 h1x'
                refine does_set hp hbr hrow hL c4 c5 (.i .i64 _) (.inl (run_v ?_))
                have hm : min n k = (if n ≤ k then n else k) := Nat.min_def
                have b1' := b1 w rfl
                rw [hm] at b1'
                have hv : ((if n ≤ k then n else k : Nat) : Int) = min (n : Int) (k : Int) := by split <;> omega
                simp [Builtin.copy_, htd, run_und hd, e1, run_size hz, b1', c1, goInt, Nat.min_def, hv]
              cases h1
              · rename_i L hL; exact key L hL _ rfl
              · rename_i L hL hn; exact key L hL _ rfl
            · cases h
          · cases h
        · cases h
      · cases h
    · cases h
  · cases h
end
end Go.Ev
