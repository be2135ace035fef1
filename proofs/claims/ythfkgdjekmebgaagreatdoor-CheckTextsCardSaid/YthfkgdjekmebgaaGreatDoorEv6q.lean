/- The evaluator's operations are the model's: maps. Plain lemmas. -/
import Derived.Test.YthfkgdjekmebgaaGreatDoorEv6p
namespace Go.Ev
open Go
set_option linter.unusedVariables false
set_option linter.unusedSimpArgs false
set_option linter.unusedSectionVars false
variable [Env]
section
variable {P : Program}
theorem keyFl_ok {f : TypeId → AV → Bool} {D : Nat} {e : Bool} (hf : ∀ t v, f t v = true → ∀ m V, Rel m v V → ∀ w, (Instr.checkKey e D t V).run P w = .ok () w) {l : List AV} {m : Mp} {A : Array Value} (hA : RelL m l A.toList) :
    ∀ {fs : List Field}, keyFl P f l fs = true → ∀ w, (forIn fs PUnit.unit fun (fd : Field) (_ : PUnit) => (do
      if fd.name ≠ "_" then Instr.checkKey e D fd.type (← part fd.type A fd.offset)
      pure (ForInStep.yield PUnit.unit) : Sem (ForInStep PUnit))).run P w = .ok PUnit.unit w
  | [], _, w => by simp
  | fd :: fs, h, w => by
    simp only [keyFl] at h
    split at h
    · rename_i x hx
      simp only [Bool.and_eq_true] at h
      obtain ⟨V, g1, g2⟩ := run_part hx hA w
      have g3 := hf _ _ h.1 m V g2 w
      have ih := keyFl_ok hf hA h.2 w
      simp only [List.forIn_cons, Sem.run_bind]
      by_cases hn : fd.name = "_"
      · simp only [hn, ne_eq, not_true_eq_false, if_false, Sem.run_pure, Result.andThen_ok]
        exact ih
      · simp only [hn, ne_eq, not_false_eq_true, if_true, Sem.run_bind, g1, g3, Sem.run_pure, Result.andThen_ok]
        exact ih
    · cases h
theorem checkKey_ok (e : Bool) : ∀ (d : Nat) (t : TypeId) (v : AV), keyOk P d t v = true → ∀ (m : Mp) (V : Value), Rel m v V → ∀ D, d ≤ D → ∀ w, (Instr.checkKey e D t V).run P w = .ok () w
  | 0, t, v, h => by simp [keyOk] at h
  | d + 1, t, v, h => by
    intro m V hV D hD w
    obtain ⟨D, rfl⟩ : ∃ E, D = E + 1 := ⟨D - 1, by omega⟩
    simp only [keyOk] at h
    split at h
    · rename_i k hd
      split at h
      · cases hV; simp [Instr.checkKey, run_und hd]
      · cases h
    · rename_i hd
      split at h
      · cases hV; simp [Instr.checkKey, run_und hd]
      · cases h
    · rename_i fs hd
      split at h
      · rename_i l
        cases hV
        rename_i A h1 h2
        have := keyFl_ok (P := P) (D := D) (e := e) (fun t v hv m V hV w => checkKey_ok e d t v hv m V hV D (by omega) w) ⟨h1, h2⟩ h w
        simp only [Instr.checkKey, Sem.run_bind, run_und hd, Result.andThen_ok]
        rw [← Array.forIn_toList]
        first
          | exact this
          | (rw [this]; rfl)
          | (simp only [this, Result.andThen_ok, Sem.run_pure])
      · cases h
    · cases h
/-- The entries of a map. -/
def EntR (m : Mp) (es : List (AV × AV × Nat)) (E : List MapEntry) : Prop := es.length = E.length ∧ ∀ (i : Nat) (k v : AV) (b : Nat) (x : MapEntry), es[i]? = some (k, v, b) → E[i]? = some x → Rel m k x.key ∧ Rel m v x.val ∧ x.born = b
theorem EntR.cons_inv {m : Mp} {k v : AV} {b : Nat} {es : List (AV × AV × Nat)} {E : List MapEntry} (h : EntR m ((k, v, b) :: es) E) : ∃ x E', E = x :: E' ∧ Rel m k x.key ∧ Rel m v x.val ∧ x.born = b ∧ EntR m es E' := by
  cases E with
  | nil => have := h.1; simp at this
  | cons x E' =>
    obtain ⟨a1, a2, a3⟩ := h.2 0 k v b x (by simp) (by simp)
    exact ⟨x, E', rfl, a1, a2, a3, by have := h.1; simpa using this, fun i k' v' b' y h1 h2 => h.2 (i + 1) k' v' b' y (by simpa using h1) (by simpa using h2)⟩
theorem EntR.nil_inv {m : Mp} {E : List MapEntry} (h : EntR m [] E) : E = [] := by
  have := h.1; simp at this; exact List.eq_nil_of_length_eq_zero this.symm
/-- What a search finds. -/
def FindR (m : Mp) (E : List MapEntry) (i : Nat) (r : Option (Nat × AV × AV)) (R : Option (Nat × Value)) : Prop :=
  (r = none ∧ R = none) ∨ ∃ j k' v x, r = some (i + j, k', v) ∧ E[j]? = some x ∧ R = some (i + j, x.val) ∧ Rel m k' x.key ∧ Rel m v x.val
theorem FindR.up {m : Mp} {E : List MapEntry} {x0 : MapEntry} {i : Nat} {r : Option (Nat × AV × AV)} {R : Option (Nat × Value)} (h : FindR m E (i + 1) r R) : FindR m (x0 :: E) i r R := by
  rcases h with h | ⟨j, k', v, x, h1, h2, h3, h4, h5⟩
  · exact .inl h
  · exact .inr ⟨j + 1, k', v, x, by rw [h1, show i + 1 + j = i + (j + 1) by omega], by simpa using h2, by rw [h3, show i + 1 + j = i + (j + 1) by omega], h4, h5⟩
theorem ask_ok {kt : TypeId} {k : AV} {m : Mp} {K : Value} (hk : Rel m k K) (w : World) : ∀ {es : List (AV × AV × Nat)} {i : Nat} {r : Option (Nat × AV × AV)} {E : List MapEntry}, findA P kt k es i = some r → EntR m es E → ∃ R, (Instr.findAsking kt K E i).run P w = .ok R w ∧ FindR m E i r R
  | [], i, r, E, h, hE => by
    have := hE.nil_inv; subst this
    simp only [findA] at h; cases h
    exact ⟨none, rfl, .inl ⟨rfl, rfl⟩⟩
  | (k', v, b) :: es, i, r, E, h, hE => by
    obtain ⟨x, E', rfl, h1, h2, _, h3⟩ := hE.cons_inv
    simp only [findA, fEq_eq] at h
    split at h
    · rename_i he
      cases h
      have g := equal_ok he (by omega) hk h1 w
      exact ⟨some (i, x.val), by simp [Instr.findAsking, g], .inr ⟨0, k', v, x, rfl, rfl, rfl, h1, h2⟩⟩
    · rename_i he
      have g := equal_ok he (by omega) hk h1 w
      obtain ⟨R, g1, g2⟩ := ask_ok hk w h h3
      exact ⟨R, by simp [Instr.findAsking, g, g1], g2.up⟩
    · cases h
theorem rngNe_ok {lo hi q n : Int} {b : Bool} (h : rngNe lo hi q = some b) (a1 : lo ≤ n) (a2 : n ≤ hi) : b = false ∧ n ≠ q := by
  unfold rngNe at h
  split at h
  · rename_i e; rw [ile_eq, decide_eq_false_iff_not] at e; cases h; exact ⟨rfl, by omega⟩
  · split at h
    · rename_i e; rw [ile_eq, decide_eq_false_iff_not] at e; cases h; exact ⟨rfl, by omega⟩
    · cases h
theorem now_same {kt : TypeId} {d : TypeDesc} {k k' : AV} {m : Mp} {K K' : Value} {b b' : Bool} (hd : P.underlying kt = some d) (hk : Rel m k K) (hk' : Rel m k' K') (h : Instr.sameNow d K K' = some b) (he : evEq P 8 kt k k' = some b') : b = b' := by
  unfold Instr.sameNow at h
  simp only [evEq, hd] at he
  split at h
  · cases hk <;> cases hk' <;> try (simp at he; done)
    · split at h
      · rename_i e
        subst e
        simp at h he
        rw [← h, ← he, ieq_eq]
      · cases h
    · rename_i lo hi h1 h2
      split at h
      · rename_i e
        subst e
        simp at h he
        obtain ⟨rfl, hq⟩ := rngNe_ok he h1 h2
        rw [← h]; simp [hq]
      · cases h
  · cases hk <;> cases hk' <;> try (simp at he; done)
    rename_i S1 h1 S2 h2
    simp at h he
    rw [← h, ← he, seq'_eq, beq_toListBytes, ByteArray.toList_eq, ByteArray.toList_eq, h1, h2]
  · cases hk <;> cases hk' <;> try (simp at he; done)
    simp at h he
    rw [← h, ← he]
  · cases h
theorem now_ok {kt : TypeId} {d : TypeDesc} {k : AV} {m : Mp} {K : Value} (hd : P.underlying kt = some d) (hk : Rel m k K) : ∀ {es : List (AV × AV × Nat)} {i : Nat} {r : Option (Nat × AV × AV)} {R : Option (Nat × Value)} {E : List MapEntry}, findA P kt k es i = some r → EntR m es E → Instr.findNow d K E i = some R → FindR m E i r R
  | [], i, r, R, E, h, hE, hn => by
    have := hE.nil_inv; subst this
    simp only [findA] at h; cases h
    simp only [Instr.findNow] at hn; cases hn
    exact .inl ⟨rfl, rfl⟩
  | (k', v, b) :: es, i, r, R, E, h, hE, hn => by
    obtain ⟨x, E', rfl, h1, h2, _, h3⟩ := hE.cons_inv
    simp only [findA, fEq_eq] at h
    simp only [Instr.findNow] at hn
    split at hn
    · rename_i hs
      cases hn
      split at h
      · cases h; exact .inr ⟨0, k', v, x, rfl, rfl, rfl, h1, h2⟩
      · rename_i he; have := now_same hd hk h1 hs he; cases this
      · cases h
    · rename_i hs
      split at h
      · rename_i he; have := now_same hd hk h1 hs he; cases this
      · exact (now_ok hd hk h h3 hn).up
      · cases h
    · cases hn
theorem find_ok {kt : TypeId} {d : TypeDesc} {k : AV} {m : Mp} {K : Value} (hd : P.underlying kt = some d) (hk : Rel m k K) {es : List (AV × AV × Nat)} {r : Option (Nat × AV × AV)} {E : List MapEntry} (h : findA P kt k es 0 = some r) (hE : EntR m es E) (w : World) :
    ∃ R, (Instr.findKey kt K E).run P w = .ok R w ∧ FindR m E 0 r R := by
  unfold Instr.findKey
  simp only [Sem.run_bind, run_und hd, Result.andThen_ok]
  cases hn : Instr.findNow d K E 0 with
  | some R => exact ⟨R, rfl, now_ok hd hk h hE hn⟩
  | none => exact ask_ok hk w h hE
theorem keyOk_und {t : TypeId} {v : AV} (h : keyOk P 8 t v = true) : ∃ d, P.underlying t = some d := by
  simp only [keyOk] at h
  cases hd : P.underlying t with
  | none => rw [hd] at h; cases h
  | some d => exact ⟨d, rfl⟩
/-! Keys are flat. -/
theorem sameA1_eq {x y : AV} (h : sameA1 x y = true) : x = y := by
  unfold sameA1 at h
  split at h
  · split at h
    · simp at h; rw [h]
    · cases h
  · split at h
    · simp only [Bool.and_eq_true, decide_eq_true_eq, ieq_eq, beq_iff_eq] at h
      rw [h.1, h.2]
    · cases h
  · split at h
    · rw [seq'_eq] at h; simp at h; rw [h]
    · cases h
  · cases h
theorem sameAL_eq : ∀ {x y : List AV}, sameAL x y = true → x = y ∧ ∀ z ∈ x, sameA1 z z = true
  | [], [], _ => ⟨rfl, fun z hz => by cases hz⟩
  | [], _ :: _, h => by simp [sameAL] at h
  | _ :: _, [], h => by simp [sameAL] at h
  | a :: x, b :: y, h => by
    simp only [sameAL, Bool.and_eq_true] at h
    obtain ⟨e1, e2⟩ := sameAL_eq h.2
    have e3 := sameA1_eq h.1
    subst e3; subst e1
    exact ⟨rfl, fun z hz => by cases hz with | head => exact h.1 | tail _ hz => exact e2 z hz⟩
theorem uniq1 {m : Mp} {x : AV} {V W : Value} (h : sameA1 x x = true) (hV : Rel m x V) (hW : Rel m x W) : V = W ∧ ∀ n, Instr.sameBits n V V = true := by
  cases hV <;> first
    | (simp [sameA1] at h; done)
    | (cases hW; exact ⟨rfl, fun n => by cases n <;> simp [Instr.sameBits]⟩)
    | (cases hW
       rename_i S1 h1 S2 h2
       have : S1 = S2 := by
         have e : S1.data.toList = S2.data.toList := h1.trans h2.symm
         have e : S1.data = S2.data := Array.toList_inj.1 e
         cases S1; cases S2; simpa using e
       subst this
       exact ⟨rfl, fun n => by cases n <;> simp [Instr.sameBits, beq_toListBytes]⟩)
theorem uniqA {m : Mp} {x y : AV} {V W : Value} (h : sameA x y = true) (hV : Rel m x V) (hW : Rel m y W) : x = y ∧ V = W ∧ ∀ n, Instr.sameBits (n + 1) V V = true := by
  unfold sameA at h
  split at h
  · rename_i l
    split at h
    · rename_i l'
      obtain ⟨e1, e2⟩ := sameAL_eq h
      subst e1
      cases hV; cases hW
      rename_i A a1 a2 B b1 b2
      have hA : RelL m l A.toList := ⟨a1, a2⟩
      have hB : RelL m l B.toList := ⟨b1, b2⟩
      have key : ∀ (l : List AV) (A B : List Value), (∀ z ∈ l, sameA1 z z = true) → RelL m l A → RelL m l B → A = B ∧ ∀ V ∈ A, ∀ n, Instr.sameBits n V V = true := by
        intro l
        induction l with
        | nil => intro A B _ h1 h2; rw [h1.nil_inv, h2.nil_inv]; exact ⟨rfl, fun V hV => by cases hV⟩
        | cons z l ih =>
          intro A B hz h1 h2
          obtain ⟨V, A', rfl, p1, p2⟩ := h1.cons_inv
          obtain ⟨W, B', rfl, q1, q2⟩ := h2.cons_inv
          obtain ⟨e, f⟩ := ih A' B' (fun y hy => hz y (by simp [hy])) p2 q2
          obtain ⟨e', f'⟩ := uniq1 (hz z (by simp)) p1 q1
          exact ⟨by rw [e, e'], fun U hU => by cases hU with | head => exact f' | tail _ hU => exact f U hU⟩
      obtain ⟨e, f⟩ := key l A.toList B.toList e2 hA hB
      have e' : A = B := Array.toList_inj.1 e
      subst e'
      refine ⟨rfl, rfl, fun n => ?_⟩
      simp only [Instr.sameBits, Bool.and_eq_true]
      refine ⟨by simp, ?_⟩
      rw [List.all_eq_true]
      intro p hp
      have : p.1 = p.2 ∧ p.1 ∈ A.toList := by
        have h1 : ∀ (L : List Value), ∀ p ∈ L.zip L, p.1 = p.2 ∧ p.1 ∈ L := by
          intro L
          induction L with
          | nil => intro p hp; cases hp
          | cons v L ih =>
            intro p hp
            simp only [List.zip_cons_cons] at hp
            cases hp with
            | head => exact ⟨rfl, by simp⟩
            | tail _ hp => exact ⟨(ih p hp).1, by simp [(ih p hp).2]⟩
        exact h1 _ p hp
      obtain ⟨q1, q2⟩ := this
      obtain ⟨p1, p2⟩ := p
      simp only at q1 q2
      subst q1
      exact f _ q2 n
    · cases h
  · have e := sameA1_eq h
    subst e
    obtain ⟨e1, e2⟩ := uniq1 h hV hW
    exact ⟨rfl, e1, fun n => e2 (n + 1)⟩
theorem ent_of {m : Mp} {L : Loc} {es : List (AV × AV × Nat)} {cl : Nat} {w : World} (h : RepO P m L (.m es cl) w) : ∃ E, w.heap[L.block]? = some (.map E cl) ∧ EntR m es E.toList := by
  obtain ⟨E, g1, g2, g3⟩ := h
  exact ⟨E, g1, by simpa using g2.symm, fun i k v b x h1 h2 => g3 i k v b x h1 (by rw [← Array.getElem?_toList]; exact h2)⟩
theorem of_ent {m : Mp} {L : Loc} {es : List (AV × AV × Nat)} {cl : Nat} {w : World} {E : Array MapEntry} (h1 : w.heap[L.block]? = some (.map E cl)) (h2 : EntR m es E.toList) : RepO P m L (.m es cl) w :=
  ⟨E, h1, by have := h2.1; simpa using this.symm, fun i k v b x a1 a2 => h2.2 i k v b x a1 (by rw [Array.getElem?_toList]; exact a2)⟩
theorem run_getObj {w : World} {r : Nat} {o : Obj} (h : w.heap[r]? = some o) (hn : ∀ c e f, o ≠ .cells c e f) : (getObj r).run P w = .ok o w := by
  simp only [getObj, Sem.run, h]
  all_goals cases o <;> first | rfl | exact (hn _ _ _ rfl).elim
theorem run_setObj {w : World} {r : Nat} {o o' : Obj} (h : w.heap[r]? = some o) (hn : ∀ c e f, o ≠ .cells c e f) : (setObj r o').run P w = .ok () { w with heap := w.heap.setIfInBounds r o' } := by
  simp only [setObj, Sem.run, h]
  all_goals cases o <;> first | rfl | exact (hn _ _ _ rfl).elim
theorem wrote_obj {w : World} {r : Nat} {o o' : Obj} (h : w.heap[r]? = some o) : Wrote1 r w { w with heap := w.heap.setIfInBounds r o' } ∧ (World.mk (w.heap.setIfInBounds r o') w.tape w.drawn w.os w.output).heap[r]? = some o' := by
  have hlt := (Array.getElem?_eq_some_iff.1 h).1
  refine ⟨⟨by simp, fun k hk => Array.getElem?_setIfInBounds_ne (fun e => hk e.symm), rfl, rfl, rfl⟩, ?_⟩
  simp [hlt]
theorem lookup_ok {H : Tr AO} {nx : Nat} {t : TypeId} {x k : AV} {ok : Bool} {u : Ou} (h : evLookup P H nx t x k ok = some (.ok u)) : Keep H nx u ∧ ∀ X m w A K, Rel m x A → Rel m k K → Pre P X m H nx u w → Does P (Instr.lookup t A K ok >>= fun y => (pure (Next.value y) : Sem Next)) X nx u m w := by
  unfold evLookup at h
  split at h
  · rename_i kt et hd
    split at h
    · rename_i z hko hz
      obtain ⟨Z, z1, z2⟩ := run_zero hz
      have res : ∀ (m : Mp) (v : AV) (V : Value) (b : Bool), Rel m v V → Rel m (if ok then .t [v, .b b] else v) (if ok then .tuple #[V, .bool b] else V) := by
        intro m v V b hv
        cases ok with
        | true => exact .t_of (.cons hv (.cons (.b b) (.nil m)))
        | false => exact hv
      unfold evLookupM at h
      split at h
      · have hu := pure_inv h
        subst hu
        refine ⟨keep_pure _ _ _ _ (live_0 _), fun X m w A K hx hk hp => ?_⟩
        cases hx
        refine does_pure hp (run_v ?_) (res m z Z false (absV_rel m z1))
        have hck := checkKey_ok (P := P) true 8 kt k hko m K hk 10000 (by omega) w
        obtain ⟨d, hd'⟩ := keyOk_und hko
        obtain ⟨R, f1, f2⟩ := find_ok (P := P) (es := []) (E := []) (r := none) hd' hk rfl ⟨rfl, fun i k v b x h => by simp at h⟩ w
        rcases f2 with ⟨_, rfl⟩ | ⟨j, _, _, _, e, _⟩
        · simp [Instr.lookup, run_und hd, hck, f1, z2]
        · cases e
      · rename_i r
        split at h
        · rename_i es cl hrow
          have base : ∀ (res' : Option (Nat × AV × AV)) (v : AV), findA P kt k es 0 = some res' → u = ⟨v, H, nx, bit r, 0⟩ → (∀ m E R, EntR m es E → FindR m E 0 res' R → ∃ V, (match R with | some (_, v) => (V, true) = (v, true) | none => (V, false) = (Z, false)) ∧ Rel m v (if ok then .tuple #[V, .bool R.isSome] else V)) →
              Keep H nx u ∧ ∀ X m w A K, Rel m (.m r) A → Rel m k K → Pre P X m H nx u w → Does P (Instr.lookup t A K ok >>= fun y => (pure (Next.value y) : Sem Next)) X nx u m w := by
            intro res' v hf hu hv
            subst hu
            refine ⟨keep_pure _ _ _ _ (live_bit hrow), fun X m w A K hx hk hp => ?_⟩
            cases hx
            rename_i L hL
            obtain ⟨E, e1, e2⟩ := ent_of (hp.row hrow (bit_self r) hL)
            obtain ⟨d, hd'⟩ := keyOk_und hko
            obtain ⟨R, f1, f2⟩ := find_ok (P := P) hd' hk hf e2 w
            obtain ⟨V, v1, v2⟩ := hv m E.toList R e2 f2
            have hck := checkKey_ok (P := P) E.isEmpty 8 kt k hko m K hk 10000 (by omega) w
            refine does_pure hp (run_v ?_) v2
            have hg := run_getObj (P := P) e1 (fun c e f h => by cases h)
            cases R with
            | none =>
              simp only [Prod.mk.injEq, and_true] at v1
              subst v1
              simp only [Instr.lookup, Sem.run_bind, run_und hd, hg, hck, f1, z2, Sem.run_pure, Result.andThen_ok, Option.isSome_none]
            | some p =>
              simp only [Prod.mk.injEq, and_true] at v1
              subst v1
              simp only [Instr.lookup, Sem.run_bind, run_und hd, hg, hck, f1, z2, Sem.run_pure, Result.andThen_ok, Option.isSome_some]
          split at h
          · rename_i q1 q2 v hf
            refine base _ _ hf (by simpa using h.symm) fun m E R hE hR => ?_
            rcases hR with ⟨e, _⟩ | ⟨j, k', v', x, e1, e2, e3, e4, e5⟩
            · cases e
            · simp only [Option.some.injEq, Prod.mk.injEq] at e1
              obtain ⟨_, _, rfl⟩ := e1
              subst e3
              exact ⟨x.val, rfl, res m v x.val true e5⟩
          · rename_i hf
            refine base _ _ hf (by simpa using h.symm) fun m E R hE hR => ?_
            rcases hR with ⟨_, rfl⟩ | ⟨j, k', v', x, e1, _⟩
            · exact ⟨Z, rfl, res m z Z false (absV_rel m z1)⟩
            · cases e1
          · cases h
        · cases h
      · cases h
    · cases h
  · cases h
end
end Go.Ev
