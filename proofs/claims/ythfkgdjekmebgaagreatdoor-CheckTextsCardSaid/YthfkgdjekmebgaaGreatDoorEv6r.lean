/- The evaluator's operations are the model's: maps that are written, iterators, conversions. Plain lemmas. -/
import Derived.Test.YthfkgdjekmebgaaGreatDoorEv6q
namespace Go.Ev
open Go
set_option linter.unusedVariables false
set_option linter.unusedSimpArgs false
set_option linter.unusedSectionVars false
variable [Env]
section
variable {P : Program}
theorem setKV_get : ∀ (es : List (AV × AV × Nat)) (i : Nat) (v : AV) (j : Nat), (setKV es i v)[j]? = if j = i then (es[j]?).map (fun x => (x.1, v, x.2.2)) else es[j]?
  | [], i, v, j => by simp [setKV]
  | (k, u, b) :: es, 0, v, j => by
    cases j with
    | zero => simp [setKV]
    | succ j => simp [setKV]
  | e :: es, i + 1, v, j => by
    cases j with
    | zero => simp [setKV]
    | succ j => simp [setKV, setKV_get es i v j]
theorem setKV_len : ∀ (es : List (AV × AV × Nat)) (i : Nat) (v : AV), (setKV es i v).length = es.length
  | [], i, v => rfl
  | (k, u, b) :: es, 0, v => rfl
  | e :: es, i + 1, v => by simp [setKV, setKV_len es i v]
theorem ent_set {m : Mp} {es : List (AV × AV × Nat)} {E : Array MapEntry} {i : Nat} {k' v : AV} {K V : Value} {b : Nat} {u : AV} (h : EntR m es E.toList) (hi : es[i]? = some (k', u, b)) (hk : Rel m k' K) (hv : Rel m v V) :
    EntR m (setKV es i v) (E.modify i fun e => { e with key := K, val := V }).toList := by
  refine ⟨by rw [setKV_len]; simpa using h.1, fun j k2 v2 b2 x h1 h2 => ?_⟩
  rw [setKV_get] at h1
  rw [Array.getElem?_toList, Array.getElem?_modify] at h2
  by_cases e : j = i
  · subst e
    rw [if_pos rfl] at h1 h2
    rw [hi] at h1
    simp only [Option.map_some, Option.some.injEq, Prod.mk.injEq] at h1
    obtain ⟨rfl, rfl, rfl⟩ := h1
    cases hE : E[j]? with
    | none => rw [hE] at h2; cases h2
    | some y =>
      rw [hE] at h2
      simp only [Option.map_some, Option.some.injEq] at h2
      subst h2
      obtain ⟨_, _, q⟩ := h.2 j _ _ _ y hi (by rw [Array.getElem?_toList]; exact hE)
      exact ⟨hk, hv, q⟩
  · rw [if_neg e] at h1
    rw [if_neg (fun q => e q.symm)] at h2
    exact h.2 j k2 v2 b2 x h1 (by rw [Array.getElem?_toList]; exact h2)
theorem ent_push {m : Mp} {es : List (AV × AV × Nat)} {E : Array MapEntry} {k v : AV} {K V : Value} {b : Nat} (h : EntR m es E.toList) (hk : Rel m k K) (hv : Rel m v V) : EntR m (es ++ [(k, v, b)]) (E.push { key := K, val := V, born := b }).toList := by
  have hl : es.length = E.size := by simpa using h.1
  refine ⟨by simp [hl], fun j k2 v2 b2 x h1 h2 => ?_⟩
  rw [Array.getElem?_toList, Array.getElem?_push] at h2
  by_cases e : j = E.size
  · rw [if_pos e] at h2
    rw [List.getElem?_append_right (by omega), show j - es.length = 0 by omega] at h1
    simp at h1 h2
    obtain ⟨rfl, rfl, rfl⟩ := h1
    subst h2
    exact ⟨hk, hv, rfl⟩
  · rw [if_neg e] at h2
    have hj := (Array.getElem?_eq_some_iff.1 h2).1
    rw [List.getElem?_append_left (by omega)] at h1
    exact h.2 j k2 v2 b2 x h1 (by rw [Array.getElem?_toList]; exact h2)
/-- The entry that a search finds. -/
theorem find_at {kt : TypeId} {k : AV} : ∀ {es : List (AV × AV × Nat)} {i j : Nat} {k' v : AV}, findA P kt k es i = some (some (j, k', v)) → i ≤ j ∧ ∃ b, es[j - i]? = some (k', v, b)
  | [], i, j, k', v, h => by simp [findA] at h
  | (k0, v0, b) :: es, i, j, k', v, h => by
    simp only [findA] at h
    split at h
    · simp at h
      obtain ⟨rfl, rfl, rfl⟩ := h
      exact ⟨Nat.le_refl _, b, by simp⟩
    · obtain ⟨h1, b', h2⟩ := find_at h
      exact ⟨by omega, b', by rw [show j - i = (j - (i + 1)) + 1 by omega, List.getElem?_cons_succ]; exact h2⟩
    · cases h
theorem stays {K' K : Value} (h : ∀ n, Instr.sameBits (n + 1) K' K' = true) (e : K' = K) (w : World) : (Instr.keyThatStays K' K).run P w = .ok K w := by
  subst e
  have := h 9999
  simp [Instr.keyThatStays, this]
theorem update_ok {H : Tr AO} {nx : Nat} {t : TypeId} {x k v : AV} {u : Ou} (h : evUpdate P H nx t x k v = some (.ok u)) : Keep H nx u ∧ ∀ X m w A K V, Rel m x A → Rel m k K → Rel m v V → Pre P X m H nx u w → Does P (Instr.mapUpdate t A K V >>= fun _ => (pure Next.skip : Sem Next)) X nx u m w := by
  unfold evUpdate at h
  split at h
  · rename_i kt et hd
    split at h
    · rename_i hko
      unfold evUpdateM at h
      split at h
      · rename_i r
        split at h
        · rename_i es cl hrow
          split at h
          · rename_i i k' q hf
            split at h
            · rename_i hsame
              cases h
              refine ⟨keep_set hrow (bit_self r) (live_bit hrow), fun X m w A K V hx hk hv hp => ?_⟩
              cases hx
              rename_i L hL
              obtain ⟨E, e1, e2⟩ := ent_of (hp.row hrow (bit_self r) hL)
              obtain ⟨d, hd'⟩ := keyOk_und hko
              obtain ⟨R, f1, f2⟩ := find_ok (P := P) hd' hk hf e2 w
              have hck := checkKey_ok (P := P) false 8 kt k hko m K hk 10000 (by omega) w
              have hg := run_getObj (P := P) e1 (fun c e f h => by cases h)
              rcases f2 with ⟨e, _⟩ | ⟨j, k2, v2, y, e3, e4, rfl, e6, e7⟩
              · cases e
              · simp only [Option.some.injEq, Prod.mk.injEq] at e3
                obtain ⟨rfl, rfl, rfl⟩ := e3
                obtain ⟨_, b, hat⟩ := find_at hf
                simp only [Nat.zero_add, Nat.sub_zero] at *
                obtain ⟨q1, q2, q3⟩ := uniqA hsame e6 hk
                have hy : E[j]? = some y := by rw [← Array.getElem?_toList]; exact e4
                have hst := stays (P := P) q3 q2 w
                have hs := run_setObj (P := P) (o' := .map (E.modify j fun e => { e with key := K, val := V }) cl) e1 (fun c e f h => by cases h)
                obtain ⟨w1, w2⟩ := wrote_obj (o' := .map (E.modify j fun e => { e with key := K, val := V }) cl) e1
                refine does_set hp (bit_self r) hrow hL w1 (of_ent w2 (ent_set e2 hat (q2 ▸ e6) hv)) (.un m) (.inr ⟨run_u ?_, rfl⟩)
                simp only [Instr.mapUpdate, Sem.run_bind, run_und hd, hg, hck, f1, Result.andThen_ok, hy, Option.map_some, Option.getD_some, hst, hs]
            · cases h
          · rename_i hf
            cases h
            refine ⟨keep_set hrow (bit_self r) (live_bit hrow), fun X m w A K V hx hk hv hp => ?_⟩
            cases hx
            rename_i L hL
            obtain ⟨E, e1, e2⟩ := ent_of (hp.row hrow (bit_self r) hL)
            obtain ⟨d, hd'⟩ := keyOk_und hko
            obtain ⟨R, f1, f2⟩ := find_ok (P := P) hd' hk hf e2 w
            have hck := checkKey_ok (P := P) false 8 kt k hko m K hk 10000 (by omega) w
            have hg := run_getObj (P := P) e1 (fun c e f h => by cases h)
            rcases f2 with ⟨_, rfl⟩ | ⟨j, k2, v2, y, e3, _⟩
            · have hs := run_setObj (P := P) (o' := .map (E.push { key := K, val := V, born := cl }) (cl + 1)) e1 (fun c e f h => by cases h)
              obtain ⟨w1, w2⟩ := wrote_obj (o' := .map (E.push { key := K, val := V, born := cl }) (cl + 1)) e1
              refine does_set hp (bit_self r) hrow hL w1 (of_ent w2 (ent_push e2 hk hv)) (.un m) (.inr ⟨run_u ?_, rfl⟩)
              simp only [Instr.mapUpdate, Sem.run_bind, run_und hd, hg, hck, f1, Result.andThen_ok, hs]
            · cases e3
          · cases h
        · cases h
      · cases h
    · cases h
  · cases h
theorem born_at {m : Mp} : ∀ {es : List (AV × AV × Nat)} {i b : Nat}, bornAt es i = some b → ∃ k v, es[i]? = some (k, v, b)
  | [], i, b, h => by simp [bornAt] at h
  | (k, v, b') :: es, 0, b, h => by simp [bornAt] at h; subst h; exact ⟨k, v, rfl⟩
  | e :: es, i + 1, b, h => by simp only [bornAt] at h; simpa using born_at (m := m) h
theorem mod_same {E : Array MapEntry} {i : Nat} {y : MapEntry} {K : Value} (h : E[i]? = some y) (e : y.key = K) : (E.modify i fun e => { e with key := K }) = E := by
  apply Array.ext'
  apply List.ext_getElem?
  intro j
  rw [Array.getElem?_toList, Array.getElem?_toList, Array.getElem?_modify]
  by_cases q : i = j
  · subst q
    rw [if_pos rfl, h]
    simp [← e]
  · rw [if_neg q]
theorem entry_ok {H : Tr AO} {nx : Nat} {t : TypeId} {x k : AV} {u : Ou} (h : evEntry P H nx t x k = some (.ok u)) : Keep H nx u ∧ ∀ X m w A K, Rel m x A → Rel m k K → Pre P X m H nx u w → Does P (Instr.mapEntry t A K >>= fun y => (pure (Next.value y) : Sem Next)) X nx u m w := by
  unfold evEntry at h
  split at h
  · rename_i kt et hd
    split at h
    · rename_i z hko hz
      obtain ⟨Z, z1, z2⟩ := run_zero hz
      unfold evEntryM at h
      split at h
      · rename_i r
        split at h
        · rename_i es cl hrow
          split at h
          · rename_i i k' v hf
            split at h
            · rename_i b hsame hb
              have hset : H.set r (some (.m es cl)) = H.set r (some (.m es cl)) := rfl
              cases h
              have hk' : Keep H nx ⟨.t [v, .i .i64 b], H, nx, bit r, bit r⟩ := ⟨Nat.le_refl _, live_bit hrow, fun q hq => ⟨hq, live_bit hrow q hq⟩, fun _ _ _ => rfl⟩
              refine ⟨hk', fun X m w A K hx hk hp => ?_⟩
              cases hx
              rename_i L hL
              obtain ⟨E, e1, e2⟩ := ent_of (hp.row hrow (bit_self r) hL)
              obtain ⟨d, hd'⟩ := keyOk_und hko
              obtain ⟨R, f1, f2⟩ := find_ok (P := P) hd' hk hf e2 w
              have hck := checkKey_ok (P := P) false 8 kt k hko m K hk 10000 (by omega) w
              have hg := run_getObj (P := P) e1 (fun c e f h => by cases h)
              rcases f2 with ⟨e, _⟩ | ⟨j, k2, v2, y, e3, e4, rfl, e6, e7⟩
              · cases e
              · simp only [Option.some.injEq, Prod.mk.injEq] at e3
                obtain ⟨rfl, rfl, rfl⟩ := e3
                simp only [Nat.zero_add, Nat.sub_zero] at *
                obtain ⟨q1, q2, q3⟩ := uniqA hsame e6 hk
                have hy : E[j]? = some y := by rw [← Array.getElem?_toList]; exact e4
                have hst := stays (P := P) q3 q2 w
                have hmod := mod_same hy q2
                have hs := run_setObj (P := P) (o' := .map E cl) e1 (fun c e f h => by cases h)
                obtain ⟨k3, v3, hat⟩ := born_at (m := m) hb
                have hborn := (e2.2 j k3 v3 b y hat e4).2.2
                have hw : (World.mk (w.heap.setIfInBounds L.block (.map E cl)) w.tape w.drawn w.os w.output) = w := by
                  have : w.heap.setIfInBounds L.block (.map E cl) = w.heap := by
                    apply Array.ext'
                    apply List.ext_getElem?
                    intro j
                    rw [Array.getElem?_toList, Array.getElem?_toList, Array.getElem?_setIfInBounds]
                    by_cases q : L.block = j
                    · subst q
                      have := (Array.getElem?_eq_some_iff.1 e1).1
                      rw [if_pos rfl, if_pos this, e1]
                    · rw [if_neg q]
                  rw [this]
                refine ⟨m, .tuple #[y.val, .int .i64 b], w, .inl (run_v ?_), .t_of (.cons e7 (.cons (.i _ _) (.nil m))), (Mv.refl nx m w).more (fun r L e => by simp at e), hp.rep.sub P (fun q hq => hq.elim id fun e => by have := e.1; have := e.2; simp at this; omega) fun _ _ => rfl⟩
                simp only [Instr.mapEntry, Sem.run_bind, run_und hd, hg, hck, f1, Result.andThen_ok, hy, Option.map_some, Option.getD_some, hst, hmod, hs, Sem.run_pure, hborn, goInt]
                exact congrArg (Result.ok _) hw
            · cases h
          · rename_i hf
            cases h
            refine ⟨keep_set hrow (bit_self r) (live_bit hrow), fun X m w A K hx hk hp => ?_⟩
            cases hx
            rename_i L hL
            obtain ⟨E, e1, e2⟩ := ent_of (hp.row hrow (bit_self r) hL)
            obtain ⟨d, hd'⟩ := keyOk_und hko
            obtain ⟨R, f1, f2⟩ := find_ok (P := P) hd' hk hf e2 w
            have hck := checkKey_ok (P := P) false 8 kt k hko m K hk 10000 (by omega) w
            have hg := run_getObj (P := P) e1 (fun c e f h => by cases h)
            rcases f2 with ⟨_, rfl⟩ | ⟨j, k2, v2, y, e3, _⟩
            · have hs := run_setObj (P := P) (o' := .map (E.push { key := K, val := Z, born := cl }) (cl + 1)) e1 (fun c e f h => by cases h)
              obtain ⟨w1, w2⟩ := wrote_obj (o' := .map (E.push { key := K, val := Z, born := cl }) (cl + 1)) e1
              refine does_set hp (bit_self r) hrow hL w1 (of_ent w2 (ent_push e2 hk (absV_rel m z1))) (.t_of (A := #[Z, .int .i64 cl]) (.cons (absV_rel m z1) (.cons (.i _ _) (.nil m)))) (.inl (run_v ?_))
              simp only [Instr.mapEntry, Sem.run_bind, run_und hd, hg, hck, f1, Result.andThen_ok, z2, hs, Sem.run_pure, goInt]
            · cases e3
          · cases h
        · cases h
      · cases h
    · cases h
  · cases h
theorem setBorn_ok {m : Mp} {v : AV} {V : Value} (hv : Rel m v V) : ∀ {es l : List (AV × AV × Nat)} {b : Nat} {E : List MapEntry}, setBorn es b v = some l → EntR m es E → ∃ i E', E.findIdx? (fun e => (e.born : Int) == (b : Int)) = some i ∧ (E.modify i fun e => { e with val := V }) = E' ∧ EntR m l E'
  | [], l, b, E, h, hE => by simp [setBorn] at h
  | (k, u, b') :: es, l, b, E, h, hE => by
    obtain ⟨x, E0, rfl, h1, h2, h3, h4⟩ := hE.cons_inv
    simp only [setBorn] at h
    split at h
    · rename_i hb
      have := beq_t hb; subst this
      cases h
      refine ⟨0, { x with val := V } :: E0, by simp [List.findIdx?_cons, h3], by simp, by simpa using h4.1, fun i k2 v2 b2 y a1 a2 => ?_⟩
      cases i with
      | zero => simp at a1 a2; obtain ⟨rfl, rfl, rfl⟩ := a1; subst a2; exact ⟨h1, hv, h3⟩
      | succ i => exact h4.2 i k2 v2 b2 y (by simpa using a1) (by simpa using a2)
    · rename_i hb
      have hne := beq_f hb
      split at h
      · rename_i l' hl
        cases h
        obtain ⟨i, E', g1, g2, g3⟩ := setBorn_ok hv hl h4
        refine ⟨i + 1, x :: E', ?_, by simp [g2], by simpa using g3.1, fun j k2 v2 b2 y a1 a2 => ?_⟩
        · have : ((x.born : Int) == (b : Int)) = false := by rw [h3]; simp; omega
          simp [List.findIdx?_cons, this, g1]
        · cases j with
          | zero => simp at a1 a2; obtain ⟨rfl, rfl, rfl⟩ := a1; subst a2; exact ⟨h1, h2, h3⟩
          | succ j => exact g3.2 j k2 v2 b2 y (by simpa using a1) (by simpa using a2)
      · cases h
theorem entryS_ok {H : Tr AO} {nx : Nat} {t : TypeId} {x b v : AV} {u : Ou} (h : evEntryS H nx x b v = some (.ok u)) : Keep H nx u ∧ ∀ X m w A B V, Rel m x A → Rel m b B → Rel m v V → Pre P X m H nx u w → Does P (Instr.entryStore t A B V >>= fun _ => (pure Next.skip : Sem Next)) X nx u m w := by
  unfold evEntryS at h
  split at h
  · rename_i r
    split at h
    · rename_i q n
      split at h
      · rename_i n
        split at h
        · rename_i es cl hrow
          split at h
          · rename_i l hl
            cases h
            refine ⟨keep_set hrow (bit_self r) (live_bit hrow), fun X m w A B V hx hb hv hp => ?_⟩
            cases hx; cases hb
            rename_i L hL
            obtain ⟨E, e1, e2⟩ := ent_of (hp.row hrow (bit_self r) hL)
            obtain ⟨i, E', g1, g2, g3⟩ := setBorn_ok hv hl e2
            have hg := run_getObj (P := P) e1 (fun c e f h => by cases h)
            have hs := run_setObj (P := P) (o' := .map (E.modify i fun e => { e with val := V }) cl) e1 (fun c e f h => by cases h)
            obtain ⟨w1, w2⟩ := wrote_obj (o' := .map (E.modify i fun e => { e with val := V }) cl) e1
            have hE' : (E.modify i fun e => { e with val := V }).toList = E' := by rw [← g2]; simp
            have hfi : E.findIdx? (fun e => (e.born : Int) == (n : Int)) = some i := by
              cases E; simpa using g1
            refine does_set hp (bit_self r) hrow hL w1 (of_ent w2 (by rw [hE']; exact g3)) (.un m) (.inr ⟨run_u ?_, rfl⟩)
            simp only [Instr.entryStore, Sem.run_bind, hg, Result.andThen_ok, asInt, asIntOf, Sem.run_pure, Int.ofNat_eq_natCast, hfi, hs]
          · cases h
        · cases h
      · cases h
    · cases h
  · cases h
end
end Go.Ev
