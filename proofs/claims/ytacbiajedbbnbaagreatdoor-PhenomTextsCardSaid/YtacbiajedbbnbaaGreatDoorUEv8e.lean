/- Calls by the evaluator. Plain lemmas. -/
import Derived.Test.YtacbiajedbbnbaaGreatDoorUEv8d
namespace Go.Ev
open Go
set_option linter.unusedVariables false
set_option linter.unusedSimpArgs false
set_option linter.unusedSectionVars false
variable [Env]
section
variable {P : Program}
/-- A call of a function, as an operation makes it. -/
def Cw (P : Program) (f : FuncId) (A : Array Value) (w : World) (R : Value → World → Prop) : Prop :=
  (∃ V w', (callFunc f A).run P w = .ok (.value V) w' ∧ R V w') ∨ ((callFunc f A).run P w = .ok (.enter f A) w ∧ Calls P f A w fun e w' => ∃ V, e = .returned V ∧ R V w')
/-- What is asked of the calls' evaluator. -/
def CallAt (P : Program) (call : Cl) (f : FuncId) : Prop := ∀ args H nx u, call f args H nx = some u → Bnd H nx → Keep H nx u ∧
  ∀ (X : Nat → Prop) m w (A : Array Value), RelL m args A.toList → Pre P X m H nx u w →
    Cw P f A w fun V w' => ∃ m', Rel m' u.v V ∧ Mv u.W nx u.nx m w m' w' ∧ RepOn P (fun r => X r ∨ (nx ≤ r ∧ r < u.nx)) m' u.H.get w'
def OpsOk (P : Program) (eo : Eo) : Prop := (∀ T H nx o u, eo T H nx o.op = some (.ok u) → Goal P T H nx o u) ∧
  ∀ T H nx (o : Oper) f args, eo T H nx o.op = some (.call f args) → ∀ m ρ w, OpR m T ρ o.op → ∃ A : Array Value, (execOp ρ o).run P w = (callFunc f A).run P w ∧ RelL m args A.toList
theorem step_ok {eo : Eo} (h : OpsOk P eo) {call : Cl} (hc : ∀ f, CallAt P call f) : StepOk P eo call := by
  intro s o u hu hb
  unfold evStep opRs at hu
  split at hu
  · rename_i r hr
    cases r with
    | ok u' =>
      cases hu
      obtain ⟨g1, g2⟩ := h.1 s.T s.H s.nx o u hr
      refine ⟨g1, fun X m a w K Q hop hp hK => ?_⟩
      obtain ⟨m', V, w', hrun, hv, hmv, hrep⟩ := g2 X m a.eval w hop hp
      unfold Oper.wp
      rcases hrun with e | ⟨e, rfl⟩
      · rw [e, Oper.upon_value]; exact hK m' V w' hv hmv hrep
      · rw [e, Oper.upon_skip]; exact hK m' undef w' hv hmv hrep
    | call f args =>
      obtain ⟨g1, g2⟩ := hc f args s.H s.nx u hu hb
      refine ⟨g1, fun X m a w K Q hop hp hK => ?_⟩
      obtain ⟨A, e, hA⟩ := h.2 s.T s.H s.nx o f args hr m a.eval w hop
      unfold Oper.wp
      rw [e]
      rcases g2 X m w A hA hp with ⟨V, w', e2, m', hv, hmv, hrep⟩ | ⟨e2, hcall⟩
      · rw [e2, Oper.upon_value]; exact hK m' V w' hv hmv hrep
      · rw [e2, Oper.upon_enter]
        refine hcall.mono fun e' w' => ?_
        rintro ⟨V, rfl, m', hv, hmv, hrep⟩
        exact hK m' V w' hv hmv hrep
  · cases hu
theorem args0_get : ∀ (l : List AV) (i : Nat) (T : Tr AV) (t : Nat), (args0 l i T).get t = if i ≤ t ∧ t < i + l.length then l[t - i]? else T.get t
  | [], i, T, t => by simp [args0]; intro h1 h2; omega
  | v :: l, i, T, t => by
    simp only [args0]
    rw [args0_get l (i + 1) _ t, Tr.get_set]
    simp only [List.length_cons]
    by_cases e : t = i
    · subst e
      rw [if_neg (by omega), if_pos rfl, if_pos ⟨by omega, by omega⟩]; simp
    · by_cases h : i + 1 ≤ t ∧ t < i + 1 + l.length
      · rw [if_pos h, if_pos ⟨by omega, by omega⟩, show t - i = (t - (i + 1)) + 1 by omega, List.getElem?_cons_succ]
      · rw [if_neg h, if_neg e, if_neg (by omega)]
theorem loadVar_ok {H : Tr AO} {nx : Nat} {t : TypeId} {v : AV} {u : Ou} (h : evLoad P H nx t v = some (.ok u)) : u.H = H ∧ u.W = 0 ∧ (∀ q, u.R.testBit q = true → H.get q ≠ none) ∧
    ∀ (X : Nat → Prop) m w A, Rel m v A → RepOn P X m H.get w → (∀ r, u.R.testBit r = true → X r) → ∃ L, A = .pointer (some L) ∧ ∃ V, (loadVar t L).run P w = .ok V w ∧ Rel m u.v V := by
  unfold evLoad at h
  split at h
  · rename_i r off
    split at h
    · rename_i l e tl hrow
      split at h
      · rename_i v hv
        cases h
        refine ⟨rfl, rfl, live_bit hrow, fun X m w A hA hrep hR => ?_⟩
        cases hA
        rename_i L hL
        refine ⟨_, rfl, ?_⟩
        obtain ⟨L', e1, e2⟩ := hrep.rep r _ (hR r (bit_self r)) hrow
        rw [hL] at e1; cases e1
        obtain ⟨C, fr, g1, g2, g3, g4⟩ := e2
        unfold partA at hv
        split at hv
        · rename_i hi
          split at hv
          · rename_i n hn
            split at hv
            · rename_i xs hx
              cases hv
              obtain ⟨c1, c2⟩ := row_cut g3 hx
              exact ⟨.agg _, by simp only [loadVar, Sem.run_bind, Sem.run_pure, run_isA hi, run_size hn, Result.andThen_ok, if_true, run_loadRow g1 c1], .a_of c2⟩
            · cases hv
          · cases hv
        · rename_i hi
          obtain ⟨V, c1, c2⟩ := g3 _ _ hv
          have hc : w.cell? ⟨L.block, L.base + off, none⟩ = some V := by rw [cell_at g1]; exact c1
          exact ⟨V, by simp [loadVar, run_isA hi, hc], c2⟩
        · cases hv
      · cases h
    · cases h
  · cases h
/-- One result of a body. -/
def resOf (a : Act) : ResultVar → Sem Value
  | .tmp t => pure (a.tmps.getD t undef)
  | .cell c t => do loadVar t (← asAddr (a.tmps.getD c undef))
/-- The results. -/
theorem res_ok {T : Tr AV} {H : Tr AO} {N : Nat} : ∀ {l : List ResultVar} {R : Nat} {vs : List AV} {R' : Nat}, evRes P T H R l = some (vs, R') → (∀ r, R.testBit r = true → R'.testBit r = true) ∧ (∀ r, R'.testBit r = true → R.testBit r = true ∨ H.get r ≠ none) ∧
    ∀ (X : Nat → Prop) m a w, TRel m T.get N a → RepOn P X m H.get w → (∀ r, R'.testBit r = true → X r) → ∃ VS, (l.mapM (resOf a)).run P w = Result.ok VS w ∧ RelL m vs VS
  | [], R, vs, R', h => by
    simp only [evRes] at h; cases h
    exact ⟨fun _ e => e, fun _ e => .inl e, fun X m a w _ _ _ => ⟨[], rfl, .nil m⟩⟩
  | .tmp t :: l, R, vs, R', h => by
    simp only [evRes] at h
    split at h
    · rename_i v vs' R2 hv hr
      cases h
      obtain ⟨i1, i2, i3⟩ := res_ok hr
      refine ⟨i1, i2, fun X m a w hT hrep hR => ?_⟩
      obtain ⟨VS, g1, g2⟩ := i3 X m a w hT hrep hR
      obtain ⟨V, v1, v2⟩ := hT.2 t v hv
      have : a.tmps.getD t undef = V := by rw [Array.getD_eq_getD_getElem?, v1]; rfl
      refine ⟨V :: VS, ?_, .cons v2 g2⟩
      simp only [List.mapM_cons, resOf, Sem.run_bind, Sem.run_pure, Result.andThen_ok, this, g1]
    · cases h
  | .cell c t :: l, R, vs, R', h => by
    simp only [evRes] at h
    split at h
    · rename_i v vs' R2 hv hr
      split at h
      · rename_i u hu
        cases h
        obtain ⟨i1, i2, i3⟩ := res_ok hr
        obtain ⟨_, _, q1, q2⟩ := loadVar_ok hu
        refine ⟨fun r e => or_l (i1 r e), fun r e => ?_, fun X m a w hT hrep hR => ?_⟩
        · rw [Nat.testBit_or, Bool.or_eq_true] at e
          exact e.elim (i2 r) fun e => .inr (q1 r e)
        · obtain ⟨VS, g1, g2⟩ := i3 X m a w hT hrep fun r e => hR r (or_l e)
          obtain ⟨V, v1, v2⟩ := hT.2 c v hv
          have hc : a.tmps.getD c undef = V := by rw [Array.getD_eq_getD_getElem?, v1]; rfl
          obtain ⟨L, rfl, W, w1, w2⟩ := q2 X m w V v2 hrep fun r e => hR r (or_r e)
          refine ⟨W :: VS, ?_, .cons w2 g2⟩
          simp only [List.mapM_cons, resOf, Sem.run_bind, Sem.run_pure, Result.andThen_ok, hc, asAddr, w1, g1]
      · cases h
    · cases h
theorem oneV_rel {m : Mp} {vs : List AV} {VS : Array Value} (h : RelL m vs VS.toList) : Rel m (oneV vs) (if h : VS.size = 1 then VS[0] else .tuple VS) := by
  unfold oneV
  split
  · rename_i v
    obtain ⟨V, A', e, h1, h2⟩ := h.cons_inv
    have := h2.nil_inv
    subst this
    have e' : VS = #[V] := by cases VS; simpa using e
    subst e'
    simpa using h1
  · rename_i hn
    have hs : VS.size ≠ 1 := fun hs => by
      have hl : vs.length = VS.size := h.1.trans Array.length_toList
      rw [hs] at hl
      obtain ⟨v, hv⟩ := List.length_eq_one_iff.1 hl
      exact hn v hv
    rw [dif_neg hs]
    exact .t_of h
theorem callFunc_enter {f : FuncId} {fn : Func} {c : Code} (hf : P.funcs[f]? = some fn) (hb : fn.body = some c) (hn : callOk fn = true) (A : Array Value) (w : World) : (callFunc f A).run P w = .ok (.enter f A) w := by
  have h1 : fn.name ≠ "runtime.NumGoroutine" := by unfold callOk at hn; simpa using hn
  simp [callFunc, hf, hb, h1]
/-- The evaluator of calls is right. -/
theorem evF_ok {eo : Eo} (hops : OpsOk P eo) (hm : P.follows .mixedOrders = true) (hform : ∀ (f : FuncId) (fn : Func) (c : Code), P.funcs[f]? = some fn → fn.body = some c → codeOk c = true) {orc : FuncId → Option Cl} (horc : ∀ f g, orc f = some g → CallAt P g f) : ∀ n f, CallAt P (evF P eo orc n) f
  | 0, f => fun args H nx u h => by cases h
  | n + 1, f => by
    intro args H nx u h hb
    have h : fOrc P eo (evF P eo orc n) f args H nx (orc f) = some u := h
    cases ho : orc f with
    | some g =>
      rw [ho] at h
      exact horc f g ho args H nx u h hb
    | none =>
      rw [ho] at h
      have h : fCall P eo (evF P eo orc n) args H nx P.funcs[f]? = some u := h
      cases hf : P.funcs[f]? with
      | none => rw [hf] at h; cases h
      | some fn =>
        rw [hf] at h
        simp only [fCall] at h
        split at h
        · rename_i hok
          cases hbd : fn.body with
          | none => rw [hbd] at h; cases h
          | some c =>
            rw [hbd] at h
            simp only [fBody] at h
            split at h
            · rename_i hle
              have hle := ble_t hle
              generalize hE : evC eo (evF P eo orc n) fn.ntmps 1000000 c ⟨args0 args 0 .e, H, nx, 0, 0⟩ = r at h
              cases r with
              | none => cases h
              | some p =>
                obtain ⟨e, s⟩ := p
                have hst := step_ok hops (fun f => evF_ok hops hm hform horc n f)
                have hs0 : Sane ⟨args0 args 0 .e, H, nx, 0, 0⟩ := ⟨hb, fun r e => by simp at e, fun r e => by simp at e⟩
                have hc := evC_ok hst hm 1000000 c _ e s hE (hform f fn c hf hbd) hs0
                have fin : fFin P nx fn s = some u → (∀ a w R, bodyPost P fn R e.to a w ↔ bodyPost P fn R .normal a w) → Keep H nx u ∧ ∀ (X : Nat → Prop) m w (A : Array Value), RelL m args A.toList → Pre P X m H nx u w →
                    Cw P f A w fun V w' => ∃ m', Rel m' u.v V ∧ Mv u.W nx u.nx m w m' w' ∧ RepOn P (fun r => X r ∨ (nx ≤ r ∧ r < u.nx)) m' u.H.get w' := by
                  intro h hpost
                  unfold fFin at h
                  split at h
                  · rename_i vs R hres
                    split at h
                    · cases h
                      obtain ⟨q1, q2, q3⟩ := res_ok (N := fn.ntmps) hres
                      have hk := hc.1
                      have hle := hk.le
                      simp only [] at hle
                      have mod_tb : ∀ (a r : Nat), (a % 2 ^ nx).testBit r = true → r < nx ∧ a.testBit r = true := fun a r e => by
                        rw [Nat.testBit_mod_two_pow, Bool.and_eq_true, decide_eq_true_eq] at e; exact e
                      have liveR : ∀ r, r < nx → s.R.testBit r = true → H.get r ≠ none := fun r hr e => by
                        rcases hk.rd r e with g | g | g
                        · simp at g
                        · exact g
                        · have g : nx ≤ r := g; omega
                      have liveW : ∀ r, r < nx → s.W.testBit r = true → H.get r ≠ none := fun r hr e => liveR r hr (hk.sane.wr r e)
                      have liveH : ∀ r, r < nx → s.H.get r ≠ none → H.get r ≠ none := fun r hr e => by
                        cases hw : s.W.testBit r with
                        | true => exact liveW r hr hw
                        | false => rw [hk.kp r hw hr] at e; exact e
                      refine ⟨⟨hle, fun r e => ?_, fun r e => ?_, fun r e hn => ?_⟩, fun X m w A hA hp => ?_⟩
                      · obtain ⟨g1, g2⟩ := mod_tb _ _ e
                        rcases q2 r g2 with g | g
                        · exact liveR r g1 g
                        · exact liveH r g1 g
                      · obtain ⟨g1, g2⟩ := mod_tb _ _ e
                        refine ⟨?_, liveW r g1 g2⟩
                        show (R % 2 ^ nx).testBit r = true
                        rw [Nat.testBit_mod_two_pow, Bool.and_eq_true, decide_eq_true_eq]
                        exact ⟨g1, q1 r (hk.sane.wr r g2)⟩
                      · have e : (s.W % 2 ^ nx).testBit r = false := e
                        show s.H.get r = H.get r
                        by_cases hr : r < nx
                        · rw [Nat.testBit_mod_two_pow] at e
                          have e' : s.W.testBit r = false := by simpa [hr] using e
                          exact hk.kp r e' hr
                        · have hge : s.nx ≤ r := by
                            have hn : ¬ (nx ≤ r ∧ r < s.nx) := hn
                            omega
                          have e1 : s.H.get r = none := by
                            cases e : s.H.get r with
                            | none => rfl
                            | some o => have := hk.sane.bnd r (by rw [e]; simp); omega
                          have e2 : H.get r = none := by
                            cases e : H.get r with
                            | none => rfl
                            | some o => have := hb r (by rw [e]; simp); omega
                          rw [e1, e2]
                      · refine .inr ⟨callFunc_enter hf hbd hok A w, calls_of_wp hf hbd ?_⟩
                        have hAl : A.size = args.length := by have := hA.1; simp at this; omega
                        have hT0 : TRel m (args0 args 0 .e).get fn.ntmps { tmps := A ++ Array.replicate (fn.ntmps - A.size) undef, defers := [] } := by
                          refine ⟨by simp; omega, fun t v e => ?_⟩
                          rw [args0_get] at e
                          split at e
                          · rename_i ht
                            simp only [Nat.sub_zero] at e
                            obtain ⟨V, g1, g2⟩ := hA.get e
                            refine ⟨V, ?_, g2⟩
                            have hlt : t < A.size := by omega
                            rw [Array.getElem?_append_left hlt, ← Array.getElem?_toList]; exact g1
                          · cases e
                        have hX : ∀ r, nx ≤ r → r < s.nx → m r = none ∧ ¬ X r := hp.fresh
                        have hRX : ∀ r, R.testBit r = true → r < nx → X r := fun r e hr => hp.R r (by
                          show (R % 2 ^ nx).testBit r = true
                          rw [Nat.testBit_mod_two_pow, Bool.and_eq_true, decide_eq_true_eq]; exact ⟨hr, e⟩)
                        refine hc.2 X m _ w _ hT0 hp.rep (fun r e => ?_) hX fun m' a' w' ha => ?_
                        · by_cases hr : r < nx
                          · exact .inl (hRX r (q1 r e) hr)
                          · exact .inr ⟨(by show nx ≤ r; omega), hk.sane.rb r e⟩
                        · obtain ⟨t1, d1, r1, v1⟩ := ha
                          rw [hpost]
                          have hR' : ∀ r, R.testBit r = true → X r ∨ (nx ≤ r ∧ r < s.nx) := fun r e => by
                            by_cases hr : r < nx
                            · exact .inl (hRX r e hr)
                            · refine .inr ⟨by omega, ?_⟩
                              rcases q2 r e with g | g
                              · exact hk.sane.rb r g
                              · exact hk.sane.bnd r g
                          obtain ⟨VS, g1, g2⟩ := q3 _ m' a' w' t1 r1 hR'
                          refine ⟨d1, (if h : VS.toArray.size = 1 then VS.toArray[0] else .tuple VS.toArray), ?_, _, rfl, m', oneV_rel (VS := VS.toArray) (by simpa using g2), ?_, r1⟩
                          · have e : results fn a'.tmps = (fn.results.mapM (resOf a') >>= fun vs => pure (if h : vs.size = 1 then vs[0] else .tuple vs)) := by
                              unfold results
                              rfl
                            have h2 : (fn.results.mapM (resOf a')).run P w' = .ok VS.toArray w' := by
                              rw [Array.mapM_eq_mapM_toList, Sem.run_map, g1]; rfl
                            rw [e, Sem.run_bind, h2]; rfl
                          · refine v1.more fun r L e hm' => ?_
                            show (s.W % 2 ^ nx).testBit r = true
                            rw [Nat.testBit_mod_two_pow, Bool.and_eq_true, decide_eq_true_eq]
                            refine ⟨?_, e⟩
                            have hlt := hk.sane.rb r (hk.sane.wr r e)
                            by_cases hr : r < nx
                            · exact hr
                            · have := (hX r (by omega) hlt).1; rw [hm'] at this; cases this
                    · cases h
                  · cases h
                cases e with
                | nrm => exact fin h fun a w R => Iff.rfl
                | ret => exact fin h fun a w R => Iff.rfl
                | ext id => cases h
            · cases h
        · cases h
end
end Go.Ev
