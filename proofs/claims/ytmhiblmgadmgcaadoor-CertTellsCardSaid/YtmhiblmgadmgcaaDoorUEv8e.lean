/- Calls by the evaluator. Plain lemmas. -/
import Derived.Test.YtmhiblmgadmgcaaDoorUEv8d
namespace Go.Ev
open Go
set_option linter.unusedVariables false
set_option linter.unusedSimpArgs false
set_option linter.unusedSectionVars false
variable [Env]
section
variable {P : Program}
/-- What is asked of the rounds' evaluator. -/
def RndAt (P : Program) (call : Nat → List AV → Tr AO → Nat → Option Ou) : Prop := ∀ l args H nx u, call l args H nx = some u → Bnd H nx → Keep H nx u ∧
  ∀ (X : Nat → Prop) m w (A : Array Value) (L : Loc), RelL m args A.toList → Pre P X m H nx u w → m l = some L →
    ∃ f tmps a b, (Instr.yield L.block A).run P w = .ok (.round L.block f tmps a b) w ∧ RoundIn Fence.wide 0 P L.block f tmps a b w fun e w' => ∃ V, e = .returned V ∧ ∃ m', Rel m' u.v V ∧ Mv u.W nx u.nx m w m' w' ∧ RepOn P (fun r => X r ∨ (nx ≤ r ∧ r < u.nx)) m' u.H.get w'
def OpsOk (P : Program) (eo : Eo) : Prop := (∀ T H nx o u, eo T H nx o.op = some (.ok u) → Goal P T H nx o u) ∧
  (∀ T H nx (o : Oper) f args, eo T H nx o.op = some (.call f args) → ∀ m ρ w, OpR m T ρ o.op → ∃ A : Array Value, (execOp ρ o).run P w = (callFunc f A).run P w ∧ RelL m args A.toList) ∧
  ∀ T H nx (o : Oper) l args, eo T H nx o.op = some (.rnd l args) → ∀ m ρ w, OpR m T ρ o.op → ∃ (A : Array Value) (L : Loc), (execOp ρ o).run P w = (Instr.yield L.block A).run P w ∧ m l = some L ∧ RelL m args A.toList
theorem no_defer {ρ : Operand → Value} {o : Oper} {x : Next} {w w' : World} (h : (execOp ρ o).run P w = .ok x w') (hx : ∀ d, x ≠ .defer d) : ∀ c, o.op ≠ .defer c := by
  intro c hc
  unfold execOp at h
  rw [hc] at h
  simp only [Sem.run_bind] at h
  cases hr : (resolve ρ c o.type).run P w with
  | ok d w1 => rw [hr] at h; exact hx d (by cases h; rfl)
  | halt y w1 => rw [hr] at h; cases h
theorem wpIn_of {F : Fence} (hF : Wd F) {o : Oper} {a : Act} {w w' : World} {x : Next} {K : Act → World → Prop} {Q : Exit → Act → World → Prop} (h : (execOp a.eval o).run P w = .ok x w') (hx : ∀ d, x ≠ .defer d) (hu : o.uponIn F 0 P a K Q (.ok x w')) : o.wpIn F 0 P a w K Q := by
  refine ⟨fun f _ => hF.ok f, ?_⟩
  rw [Oper.semAt_eq _ _ _ (no_defer h hx), h]
  exact hu
theorem step_ok {F : Fence} (hF : Wd F) {eo : Eo} (h : OpsOk P eo) {call : Cs} (hc : ∀ f, CallAt P call.f f) (hr : RndAt P call.r) : StepOk F P eo call := by
  intro s o u hu hb
  unfold evStep opRs at hu
  split at hu
  · rename_i r hrr
    cases r with
    | ok u' =>
      cases hu
      obtain ⟨g1, g2⟩ := h.1 s.T s.H s.nx o u hrr
      refine ⟨g1, fun X m a w K Q hop hp hK => ?_⟩
      obtain ⟨m', V, w', hrun, hv, hmv, hrep⟩ := g2 X m a.eval w hop hp
      rcases hrun with e | ⟨e, rfl⟩
      · refine wpIn_of hF e (fun d e => by cases e) ?_
        rw [Oper.uponIn_value]; exact hK m' V w' hv hmv hrep
      · refine wpIn_of hF e (fun d e => by cases e) ?_
        rw [Oper.uponIn_skip]; exact hK m' undef w' hv hmv hrep
    | call f args =>
      obtain ⟨g1, g2⟩ := hc f args s.H s.nx u hu hb
      refine ⟨g1, fun X m a w K Q hop hp hK => ?_⟩
      obtain ⟨A, e, hA⟩ := h.2.1 s.T s.H s.nx o f args hrr m a.eval w hop
      rcases g2 X m w A hA hp with ⟨V, w', e2, m', hv, hmv, hrep⟩ | ⟨e2, hcall⟩
      · refine wpIn_of hF (e.trans e2) (fun d e => by cases e) ?_
        rw [Oper.uponIn_value]; exact hK m' V w' hv hmv hrep
      · refine wpIn_of hF (e.trans e2) (fun d e => by cases e) ?_
        rw [Oper.uponIn_enter]
        refine ⟨hF.n, hF.calls (hcall.mono fun e' w' => ?_)⟩
        rintro ⟨V, rfl, m', hv, hmv, hrep⟩
        exact hK m' V w' hv hmv hrep
    | rnd l args =>
      obtain ⟨g1, g2⟩ := hr l args s.H s.nx u hu hb
      refine ⟨g1, fun X m a w K Q hop hp hK => ?_⟩
      obtain ⟨A, L, e, hL, hA⟩ := h.2.2 s.T s.H s.nx o l args hrr m a.eval w hop
      obtain ⟨f, tm, ca, cb, e2, hround⟩ := g2 X m w A L hA hp hL
      refine wpIn_of hF (e.trans e2) (fun d e => by cases e) ?_
      rw [Oper.uponIn_round]
      refine ⟨hF.n, hF.round (hround.mono fun e' w' => ?_)⟩
      rintro ⟨V, rfl, m', hv, hmv, hrep⟩
      exact hK m' V w' hv hmv hrep
  · cases hu
/-- Yield's arguments, in the loop's temporaries. -/
theorem putPs_rel {m : Mp} {N : Nat} : ∀ {ps : List Tmp} {args : List AV} {A : List Value} {T T' : Tr AV} {tm : Array Value}, putPs N ps args T = some T' → RelL m args A → tm.size = N → (∀ t v, T.get t = some v → ∃ V, tm[t]? = some V ∧ Rel m v V) →
    ps.length = args.length ∧ ((ps.zip A).foldl (fun tmps (t, a) => tmps.setIfInBounds t a) tm).size = N ∧ ∀ t v, T'.get t = some v → ∃ V, ((ps.zip A).foldl (fun tmps (t, a) => tmps.setIfInBounds t a) tm)[t]? = some V ∧ Rel m v V
  | [], [], A, T, T', tm, h, hA, hs, hT => by
    have := hA.nil_inv; subst this
    simp only [putPs] at h; cases h
    exact ⟨rfl, hs, hT⟩
  | [], _ :: _, A, T, T', tm, h, _, _, _ => by simp [putPs] at h
  | _ :: _, [], A, T, T', tm, h, _, _, _ => by simp [putPs] at h
  | p :: ps, x :: xs, A, T, T', tm, h, hA, hs, hT => by
    obtain ⟨V, A', rfl, h1, h2⟩ := hA.cons_inv
    simp only [putPs] at h
    split at h
    · rename_i hlt
      have hlt := blt_t hlt
      obtain ⟨g1, g2, g3⟩ := putPs_rel (tm := tm.setIfInBounds p V) h h2 (by simpa using hs) fun t v e => by
        rw [Tr.get_set] at e
        by_cases ht : t = p
        · subst ht
          rw [if_pos rfl] at e; cases e
          exact ⟨V, by rw [Array.getElem?_setIfInBounds_self_of_lt (by omega)], h1⟩
        · rw [if_neg ht] at e
          obtain ⟨V', q1, q2⟩ := hT t v e
          exact ⟨V', by rw [Array.getElem?_setIfInBounds_ne (fun e => ht e.symm)]; exact q1, q2⟩
      exact ⟨by simp [g1], g2, g3⟩
    · cases h
/-- A round. -/
theorem rnd_ok {eo : Eo} {call : Cs} (hst : ∀ F, Wd F → StepOk F P eo call) (hcf : ∀ f, CallAt P call.f f) (hcc : ∀ f, call.c f = true → hasB P.funcs[f]? = true) (hm : P.follows .mixedOrders = true) : RndAt P (fun l args H nx => rRun eo call l args H nx (H.get l)) := by
  intro l args H nx u h hb
  have h : rRun eo call l args H nx (H.get l) = some u := h
  cases hrow : H.get l with
  | none => rw [hrow] at h; cases h
  | some o =>
    rw [hrow] at h
    cases o with
    | c l e t => cases h
    | m es cl => cases h
    | si l p => cases h
    | mi r s n t => cases h
    | lp T N ps as bd st0 jp0 =>
      simp only [rRun] at h
      split at h
      · rename_i T' hP
        generalize hE1 : evC eo call N true 1000000 as ⟨T', H, nx, 0, 0⟩ = r1 at h
        cases r1 with
        | none => cases h
        | some p1 =>
          obtain ⟨e1, s1⟩ := p1
          simp only [rBody] at h
          cases e1 with
          | ext id => cases h
          | ret => cases h
          | nrm =>
            simp only [] at h
            split at h
            · rename_i T2 N2 ps2 a2 b2 st2 jp2 hrow1
              split at h
              · rename_i hst2
                have hst2 := beq_t hst2
                subst hst2
                generalize hE2 : evC eo call N true 1000000 bd ⟨s1.T, s1.H.set l (some (.lp T2 N2 ps2 a2 b2 1 jp2)), s1.nx, s1.R ||| bit l, s1.W ||| bit l⟩ = r2 at h
                cases r2 with
                | none => cases h
                | some p2 =>
                  obtain ⟨e2, s2⟩ := p2
                  simp only [rEnd] at h
                  split at h
                  · rename_i T3 N3 ps3 a3 b3 st3 jp3 hrow2
                    split at h
                    · rename_i hst3 hWlt
                      cases h
                      have hl : l < nx := hb l (by rw [hrow]; simp)
                      have hs0 : Sane ⟨T', H, nx, 0, 0⟩ := ⟨hb, fun r e => by simp at e, fun r e => by simp at e⟩
                      have hst0 := hst _ Wd.fn
                      have k1 := evC_keep hcf hst0 _ _ _ _ _ hE1 hs0
                      have l1 : nx ≤ s1.nx := k1.le
                      have isl : ∀ r, (bit l).testBit r = true → r = l := fun r e => by rw [bit_tb] at e; exact of_decide_eq_true e
                      have or2 : ∀ {x y r : Nat}, (x ||| y).testBit r = true → x.testBit r = true ∨ y.testBit r = true := fun {x y r} e => by rw [Nat.testBit_or, Bool.or_eq_true] at e; exact e
                      have hs1 : Sane ⟨s1.T, s1.H.set l (some (.lp T2 N2 ps2 a2 b2 1 jp2)), s1.nx, s1.R ||| bit l, s1.W ||| bit l⟩ := by
                        refine ⟨fun r hr => ?_, fun r e => ?_, fun r e => ?_⟩
                        · show r < s1.nx
                          have hr : (s1.H.set l _).get r ≠ none := hr
                          rw [Tr.get_set] at hr
                          by_cases e : r = l
                          · omega
                          · rw [if_neg e] at hr; exact k1.sane.bnd r hr
                        · show r < s1.nx
                          rcases or2 e with e | e
                          · exact k1.sane.rb r e
                          · have := isl r e; omega
                        · rcases or2 e with e | e
                          · exact or_l (k1.sane.wr r e)
                          · exact or_r e
                      have k2 := evC_keep hcf hst0 _ _ _ _ _ hE2 hs1
                      have l2 : s1.nx ≤ s2.nx := k2.le
                      have live1 : ∀ r, r < nx → (s1.R.testBit r = true ∨ s1.H.get r ≠ none) → H.get r ≠ none := fun r hr e => by
                        rcases e with e | e
                        · rcases k1.rd r e with g | g | g
                          · simp at g
                          · exact g
                          · have g : nx ≤ r := g; omega
                        · rcases k1.wl2 (.inr (.inl e)) with g | g | g
                          · simp at g
                          · exact g
                          · have g : nx ≤ r := g; omega
                      have live2 : ∀ r, r < nx → ((s1.R ||| bit l).testBit r = true ∨ (s1.H.set l (some (.lp T2 N2 ps2 a2 b2 1 jp2))).get r ≠ none) → H.get r ≠ none := fun r hr e => by
                        by_cases q : r = l
                        · subst q; rw [hrow]; simp
                        · rcases e with e | e
                          · rcases or2 e with e | e
                            · exact live1 r hr (.inl e)
                            · exact absurd (isl r e) q
                          · rw [Tr.get_set, if_neg q] at e; exact live1 r hr (.inr e)
                      have live3 : ∀ r, r < nx → s2.R.testBit r = true → H.get r ≠ none := fun r hr e => by
                        rcases k2.rd r e with g | g | g
                        · exact live2 r hr (.inl g)
                        · exact live2 r hr (.inr g)
                        · have g : s1.nx ≤ r := g; omega
                      have mod_tb : ∀ (a r : Nat), (a % 2 ^ nx).testBit r = true → r < nx ∧ a.testBit r = true := fun a r e => by
                        rw [Nat.testBit_mod_two_pow, Bool.and_eq_true, decide_eq_true_eq] at e; exact e
                      have mod_to : ∀ (a r : Nat), r < nx → a.testBit r = true → (a % 2 ^ nx).testBit r = true := fun a r h e => by
                        rw [Nat.testBit_mod_two_pow, Bool.and_eq_true, decide_eq_true_eq]; exact ⟨h, e⟩
                      refine ⟨⟨by show nx ≤ s2.nx; omega, fun r e => ?_, fun r e => ?_, fun r e hn => ?_⟩, fun X m w A L hA hp hL => ?_⟩
                      · obtain ⟨g1, g2⟩ := mod_tb _ _ e
                        rcases or2 g2 with g | g
                        · exact live3 r g1 g
                        · have := isl r g; subst this; rw [hrow]; simp
                      · obtain ⟨g1, g2⟩ := mod_tb _ _ e
                        rcases or2 g2 with g | g
                        · exact ⟨mod_to _ _ g1 (or_l (k2.sane.wr r g)), live3 r g1 (k2.sane.wr r g)⟩
                        · have := isl r g; subst this
                          exact ⟨mod_to _ _ g1 (or_r g), by rw [hrow]; simp⟩
                      · have e : ((s2.W ||| bit l) % 2 ^ nx).testBit r = false := e
                        show (s2.H.set l _).get r = H.get r
                        have hn : ¬ (nx ≤ r ∧ r < s2.nx) := hn
                        by_cases hr : r < nx
                        · have e' : (s2.W ||| bit l).testBit r = false := by rw [Nat.testBit_mod_two_pow] at e; simpa [hr] using e
                          rw [Nat.testBit_or, Bool.or_eq_false_iff] at e'
                          have hne : r ≠ l := fun q => by subst q; rw [bit_self] at e'; cases e'.2
                          have hW1 : s1.W.testBit r = false := by
                            cases q : s1.W.testBit r with
                            | false => rfl
                            | true => have := k2.W r (or_l q); rw [e'.1] at this; cases this
                          rw [Tr.get_set, if_neg hne, k2.kp r e'.1 (by show r < s1.nx; omega)]
                          show (s1.H.set l _).get r = H.get r
                          rw [Tr.get_set, if_neg hne, k1.kp r hW1 hr]
                        · have e1 : s2.H.get r = none := by
                            cases e : s2.H.get r with
                            | none => rfl
                            | some o => have := k2.sane.bnd r (by rw [e]; simp); omega
                          have e2 : H.get r = none := by
                            cases e : H.get r with
                            | none => rfl
                            | some o => have := hb r (by rw [e]; simp); omega
                          rw [Tr.get_set, if_neg (by omega), e1, e2]
                      · have hXl : X l := hp.R l (mod_to _ _ hl (or_r (bit_self l)))
                        obtain ⟨L', g1, g2⟩ := hp.rep.rep l _ hXl hrow
                        rw [hL] at g1; cases g1
                        obtain ⟨ca, cb, r, h1, h2, h3, h4, h5, h6, h7, h8⟩ := g2
                        obtain ⟨q1, q2, q3⟩ := putPs_rel hP hA h7 h8
                        have hsz : A.size = r.params.size := by
                          have e1 : args.length = A.size := hA.1.trans Array.length_toList
                          have e2 : r.params.size = ps.length := by rw [← h2, Array.length_toList]
                          exact e1.symm.trans (q1.symm.trans e2.symm)
                        have hzip : (r.params.zip A).foldl (fun tmps (t, a) => tmps.setIfInBounds t a) r.tmps = (ps.zip A.toList).foldl (fun tmps (t, a) => tmps.setIfInBounds t a) r.tmps := by
                          rw [← Array.foldl_toList, Array.toList_zip, h2]
                        refine ⟨r.fn, _, r.assign, r.body, run_yield h1 hsz, roundIn_of_wpIn trivial ?_⟩
                        rw [hzip, h3]
                        have C1 := evC_ok (P := P) (Wd.rd L.block) (rd := true) (fun e => by cases e) hcf hcc (hst _ (Wd.rd _)) hm 1000000 as _ _ s1 hE1 ca hs0
                        have upR : ∀ r, r < nx → s2.R.testBit r = true → X r := fun r hr e => hp.R r (mod_to _ _ hr (or_l e))
                        have hR1 : ∀ r, s1.R.testBit r = true → X r ∨ (nx ≤ r ∧ r < s1.nx) := fun r e => by
                          by_cases hr : r < nx
                          · exact .inl (upR r hr (k2.R r (or_l e)))
                          · exact .inr ⟨by omega, k1.sane.rb r e⟩
                        refine C1.2 X m { tmps := (ps.zip A.toList).foldl (fun tmps (t, a) => tmps.setIfInBounds t a) r.tmps, defers := [] } w _ ⟨q2, q3⟩ hp.rep hR1 (fun r ha hz => hp.fresh r ha (by have hz : r < s1.nx := hz; show r < s2.nx; omega)) fun m1 a1 w1 ha1 => ?_
                        obtain ⟨t1, d1, r1, v1⟩ := ha1
                        have hm1 : m1 l = some L := v1.ext _ _ hL
                        obtain ⟨L', g1, g2⟩ := r1.rep l _ (.inl hXl) hrow1
                        rw [hm1] at g1; cases g1
                        obtain ⟨ca1, cb1, ra, i1, i2, i3, i4, i5, i6, i7, i8⟩ := g2
                        obtain ⟨mvb, repb⟩ := rep_set (P := P) (nx := s1.nx) (o' := .lp T2 N2 ps2 a2 b2 1 jp2) r1 (.inl hXl) hrow1 hm1 (wrote_put (o := .loop { ra with state := .busy }))
                          ⟨ca1, cb1, _, World.putObj_heap_same (Array.getElem?_eq_some_iff.1 i1).1, i2, i3, i4, rfl, i6, i7, i8⟩
                        refine ⟨_, run_beginRound i1 i5, ?_⟩
                        rw [h4]
                        have C2 := evC_ok (P := P) (Wd.rd L.block) (rd := true) (fun e => by cases e) hcf hcc (hst _ (Wd.rd _)) hm 1000000 bd _ e2 s2 hE2 cb hs1
                        refine C2.2 (fun r => X r ∨ (nx ≤ r ∧ r < s1.nx)) m1 a1 _ _ t1 repb (fun r e => ?_) (fun r ha hz => ?_) fun m2 a2' w3 ha2 => ?_
                        · by_cases hr : r < nx
                          · exact .inl (.inl (upR r hr e))
                          · by_cases hr2 : r < s1.nx
                            · exact .inl (.inr ⟨by omega, hr2⟩)
                            · exact .inr ⟨by show s1.nx ≤ r; omega, k2.sane.rb r e⟩
                        · have ha : s1.nx ≤ r := ha
                          have hx := hp.fresh r (by omega) hz
                          refine ⟨?_, fun e => e.elim hx.2 fun e => by omega⟩
                          cases e : m1 r with
                          | none => rfl
                          | some L2 =>
                            rcases v1.new r L2 e with g | ⟨_, g, _⟩
                            · rw [hx.1] at g; cases g
                            · have g : r < s1.nx := g; omega
                        · obtain ⟨t2, d2, r2, v2⟩ := ha2
                          have hm2 : m2 l = some L := v2.ext _ _ hm1
                          obtain ⟨L', g1, g2⟩ := r2.rep l _ (.inl (.inl hXl)) hrow2
                          rw [hm2] at g1; cases g1
                          obtain ⟨ca2, cb2, rb, j1, j2, j3, j4, j5, j6, j7, j8⟩ := g2
                          have key : ∀ jump : Option Code, jump = (jpOf e2).map jpC → ∃ v w', (Instr.endRound L.block jump).run P w3 = .ok v w' ∧ ∃ V, Ending.returned v = .returned V ∧ ∃ m', Rel m' (.b (match jpOf e2 with | none => true | some _ => false)) V ∧
                              Mv ((s2.W ||| bit l) % 2 ^ nx) nx s2.nx m w m' w' ∧ RepOn P (fun r => X r ∨ (nx ≤ r ∧ r < s2.nx)) m' (s2.H.set l (some (.lp T3 N3 ps3 a3 b3 (match jpOf e2 with | none => 0 | some _ => 2) (jpOf e2)))).get w' := by
                            intro jump hj
                            obtain ⟨mve, repe⟩ := rep_set (P := P) (nx := s2.nx) (o' := .lp T3 N3 ps3 a3 b3 (match jpOf e2 with | none => 0 | some _ => 2) (jpOf e2)) r2 (.inl (.inl hXl)) hrow2 hm2
                              (wrote_put (o := .loop { rb with state := if jump.isNone then .ready else .done, pending := jump }))
                              ⟨ca2, cb2, _, World.putObj_heap_same (Array.getElem?_eq_some_iff.1 j1).1, j2, j3, j4, by rw [hj]; cases jpOf e2 <;> rfl, hj, j7, j8⟩
                            refine ⟨_, _, run_endRound jump j1, _, rfl, m2, ?_, ?_, repe.sub P (fun q hq => ?_) fun _ _ => rfl⟩
                            · have : jump.isNone = (match jpOf e2 with | none => true | some _ => false) := by rw [hj]; cases jpOf e2 <;> rfl
                              rw [this]; exact .b _
                            · have c1 : Mv (s2.W ||| bit l) nx s2.nx m w m1 (w1.putObj L.block (.loop { ra with state := .busy })) := Mv.comp (v1.range (Nat.le_refl _) l2) (mvb.range l1 l2) (fun r e => or_l (k2.W r (or_l e))) fun r e => or_r e
                              have c2 : Mv (s2.W ||| bit l) nx s2.nx m1 (w1.putObj L.block (.loop { ra with state := .busy })) m2 _ := Mv.comp (v2.range l1 (Nat.le_refl _)) (mve.range (by omega) (Nat.le_refl _)) (fun r e => or_l e) fun r e => or_r e
                              refine (Mv.comp c1 c2 (fun r e => e) fun r e => e).more fun r L3 e hm' => mod_to _ _ ?_ e
                              by_cases hr : r < nx
                              · exact hr
                              · rcases or2 e with e | e
                                · have := k2.sane.rb r (k2.sane.wr r e)
                                  have := (hp.fresh r (by omega) this).1; rw [hm'] at this; cases this
                                · have := isl r e; omega
                            · rcases hq with hq | hq
                              · exact .inl (.inl hq)
                              · by_cases e : q < s1.nx
                                · exact .inl (.inr ⟨hq.1, e⟩)
                                · exact .inr ⟨by show s1.nx ≤ q; omega, hq.2⟩
                          cases e2 with
                          | nrm => exact key none rfl
                          | ret => exact key (some .ret) rfl
                          | ext id => exact key (some (.exit id)) rfl
                    · cases h
                  · cases h
              · cases h
            · cases h
      · cases h
theorem args0_get : ∀ (l : List AV) (i : Nat) (T : Tr AV) (t : Nat), (args0 l i T).get t = if i ≤ t ∧ t < i + l.length then l[t - i]? else T.get t
  | [], i, T, t => by simp [args0]; intro h1 h2; omega
  | v :: l, i, T, t => by
    simp only [args0]
    rw [args0_get l (i + 1) _ t, Tr.get_set]
    simp only [List.length_cons]
    by_cases e : t = i
    · subst e
      rw [if_neg (by omega), if_pos rfl, if_pos ⟨by omega, by omega⟩]; simp
    · by_cases h : i + 1 ≤ t ∧ t < i + 1 + l.length
      · rw [if_pos h, if_pos ⟨by omega, by omega⟩, show t - i = (t - (i + 1)) + 1 by omega, List.getElem?_cons_succ]
      · rw [if_neg h, if_neg e, if_neg (by omega)]
theorem loadVar_ok {H : Tr AO} {nx : Nat} {t : TypeId} {v : AV} {u : Ou} (h : evLoad P H nx t v = some (.ok u)) : u.H = H ∧ u.W = 0 ∧ (∀ q, u.R.testBit q = true → H.get q ≠ none) ∧
    ∀ (X : Nat → Prop) m w A, Rel m v A → RepOn P X m H.get w → (∀ r, u.R.testBit r = true → X r) → ∃ L, A = .pointer (some L) ∧ ∃ V, (loadVar t L).run P w = .ok V w ∧ Rel m u.v V := by
  unfold evLoad at h
  split at h
  · rename_i r off
    split at h
    · rename_i l e tl hrow
      split at h
      · rename_i v hv
        cases h
        refine ⟨rfl, rfl, live_bit hrow, fun X m w A hA hrep hR => ?_⟩
        cases hA
        rename_i L hL
        refine ⟨_, rfl, ?_⟩
        obtain ⟨L', e1, e2⟩ := hrep.rep r _ (hR r (bit_self r)) hrow
        rw [hL] at e1; cases e1
        obtain ⟨C, fr, g1, g2, g3, g4⟩ := e2
        unfold partA at hv
        split at hv
        · rename_i hi
          split at hv
          · rename_i n hn
            split at hv
            · rename_i xs hx
              cases hv
              obtain ⟨c1, c2⟩ := row_cut g3 hx
              exact ⟨.agg _, by simp only [loadVar, Sem.run_bind, Sem.run_pure, run_isA hi, run_size hn, Result.andThen_ok, if_true, run_loadRow g1 c1], .a_of c2⟩
            · cases hv
          · cases hv
        · rename_i hi
          obtain ⟨V, c1, c2⟩ := g3 _ _ hv
          have hc : w.cell? ⟨L.block, L.base + off, none⟩ = some V := by rw [cell_at g1]; exact c1
          exact ⟨V, by simp [loadVar, run_isA hi, hc], c2⟩
        · cases hv
      · cases h
    · cases h
  · cases h
/-- One result of a body. -/
def resOf (a : Act) : ResultVar → Sem Value
  | .tmp t => pure (a.tmps.getD t undef)
  | .cell c t => do loadVar t (← asAddr (a.tmps.getD c undef))
/-- The results. -/
theorem res_ok {T : Tr AV} {H : Tr AO} {N : Nat} : ∀ {l : List ResultVar} {R : Nat} {vs : List AV} {R' : Nat}, evRes P T H R l = some (vs, R') → (∀ r, R.testBit r = true → R'.testBit r = true) ∧ (∀ r, R'.testBit r = true → R.testBit r = true ∨ H.get r ≠ none) ∧
    ∀ (X : Nat → Prop) m a w, TRel m T.get N a → RepOn P X m H.get w → (∀ r, R'.testBit r = true → X r) → ∃ VS, (l.mapM (resOf a)).run P w = Result.ok VS w ∧ RelL m vs VS
  | [], R, vs, R', h => by
    simp only [evRes] at h; cases h
    exact ⟨fun _ e => e, fun _ e => .inl e, fun X m a w _ _ _ => ⟨[], rfl, .nil m⟩⟩
  | .tmp t :: l, R, vs, R', h => by
    simp only [evRes] at h
    split at h
    · rename_i v vs' R2 hv hr
      cases h
      obtain ⟨i1, i2, i3⟩ := res_ok hr
      refine ⟨i1, i2, fun X m a w hT hrep hR => ?_⟩
      obtain ⟨VS, g1, g2⟩ := i3 X m a w hT hrep hR
      obtain ⟨V, v1, v2⟩ := hT.2 t v hv
      have : a.tmps.getD t undef = V := by rw [Array.getD_eq_getD_getElem?, v1]; rfl
      refine ⟨V :: VS, ?_, .cons v2 g2⟩
      simp only [List.mapM_cons, resOf, Sem.run_bind, Sem.run_pure, Result.andThen_ok, this, g1]
    · cases h
  | .cell c t :: l, R, vs, R', h => by
    simp only [evRes] at h
    split at h
    · rename_i v vs' R2 hv hr
      split at h
      · rename_i u hu
        cases h
        obtain ⟨i1, i2, i3⟩ := res_ok hr
        obtain ⟨_, _, q1, q2⟩ := loadVar_ok hu
        refine ⟨fun r e => or_l (i1 r e), fun r e => ?_, fun X m a w hT hrep hR => ?_⟩
        · rw [Nat.testBit_or, Bool.or_eq_true] at e
          exact e.elim (i2 r) fun e => .inr (q1 r e)
        · obtain ⟨VS, g1, g2⟩ := i3 X m a w hT hrep fun r e => hR r (or_l e)
          obtain ⟨V, v1, v2⟩ := hT.2 c v hv
          have hc : a.tmps.getD c undef = V := by rw [Array.getD_eq_getD_getElem?, v1]; rfl
          obtain ⟨L, rfl, W, w1, w2⟩ := q2 X m w V v2 hrep fun r e => hR r (or_r e)
          refine ⟨W :: VS, ?_, .cons w2 g2⟩
          simp only [List.mapM_cons, resOf, Sem.run_bind, Sem.run_pure, Result.andThen_ok, hc, asAddr, w1, g1]
      · cases h
    · cases h
theorem oneV_rel {m : Mp} {vs : List AV} {VS : Array Value} (h : RelL m vs VS.toList) : Rel m (oneV vs) (if h : VS.size = 1 then VS[0] else .tuple VS) := by
  unfold oneV
  split
  · rename_i v
    obtain ⟨V, A', e, h1, h2⟩ := h.cons_inv
    have := h2.nil_inv
    subst this
    have e' : VS = #[V] := by cases VS; simpa using e
    subst e'
    simpa using h1
  · rename_i hn
    have hs : VS.size ≠ 1 := fun hs => by
      have hl : vs.length = VS.size := h.1.trans Array.length_toList
      rw [hs] at hl
      obtain ⟨v, hv⟩ := List.length_eq_one_iff.1 hl
      exact hn v hv
    rw [dif_neg hs]
    exact .t_of h
/-- A function's end: its marks. -/
theorem leaves_marks {fn : Func} {tmps : Array Value} {R : Ending → World → Prop} : ∀ (Ds : List Nat) (w : World), Ds.Nodup → (∀ D ∈ Ds, w.heap[D]? = some (Obj.deferred (some []))) →
    (∀ w', w'.heap.size = w.heap.size → (∀ k, k ∉ Ds → w'.heap[k]? = w.heap[k]?) → w'.os = w.os → w'.tape = w.tape → w'.output = w.output → ∃ v, (results fn tmps).run P w' = .ok v w' ∧ R (.returned v) w') →
    LeavesInM Fence.wide 0 P fn tmps R (Ds.map (fun D => { target := .collected D, args := #[] })) .returning w
  | [], w, _, _, h => h w rfl (fun _ _ => rfl) rfl rfl rfl
  | D :: Ds, w, hn, hd, h => by
    obtain ⟨n1, n2⟩ := List.nodup_cons.1 hn
    refine ⟨by simp, .inl ⟨D, w.putObj D (.deferred none), rfl, run_takeDeferred (hd D (by simp)), leaves_marks Ds _ n2 (fun E hE => ?_) fun w' h1 h2 h3 h4 h5 => ?_⟩⟩
    · rw [World.putObj_heap_other (fun e => by subst e; exact n1 hE)]; exact hd E (by simp [hE])
    · refine h w' (h1.trans World.putObj_size) (fun k hk => ?_) h3 h4 h5
      rw [h2 k (fun e => hk (by simp [e])), World.putObj_heap_other (fun e => hk (by simp [e]))]
theorem exiN {e : Exi} {fn : Func} {R : Ending → World → Prop} {a : Act} {w : World} (he : e = .nrm ∨ e = .ret) (h : LeavesInM Fence.wide 0 P fn a.tmps R a.defers .returning w) : bodyPostM Fence.wide 0 P fn R e.to a w := by
  rcases he with rfl | rfl <;> exact h
/-- The evaluator of calls is right. -/
theorem fn_ok {eo : Eo} {call : Cs} (hst : StepOk Fence.wide P eo call) (hcf : ∀ f, CallAt P call.f f) (hcc : ∀ f, call.c f = true → hasB P.funcs[f]? = true) (hm : P.follows .mixedOrders = true) (hform : ∀ (f : FuncId) (fn : Func) (c : Code), P.funcs[f]? = some fn → fn.body = some c → codeOk c = true) {orc : FuncId → Option Cl} (horc : ∀ f g, orc f = some g → CallAt P g f) (f : FuncId) : CallAt P (fun f args H nx => fOrc P eo call f args H nx (orc f)) f := by
    intro args H nx u h hb
    have h : fOrc P eo call f args H nx (orc f) = some u := h
    cases ho : orc f with
    | some g =>
      rw [ho] at h
      exact horc f g ho args H nx u h hb
    | none =>
      rw [ho] at h
      have h : fCall P eo call args H nx P.funcs[f]? = some u := h
      cases hf : P.funcs[f]? with
      | none => rw [hf] at h; cases h
      | some fn =>
        rw [hf] at h
        simp only [fCall] at h
        split at h
        · rename_i hok
          cases hbd : fn.body with
          | none => rw [hbd] at h; cases h
          | some c =>
            rw [hbd] at h
            simp only [fBody] at h
            split at h
            · rename_i hle
              have hle := ble_t hle
              generalize hE : evC eo call fn.ntmps false 1000000 c ⟨args0 args 0 .e, H, nx, 0, 0⟩ = r at h
              cases r with
              | none => cases h
              | some p =>
                obtain ⟨e, s⟩ := p
                have hs0 : Sane ⟨args0 args 0 .e, H, nx, 0, 0⟩ := ⟨hb, fun r e => by simp at e, fun r e => by simp at e⟩
                have hc := evC_ok Wd.fn (rd := false) (fun _ => rfl) hcf hcc hst hm 1000000 c _ e s hE (hform f fn c hf hbd) hs0
                have fin : fFin P nx fn s = some u → (e = .nrm ∨ e = .ret) → Keep H nx u ∧ ∀ (X : Nat → Prop) m w (A : Array Value), RelL m args A.toList → Pre P X m H nx u w →
                    Cw P f A w fun V w' => ∃ m', Rel m' u.v V ∧ Mv u.W nx u.nx m w m' w' ∧ RepOn P (fun r => X r ∨ (nx ≤ r ∧ r < u.nx)) m' u.H.get w' := by
                  intro h hpost
                  unfold fFin at h
                  split at h
                  · rename_i vs R hres
                    split at h
                    · cases h
                      obtain ⟨q1, q2, q3⟩ := res_ok (N := fn.ntmps) hres
                      have hk := hc.1
                      have hle := hk.le
                      simp only [] at hle
                      have mod_tb : ∀ (a r : Nat), (a % 2 ^ nx).testBit r = true → r < nx ∧ a.testBit r = true := fun a r e => by
                        rw [Nat.testBit_mod_two_pow, Bool.and_eq_true, decide_eq_true_eq] at e; exact e
                      have liveR : ∀ r, r < nx → s.R.testBit r = true → H.get r ≠ none := fun r hr e => by
                        rcases hk.rd r e with g | g | g
                        · simp at g
                        · exact g
                        · have g : nx ≤ r := g; omega
                      have liveW : ∀ r, r < nx → s.W.testBit r = true → H.get r ≠ none := fun r hr e => liveR r hr (hk.sane.wr r e)
                      have liveH : ∀ r, r < nx → s.H.get r ≠ none → H.get r ≠ none := fun r hr e => by
                        cases hw : s.W.testBit r with
                        | true => exact liveW r hr hw
                        | false => rw [hk.kp r hw hr] at e; exact e
                      refine ⟨⟨hle, fun r e => ?_, fun r e => ?_, fun r e hn => ?_⟩, fun X m w A hA hp => ?_⟩
                      · obtain ⟨g1, g2⟩ := mod_tb _ _ e
                        rcases q2 r g2 with g | g
                        · exact liveR r g1 g
                        · exact liveH r g1 g
                      · obtain ⟨g1, g2⟩ := mod_tb _ _ e
                        refine ⟨?_, liveW r g1 g2⟩
                        show (R % 2 ^ nx).testBit r = true
                        rw [Nat.testBit_mod_two_pow, Bool.and_eq_true, decide_eq_true_eq]
                        exact ⟨g1, q1 r (hk.sane.wr r g2)⟩
                      · have e : (s.W % 2 ^ nx).testBit r = false := e
                        show s.H.get r = H.get r
                        by_cases hr : r < nx
                        · rw [Nat.testBit_mod_two_pow] at e
                          have e' : s.W.testBit r = false := by simpa [hr] using e
                          exact hk.kp r e' hr
                        · have hge : s.nx ≤ r := by
                            have hn : ¬ (nx ≤ r ∧ r < s.nx) := hn
                            omega
                          have e1 : s.H.get r = none := by
                            cases e : s.H.get r with
                            | none => rfl
                            | some o => have := hk.sane.bnd r (by rw [e]; simp); omega
                          have e2 : H.get r = none := by
                            cases e : H.get r with
                            | none => rfl
                            | some o => have := hb r (by rw [e]; simp); omega
                          rw [e1, e2]
                      · refine .inr ⟨callFunc_enter hf hbd hok A w, callsIn_wide.1 (callsIn_of_wp_marks (n := 0) hf hbd trivial ?_)⟩
                        have hAl : A.size = args.length := by have := hA.1; simp at this; omega
                        have hT0 : TRel m (args0 args 0 .e).get fn.ntmps { tmps := A ++ Array.replicate (fn.ntmps - A.size) undef, defers := [] } := by
                          refine ⟨by simp; omega, fun t v e => ?_⟩
                          rw [args0_get] at e
                          split at e
                          · rename_i ht
                            simp only [Nat.sub_zero] at e
                            obtain ⟨V, g1, g2⟩ := hA.get e
                            refine ⟨V, ?_, g2⟩
                            have hlt : t < A.size := by omega
                            rw [Array.getElem?_append_left hlt, ← Array.getElem?_toList]; exact g1
                          · cases e
                        have hX : ∀ r, nx ≤ r → r < s.nx → m r = none ∧ ¬ X r := hp.fresh
                        have hRX : ∀ r, R.testBit r = true → r < nx → X r := fun r e hr => hp.R r (by
                          show (R % 2 ^ nx).testBit r = true
                          rw [Nat.testBit_mod_two_pow, Bool.and_eq_true, decide_eq_true_eq]; exact ⟨hr, e⟩)
                        refine hc.2 X m _ w _ hT0 hp.rep (fun r e => ?_) hX fun m' a' w' ha => ?_
                        · by_cases hr : r < nx
                          · exact .inl (hRX r (q1 r e) hr)
                          · exact .inr ⟨(by show nx ≤ r; omega), hk.sane.rb r e⟩
                        · obtain ⟨t1, d1, r1, v1⟩ := ha
                          refine exiN hpost ?_
                          have hR' : ∀ r, R.testBit r = true → X r ∨ (nx ≤ r ∧ r < s.nx) := fun r e => by
                            by_cases hr : r < nx
                            · exact .inl (hRX r e hr)
                            · refine .inr ⟨by omega, ?_⟩
                              rcases q2 r e with g | g
                              · exact hk.sane.rb r g
                              · exact hk.sane.bnd r g
                          obtain ⟨h0, Ds, p1, p2, p3⟩ := d1 w.heap.size ⟨Nat.le_refl _, [], rfl, List.nodup_nil, fun D hD => by cases hD⟩
                          rw [p1]
                          refine leaves_marks Ds w' p2 (fun D hD => (p3 D hD).2) fun w2 e1 e2 e3 e4 e5 => ?_
                          have v2 : Mv s.W nx s.nx m w m' w2 := ⟨v1.ext, v1.new, by rw [e1]; exact v1.size, fun b hb hw => (e2 b fun hD => by have := (p3 b hD).1; omega).trans (v1.fr b hb hw), e3.trans v1.os, e4.trans v1.tape, e5.trans v1.output⟩
                          have r2 : RepOn P (fun r => X r ∨ (nx ≤ r ∧ r < s.nx)) m' s.H.get w2 :=
                            ⟨fun r o hx e => let ⟨L, a1, a2⟩ := r1.rep r o hx e; ⟨L, a1, a2.keep P (fun _ _ e => e) (e2 _ fun hD => a2.noDef (p3 _ hD).2)⟩, r1.inj, Env.st hp.rep.env v2⟩
                          obtain ⟨VS, g1, g2⟩ := q3 _ m' a' w2 t1 r2 hR'
                          refine ⟨(if h : VS.toArray.size = 1 then VS.toArray[0] else .tuple VS.toArray), ?_, _, rfl, m', oneV_rel (VS := VS.toArray) (by simpa using g2), ?_, r2⟩
                          · have e : results fn a'.tmps = (fn.results.mapM (resOf a') >>= fun vs => pure (if h : vs.size = 1 then vs[0] else .tuple vs)) := by
                              unfold results
                              rfl
                            have h2 : (fn.results.mapM (resOf a')).run P w2 = .ok VS.toArray w2 := by
                              rw [Array.mapM_eq_mapM_toList, Sem.run_map, g1]; rfl
                            rw [e, Sem.run_bind, h2]; rfl
                          · refine v2.more fun r L e hm' => ?_
                            show (s.W % 2 ^ nx).testBit r = true
                            rw [Nat.testBit_mod_two_pow, Bool.and_eq_true, decide_eq_true_eq]
                            refine ⟨?_, e⟩
                            have hlt := hk.sane.rb r (hk.sane.wr r e)
                            by_cases hr : r < nx
                            · exact hr
                            · have := (hX r (by omega) hlt).1; rw [hm'] at this; cases this
                    · cases h
                  · cases h
                cases e with
                | nrm => exact fin h (.inl rfl)
                | ret => exact fin h (.inr rfl)
                | ext id => cases h
            · cases h
        · cases h
theorem evG_ok {eo : Eo} (hops : OpsOk P eo) (hm : P.follows .mixedOrders = true) (hform : ∀ (f : FuncId) (fn : Func) (c : Code), P.funcs[f]? = some fn → fn.body = some c → codeOk c = true) {orc : FuncId → Option Cl} (horc : ∀ f g, orc f = some g → CallAt P g f) : ∀ n, (∀ f, CallAt P (evG P eo orc n).f f) ∧ RndAt P (evG P eo orc n).r ∧ ∀ f, (evG P eo orc n).c f = true → hasB P.funcs[f]? = true
  | 0 => ⟨fun f args H nx u h => (by cases h), fun l args H nx u h => (by cases h), fun f h => (by cases h)⟩
  | n + 1 =>
    have ih := evG_ok hops hm hform horc n
    have hst : ∀ F, Wd F → StepOk F P eo (evG P eo orc n) := fun F hF => step_ok hF hops ih.1 ih.2.1
    ⟨fun f => fn_ok (hst _ Wd.fn) ih.1 ih.2.2 hm hform horc f, rnd_ok hst ih.1 ih.2.2 hm, fun f h => h⟩
theorem evF_ok {eo : Eo} (hops : OpsOk P eo) (hm : P.follows .mixedOrders = true) (hform : ∀ (f : FuncId) (fn : Func) (c : Code), P.funcs[f]? = some fn → fn.body = some c → codeOk c = true) {orc : FuncId → Option Cl} (horc : ∀ f g, orc f = some g → CallAt P g f) (n : Nat) (f : FuncId) : CallAt P (evF P eo orc n) f := (evG_ok hops hm hform horc n).1 f
end
end Go.Ev
