/- Functions known by a contract that make, or ask, a row of texts: strings.Split, Cuts, strings.Join. Ahead of it: Functions by the evaluator with unknown values; functions that are known by a contract answer with a term. -/
import Derived.Test.YtmhiblmgadmgcaaDoorU16
import Derived.Test.YtmhiblmgadmgcaaDoorU6
namespace Go.Proofs.YtmhiblmgadmgcaaDoor
open Go.Ev Go.RowKit Go
set_option linter.unusedVariables false
set_option linter.unusedSectionVars false
set_option linter.unusedSimpArgs false
noncomputable def orcL (l : List (FuncId × Cl)) (f : FuncId) : Option Cl := List.rec (motive := fun _ => Option Cl) (orc f) (fun p _ ih => Bool.rec ih (some p.2) (Nat.beq f p.1)) l
section
variable [Env] {ρ : Nat → Value} {φ : Nat → List Value → Value} [Sym ρ φ] {Φ : List Fact}
theorem orcL_at : ∀ {l : List (FuncId × Cl)}, (∀ p ∈ l, CallAt Tryd.prog p.2 p.1) → ∀ f g, orcL l f = some g → CallAt Tryd.prog g f
  | [], _, f, g, h => orc_at f g h
  | p :: l, hl, f, g, h => by
    have h : (Bool.rec (orcL l f) (some p.2) (Nat.beq f p.1) : Option Cl) = some g := h
    cases e : Nat.beq f p.1 with
    | true => rw [e] at h; have := beq_t e; subst this; cases h; exact hl p (by simp)
    | false => rw [e] at h; exact orcL_at (fun q hq => hl q (by simp [hq])) f g h
theorem evS_at (hΦ : FactsOk ρ φ Φ) {orc' : FuncId → Option Cl} (ho : ∀ f g, orc' f = some g → CallAt Tryd.prog g f) (n : Nat) (f : FuncId) : CallAt Tryd.prog (evF Tryd.prog (sOp Tryd.prog Φ) orc' n) f :=
  evF_ok (sym_ok hΦ) (by kernel_rfl) seat_form ho n f
/-- What the evaluator answers is so, in a memory of which it knows rows. -/
theorem calls_symR (hΦ : FactsOk ρ φ Φ) {orc' : FuncId → Option Cl} (ho : ∀ f g, orc' f = some g → CallAt Tryd.prog g f) {n : Nat} {f : FuncId} {args : List AV} {A : Array Value} {u : Ou} {H : Tr AO} {nx : Nat} {m : Mp} (hu : evF Tryd.prog (sOp Tryd.prog Φ) orc' n f args H nx = some u) (hA : RelL m args A.toList)
    {fn : Func} (hf : Tryd.prog.funcs[f]? = some fn) (hbd : fn.body.isSome = true) (hok : callOk fn = true) (w : World) (hb : Bnd H nx) (hrep : RepOn Tryd.prog (fun r => r < nx) m H.get w) (hm : ∀ r, nx ≤ r → m r = none) :
    Calls Tryd.prog f A w fun e w' => ∃ V m', e = .returned V ∧ Rel m' u.v V ∧ Mv u.W nx u.nx m w m' w' ∧ RepOn Tryd.prog (fun r => r < nx ∨ (nx ≤ r ∧ r < u.nx)) m' u.H.get w' := by
  obtain ⟨g1, g2⟩ := evS_at hΦ ho n f args H nx u hu hb
  rcases g2 (fun r => r < nx) m w A hA ⟨hrep, fun r e => hb r (g1.rd r e), fun r h1 _ => ⟨hm r h1, by omega⟩⟩ with ⟨V, w', e, _⟩ | ⟨_, hc⟩
  · rw [enter_of hf hbd hok] at e; cases e
  · refine hc.mono fun e w' => ?_
    rintro ⟨V, rfl, m', hv, hmv, hr⟩
    exact ⟨V, m', rfl, hv, hmv, hr⟩
/-- .. that knows no rows: the memory stands. -/
theorem calls_sym (hΦ : FactsOk ρ φ Φ) {orc' : FuncId → Option Cl} (ho : ∀ f g, orc' f = some g → CallAt Tryd.prog g f) {n : Nat} {f : FuncId} {args : List AV} {A : Array Value} {u : Ou} (hu : evF Tryd.prog (sOp Tryd.prog Φ) orc' n f args .e 8 = some u) (hA : RelL (fun _ => none) args A.toList)
    {fn : Func} (hf : Tryd.prog.funcs[f]? = some fn) (hbd : fn.body.isSome = true) (hok : callOk fn = true) (w : World) (hI : Env.I (fun _ => none) w) :
    Calls Tryd.prog f A w fun e w' => ∃ V m', e = .returned V ∧ Rel m' u.v V ∧ Below w.heap.size w w' ∧ RepOn Tryd.prog (fun r => 8 ≤ r ∧ r < u.nx) m' u.H.get w' ∧ ∀ r L, m' r = some L → w.heap.size ≤ L.block := by
  have hb : Bnd (.e : Tr AO) 8 := fun r e => by simp [Tr.get_e] at e
  have g1 := (evS_at hΦ ho n f args .e 8 u hu hb).1
  have hW : ∀ r, u.W.testBit r = true → False := fun r e => (g1.wr r e).2 rfl
  refine (calls_symR hΦ ho hu hA hf hbd hok w hb ⟨fun r o _ h => by simp [Tr.get_e] at h, fun _ _ _ _ _ _ h => by simp [Tr.get_e] at h, hI⟩ (fun _ _ => rfl)).mono fun e w' => ?_
  rintro ⟨V, m', rfl, hv, hmv, hr⟩
  refine ⟨V, m', rfl, hv, ⟨hmv.os, hmv.tape, hmv.output, hmv.size, fun k hk => hmv.fr k hk fun r L e => (hW r e).elim⟩, hr.sub _ (fun r h => .inr h) fun _ _ => rfl, fun r L e => ?_⟩
  rcases hmv.new r L e with h | ⟨_, _, h | ⟨r0, L0, _, h, _⟩⟩
  · cases h
  · exact h
  · cases h
/-- A function that is known by a contract. -/
theorem gAp_at (ρ : Nat → Value) [Sym ρ φ] {f : FuncId} {tag : Nat} {q : Srt} {ps : List (Bool × List Srt)} {fn : Func} (hf : Tryd.prog.funcs[f]? = some fn) (hbd : fn.body.isSome = true) (hok : callOk fn = true)
    (hc : ∀ vs A m w, ArgsR ps vs A → Env.I m w → (Calls Tryd.prog f A.toArray w fun e w' => e = .returned (φ tag vs) ∧ Below w.heap.size w w') ∧ conf q (φ tag vs)) : CallAt Tryd.prog (gPure (gAp tag q ps)) f := by
  refine callAt_calls hf hbd hok fun args v hv m A w hA hI => ?_
  unfold gAp at hv
  split at hv
  · rename_i l hl
    cases hv
    obtain ⟨h1, h2⟩ := hc _ _ m w (flatArgs_ok (ρ := ρ) (φ := φ) hl hA) hI
    refine h1.mono fun e w' => ?_
    rintro ⟨rfl, hb⟩
    exact ⟨_, rfl, rel_tok (ρ := ρ) (φ := φ) rfl h2, hb⟩
  · cases hv
end
end Go.Proofs.YtmhiblmgadmgcaaDoor
namespace Go.Proofs.YtmhiblmgadmgcaaDoor
open Go.Ev Go.RowKit Go
set_option linter.unusedVariables false
set_option linter.unusedSectionVars false
set_option linter.unusedSimpArgs false
section
variable [Env] {ρ : Nat → Value} {φ : Nat → List Value → Value} [Sym ρ φ] {Φ : List Fact}
theorem gIss_at {f : FuncId} {l : List (List Tok × AV)} {fn : Func} (hf : Tryd.prog.funcs[f]? = some fn) (hbd : fn.body.isSome = true) (hok : callOk fn = true)
    (hc : ∀ p ∈ l, ∀ m w, Env.I m w → Calls Tryd.prog f (p.1.map (·.den ρ φ)).toArray w fun e w' => ∃ V, e = .returned V ∧ Rel m p.2 V ∧ Below w.heap.size w w') : CallAt Tryd.prog (gPure (gIss l)) f := by
  refine callAt_calls hf hbd hok fun args v hv m A w hA hI => ?_
  induction l with
  | nil => cases hv
  | cons p l ih =>
    simp only [gIss] at hv
    split at hv
    · rename_i ha
      cases hv
      obtain ⟨e1, _⟩ := argsAre_ok (ρ := ρ) (φ := φ) ha hA
      have e2 : A = (p.1.map (·.den ρ φ)).toArray := by rw [← e1]
      rw [e2]
      exact hc p (by simp) m w hI
    · exact ih (fun q hq => hc q (by simp [hq])) hv
theorem gRd_at (ρ : Nat → Value) [Sym ρ φ] {f : FuncId} {tag : Nat} {q : Srt} {N M Z : Nat} {fn : Func} (hf : Tryd.prog.funcs[f]? = some fn) (hbd : fn.body.isSome = true) (hok : callOk fn = true)
    (hc : ∀ (b off cp : Nat) (vs : List ByteArray) (S : ByteArray) (m : Mp) (w : World), (∀ j x, vs[j]? = some x → w.cell? ⟨b, off + j, none⟩ = some (.string x)) → b < w.heap.size → vs.length ≤ M → vs.length ≤ cp → (∀ x ∈ vs, x.size ≤ N) → S.size ≤ Z → Env.I m w →
      (Calls Tryd.prog f #[.slice (some ⟨b, off, none⟩) vs.length cp, .string S] w fun e w' => e = .returned (φ tag (.string S :: vs.map .string)) ∧ Below w.heap.size w w') ∧ conf q (φ tag (.string S :: vs.map .string))) : CallAt Tryd.prog (gRd tag q N M Z) f := by
  intro args H nx u h hb
  unfold gRd at h
  split at h
  · rename_i r o n c rel sep
    split at h
    · rename_i l e tl hrow
      split at h
      · rename_i xs hcut hM hcp hZ
        split at h
        · rename_i T hT
          cases h
          refine ⟨keep_pure _ _ _ _ (live_bit hrow), fun X m w A hA hp => .inr ⟨enter_of hf hbd hok A w, ?_⟩⟩
          obtain ⟨V, W, rfl, g1, g2⟩ := arr2 hA
          cases g2
          rename_i S hS
          have hSz : S.size ≤ Z := by have := ble_t hZ; rw [← hS, Array.length_toList] at this; exact this
          obtain ⟨L, e1, e2⟩ := hp.rep.rep r _ (hp.R r (bit_self r)) hrow
          obtain ⟨C, fr, k1, k2, k3, k4⟩ := e2
          obtain ⟨c1, c2⟩ := row_cut k3 hcut
          obtain ⟨d1, d2⟩ := toksOf_ok (ρ := ρ) (φ := φ) hT c2
          have strs : ∀ {n : Nat} {B : List Value}, confL (List.replicate n (.str N)) B → ∃ vs : List ByteArray, B = vs.map Value.string ∧ vs.length = n ∧ ∀ x ∈ vs, x.size ≤ N := by
            intro n
            induction n with
            | zero => intro B h; exact ⟨[], h, rfl, fun x hx => by cases hx⟩
            | succ n ih =>
              intro B h
              obtain ⟨V, r, rfl, ⟨S, rfl, hs⟩, h2⟩ := h
              obtain ⟨vs, rfl, h3, h4⟩ := ih h2
              exact ⟨S :: vs, rfl, by simp [h3], fun x hx => (List.mem_cons.1 hx).elim (fun e => e ▸ hs) (h4 x)⟩
          obtain ⟨vs, v1, v2, v3⟩ := strs d2
          have hn : n = vs.length := by rw [v2]; exact (cut_eq hcut).2.symm
          have hlt : L.block < w.heap.size := (Array.getElem?_eq_some_iff.1 k1).1
          have key : ∀ cp, n ≤ cp → V = .slice (some ⟨L.block, L.base + o, none⟩) n cp → Calls Tryd.prog f #[V, .string S] w fun e w' => ∃ V, e = .returned V ∧ ∃ m', Rel m' (.any (.ap tag q (.cn (.s sep) T))) V ∧ Mv 0 nx nx m w m' w' ∧ RepOn Tryd.prog (fun r => X r ∨ (nx ≤ r ∧ r < nx)) m' H.get w' := by
            intro cp hcp' hV
            subst hV
            rw [hn]
            obtain ⟨q1, q2⟩ := hc L.block (L.base + o) cp vs S m w (fun j x hx => by
              rw [cell_at k1]
              have hjn : j < n := by rw [hn]; exact (List.getElem?_eq_some_iff.1 hx).1
              have a1 : (C.extract (L.base + o) (L.base + o + n)).toList[j]? = some (.string x) := by rw [v1, List.getElem?_map, hx]; rfl
              rw [Array.getElem?_toList, Array.getElem?_extract] at a1
              split at a1
              · exact a1
              · cases a1) hlt (by have := ble_t hM; omega) (by omega) v3 hSz hp.rep.env
            refine q1.mono fun e w' => ?_
            rintro ⟨rfl, hbl⟩
            have hmv : Mv 0 nx nx m w m w' := ⟨fun _ _ h => h, fun _ _ h => .inl h, hbl.size, fun b hb _ => hbl.block b hb, hbl.os, hbl.tape, hbl.output⟩
            have hden : φ tag (.string S :: vs.map .string) = (Tok.ap tag q (.cn (.s sep) T)).den ρ φ := by
              rw [den_ap, dens_cn, d1, v1, dens_nl, List.append_nil, den_s, ← hS]
            refine ⟨_, rfl, m, rel_tok (ρ := ρ) (φ := φ) hden q2, hmv, ?_⟩
            refine ⟨fun r' o' hx ho => ?_, fun r1 r2 L1 L2 x1 x2 => hp.rep.inj r1 r2 L1 L2 (x1.resolve_right (by omega)) (x2.resolve_right (by omega)), Env.st hp.rep.env hmv⟩
            obtain ⟨L', p1, p2⟩ := hp.rep.rep r' o' (hx.resolve_right (by omega)) ho
            exact ⟨L', p1, p2.keep _ (fun _ _ h => h) (hbl.block _ p2.lt)⟩
          cases g1 with
          | sl _ _ _ _ L' hL' =>
            rw [hL'] at e1; cases e1
            exact key c (ble_t (by simpa using hcp)) rfl
          | slr _ _ _ _ L' hL' hn' =>
            rw [hL'] at e1; cases e1
            exact key _ (by omega) rfl
        · cases h
      · cases h
    · cases h
  · cases h
end
end Go.Proofs.YtmhiblmgadmgcaaDoor
