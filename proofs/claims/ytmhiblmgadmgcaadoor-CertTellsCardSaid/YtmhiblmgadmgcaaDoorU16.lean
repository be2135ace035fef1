/- What the evaluator is told of functions beforehand: those without a Go body, and strings.Join: it is so. Ahead of it: The program of this seat for the evaluator: its regions' form; the functions without a Go body. -/
import Derived.Test.YtmhiblmgadmgcaaDoorU13
import Derived.Test.YtmhiblmgadmgcaaDoorProg
import Derived.Test.YtmhiblmgadmgcaaDoorUE03
import Derived.Test.YtmhiblmgadmgcaaDoorUShelf
import Derived.KernelRfl
import Derived.Lib.Bytealg
import Derived.Lib.Join
import Derived.Below
namespace Go.Proofs.YtmhiblmgadmgcaaDoor
open Go.Ev Go
set_option linter.unusedVariables false
set_option linter.unusedSimpArgs false
def bodyOk (fn : Func) : Bool := match fn.body with
  | some c => codeOk c
  | none => true
set_option maxRecDepth 1000000 in
theorem all_form : (Tryd.prog.funcs.toList.all bodyOk) = true := by decide +kernel
theorem seat_form : ∀ (f : FuncId) (fn : Func) (c : Code), Tryd.prog.funcs[f]? = some fn → fn.body = some c → codeOk c = true := by
  intro f fn c hf hb
  have hm : fn ∈ Tryd.prog.funcs.toList := by
    rw [← Array.getElem?_toList] at hf
    exact List.mem_of_getElem? hf
  have := List.all_eq_true.1 all_form fn hm
  unfold bodyOk at this
  rw [hb] at this
  exact this
end Go.Proofs.YtmhiblmgadmgcaaDoor
namespace Go.Proofs.YtmhiblmgadmgcaaDoor
open Go.Ev Go.RowKit Go
set_option linter.unusedVariables false
set_option linter.unusedSectionVars false
set_option linter.unusedSimpArgs false
section
variable {P : Program} [Env]
theorem enter_of {f : FuncId} {fn : Func} (hf : P.funcs[f]? = some fn) (hb : fn.body.isSome = true) (hn : callOk fn = true) (A : Array Value) (w : World) : (callFunc f A).run P w = .ok (.enter f A) w := by
  obtain ⟨c, hc⟩ := Option.isSome_iff_exists.1 hb
  exact callFunc_enter hf hc hn A w
theorem strs_rel {m : Mp} : ∀ {xs : List AV} {q : List (List UInt8)} {A : List Value}, strsOf xs = some q → RelL m xs A → ∃ ss : List ByteArray, A = ss.map Value.string ∧ ss.map (·.data.toList) = q
  | [], q, A, h, hA => by simp [strsOf] at h; subst h; exact ⟨[], by rw [hA.nil_inv]; rfl, rfl⟩
  | x :: r, q, A, h, hA => by
    obtain ⟨V, A', rfl, h1, h2⟩ := hA.cons_inv
    simp only [strsOf] at h
    split at h
    · split at h
      · rename_i l q' hq
        cases h
        cases h1
        rename_i S hS
        obtain ⟨ss, g1, g2⟩ := strs_rel hq h2
        exact ⟨S :: ss, by rw [g1]; rfl, by simp [hS, g2]⟩
      · cases h
    · cases h
end
section
variable [Env]
theorem join_at : CallAt Tryd.prog gJoin 37 := by
  intro args H nx u h hb
  unfold gJoin at h
  split at h
  · rename_i r o n c rel sep
    split at h
    · rename_i l e tl hrow
      split at h
      · rename_i xs hc
        split at h
        · rename_i q hq
          split at h
          · rename_i b1 b2 b3
            have h1 := blt_t b1; have h2 := ble_t b2
            cases h
            refine ⟨keep_pure _ _ _ _ (live_bit hrow), fun X m w A hA hp => .inr ?_⟩
            obtain ⟨V, W, rfl, g1, g2⟩ := arr2 hA
            cases g2
            rename_i S hS
            obtain ⟨L, e1, e2⟩ := hp.rep.rep r _ (hp.R r (bit_self r)) hrow
            obtain ⟨C, fr, k1, k2, k3, k4⟩ := e2
            obtain ⟨c1, c2⟩ := row_cut k3 hc
            obtain ⟨ss, s1, s2⟩ := strs_rel hq c2
            have hn : n = ss.length := by
              have a1 := (cut_eq hc).2
              have a2 := c2.1
              rw [s1, List.length_map] at a2
              omega
            have hlt : L.block < w.heap.size := (Array.getElem?_eq_some_iff.1 k1).1
            have key : ∀ cp, n ≤ cp → V = .slice (some ⟨L.block, L.base + o, none⟩) n cp → (callFunc 37 #[V, .string S]).run Tryd.prog w = .ok (.enter 37 #[V, .string S]) w ∧ Calls Tryd.prog 37 #[V, .string S] w fun e w' => ∃ V, e = .returned V ∧ ∃ m', Rel m' (.s (Lib.join q sep)) V ∧ Mv 0 nx nx m w m' w' ∧ RepOn Tryd.prog (fun r => X r ∨ (nx ≤ r ∧ r < nx)) m' H.get w' := by
              intro cp hcp hV
              subst hV
              refine ⟨enter_of Tryd.func37 (by kernel_rfl) (by kernel_rfl) _ _, ?_⟩
              have hj := Tryd.strings_Join L.block (L.base + o) cp ss S w (fun j x hx => by
                rw [cell_at k1]
                have hjn : j < n := by rw [hn]; exact (List.getElem?_eq_some_iff.1 hx).1
                have a1 : (C.extract (L.base + o) (L.base + o + n)).toList[j]? = some (.string x) := by rw [s1, List.getElem?_map, hx]; rfl
                rw [Array.getElem?_toList, Array.getElem?_extract] at a1
                split at a1
                · exact a1
                · cases a1) hlt (by omega) (by omega) (by rw [s2, hS]; omega)
              rw [hn]
              refine hj.mono fun e w' => ?_
              rintro ⟨rfl, hbl⟩
              have hmv : Mv 0 nx nx m w m w' := ⟨fun _ _ h => h, fun _ _ h => .inl h, hbl.size, fun b hb _ => hbl.block b hb, hbl.os, hbl.tape, hbl.output⟩
              refine ⟨_, rfl, m, .s _ _ (by simp [s2, hS]), hmv, ?_⟩
              refine ⟨fun r' o' hx ho => ?_, fun r1 r2 L1 L2 x1 x2 => hp.rep.inj r1 r2 L1 L2 (x1.resolve_right (by omega)) (x2.resolve_right (by omega)), Env.st hp.rep.env hmv⟩
              obtain ⟨L', q1, q2⟩ := hp.rep.rep r' o' (hx.resolve_right (by omega)) ho
              exact ⟨L', q1, q2.keep _ (fun _ _ h => h) (hbl.block _ q2.lt)⟩
            cases g1 with
            | sl _ _ _ _ L' hL' =>
              rw [hL'] at e1; cases e1
              exact key c (ble_t b3) rfl
            | slr _ _ _ _ L' hL' hn' =>
              rw [hL'] at e1; cases e1
              exact key _ (by omega) rfl
          · cases h
        · cases h
      · cases h
    · cases h
  · cases h
theorem orc_at : ∀ f g, orc f = some g → CallAt Tryd.prog g f := by
  intro f g h
  unfold orc at h
  cases h3 : Nat.beq f 37 with
  | true => have := beq_t h3; subst this; rw [h3] at h; cases h; exact join_at
  | false => rw [h3] at h; cases h
/-- A function that is known by a contract: it answers so, wherever it is called. -/
theorem callAt_calls {f : FuncId} {g : List AV → Option AV} {fn : Func} (hf : Tryd.prog.funcs[f]? = some fn) (hbd : fn.body.isSome = true) (hok : callOk fn = true)
    (hg : ∀ args v, g args = some v → ∀ (m : Mp) (A : Array Value) (w : World), RelL m args A.toList → Env.I m w → Calls Tryd.prog f A w fun e w' => ∃ V, e = .returned V ∧ Rel m v V ∧ Below w.heap.size w w') : CallAt Tryd.prog (gPure g) f := by
  intro args H nx u h hb
  unfold gPure at h
  split at h
  · rename_i v hv
    cases h
    refine ⟨keep_pure _ _ _ _ (live_0 _), fun X m w A hA hp => .inr ⟨enter_of hf hbd hok A w, ?_⟩⟩
    refine (hg args v hv m A w hA hp.rep.env).mono fun e w' => ?_
    rintro ⟨V, rfl, h1, hbl⟩
    have hmv : Mv 0 nx nx m w m w' := ⟨fun _ _ h => h, fun _ _ h => .inl h, hbl.size, fun b hb _ => hbl.block b hb, hbl.os, hbl.tape, hbl.output⟩
    refine ⟨V, rfl, m, h1, hmv, ?_⟩
    refine ⟨fun r' o' hx ho => ?_, fun r1 r2 L1 L2 x1 x2 => hp.rep.inj r1 r2 L1 L2 (x1.resolve_right fun e => by have := e.1; have := e.2; simp at this; omega) (x2.resolve_right fun e => by have := e.1; have := e.2; simp at this; omega), Env.st hp.rep.env hmv⟩
    obtain ⟨L', q1, q2⟩ := hp.rep.rep r' o' (hx.resolve_right fun e => by have := e.1; have := e.2; simp at this; omega) ho
    exact ⟨L', q1, q2.keep _ (fun _ _ h => h) (hbl.block _ q2.lt)⟩
  · cases h
theorem ev_at {orc' : FuncId → Option Cl} (ho : ∀ f g, orc' f = some g → CallAt Tryd.prog g f) (n : Nat) (f : FuncId) : CallAt Tryd.prog (evF Tryd.prog (fOp Tryd.prog) orc' n) f := by
  rw [fOp_eq]
  exact evF_ok ops_ok (by kernel_rfl) seat_form ho n f
/-- What the evaluator answers is so: the memory below stands. -/
theorem calls_ev {orc' : FuncId → Option Cl} (ho : ∀ f g, orc' f = some g → CallAt Tryd.prog g f) {n : Nat} {f : FuncId} {args : List AV} {A : Array Value} {u : Ou} (hu : evF Tryd.prog (fOp Tryd.prog) orc' n f args .e 8 = some u) (hA : RelL (fun _ => none) args A.toList) {fn : Func} (hf : Tryd.prog.funcs[f]? = some fn) (hbd : fn.body.isSome = true) (hok : callOk fn = true) (w : World) (hI : Env.I (fun _ => none) w) : Calls Tryd.prog f A w fun e w' => ∃ V m', e = .returned V ∧ Rel m' u.v V ∧ Below w.heap.size w w' := by
  obtain ⟨g1, g2⟩ := ev_at ho n f args .e 8 u hu (fun r e => by simp [Tr.get_e] at e)
  have hR : ∀ r, u.R.testBit r = true → False := fun r e => (g1.rd r e) rfl
  have hW : ∀ r, u.W.testBit r = true → False := fun r e => (g1.wr r e).2 rfl
  have hc := g2 (fun _ => False) (fun _ => none) w A hA ⟨⟨fun _ _ h => h.elim, fun _ _ _ _ h => h.elim, hI⟩, fun r e => hR r e, fun r _ _ => ⟨rfl, fun h => h⟩⟩
  rcases hc with ⟨V, w', e, _⟩ | ⟨_, hc⟩
  · rw [enter_of hf hbd hok] at e; cases e
  · refine hc.mono fun e w' => ?_
    rintro ⟨V, rfl, m', hv, hmv, _⟩
    exact ⟨V, m', rfl, hv, hmv.os, hmv.tape, hmv.output, hmv.size, fun k hk => hmv.fr k hk fun r L e => (hW r e).elim⟩
/-- What the evaluator answers with true is so. -/
theorem calls_true {orc' : FuncId → Option Cl} (ho : ∀ f g, orc' f = some g → CallAt Tryd.prog g f) {n : Nat} {f : FuncId} {args : List AV} {A : Array Value} (h : isTrue (evF Tryd.prog (fOp Tryd.prog) orc' n f args .e 8) = true) (hA : RelL (fun _ => none) args A.toList) {fn : Func} (hf : Tryd.prog.funcs[f]? = some fn) (hbd : fn.body.isSome = true) (hok : callOk fn = true) (w : World) (hI : Env.I (fun _ => none) w) : Calls Tryd.prog f A w fun e w' => e = .returned (.bool true) ∧ Below w.heap.size w w' := by
  generalize hu : evF Tryd.prog (fOp Tryd.prog) orc' n f args .e 8 = r at h
  cases r with
  | none => cases h
  | some u =>
    refine (calls_ev ho hu hA hf hbd hok w hI).mono fun e w' => ?_
    rintro ⟨V, m', rfl, hv, hb⟩
    refine ⟨?_, hb⟩
    unfold isTrue at h
    split at h
    · rename_i u' hu'
      cases hu'
      split at h
      · rename_i ht; rw [ht] at hv; cases hv; rfl
      · cases h
    · rename_i hu'; cases hu'
end
/-- Nothing is known besides. -/
@[reducible] def env0 : Env := ⟨fun _ _ => True, fun _ _ => True, fun _ _ => trivial, fun _ _ => trivial⟩
/-- What the unknown values are (E); the memory below B stands as it was in w0. -/
@[reducible] def envB (B : Nat) (w0 : World) (E : Tok → Value → Prop) : Env where
  E := E
  I m w := B ≤ w.heap.size ∧ (∀ r L, m r = some L → B ≤ L.block) ∧ ∀ k, k < B → w.heap[k]? = w0.heap[k]?
  st := by
    rintro W a z m w m' w' ⟨h1, h2, h3⟩ hmv
    have hs := hmv.size
    refine ⟨by omega, fun r L e => ?_, fun k hk => ?_⟩
    · rcases hmv.new r L e with e | ⟨_, _, e | ⟨r0, L0, _, e, e'⟩⟩
      · exact h2 r L e
      · omega
      · have := h2 r0 L0 e; omega
    · rw [hmv.fr k (by omega) fun r L _ e e' => by have := h2 r L e; omega]
      exact h3 k hk
  hp := by
    rintro m w w' hb ⟨h1, h2, h3⟩
    exact ⟨by rw [hb]; exact h1, h2, fun k hk => by rw [hb]; exact h3 k hk⟩
theorem calls_of_ev {n : Nat} {f : FuncId} {args : List AV} {A : Array Value} (h : isTrue (evF Tryd.prog (fOp Tryd.prog) orc n f args .e 8) = true) (hA : ∀ [Env], (∀ k V, Env.E k V) → RelL (fun _ => none) args A.toList) {fn : Func} (hf : Tryd.prog.funcs[f]? = some fn) (hbd : fn.body.isSome = true) (hok : callOk fn = true) (w : World) : Calls Tryd.prog f A w fun e w' => e = .returned (.bool true) ∧ Below w.heap.size w w' :=
  @calls_true env0 orc (@orc_at env0) n f args A h (@hA env0 fun _ _ => trivial) fn hf hbd hok w trivial
end Go.Proofs.YtmhiblmgadmgcaaDoor
