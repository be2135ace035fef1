/- What the evaluator is told of functions beforehand: those without a Go body, and strings.Join: it is so. -/
import Derived.Test.YthfkgdjekmebgaaGreatDoorE01
import Derived.Test.YthfkgdjekmebgaaGreatDoorE03
import Derived.Test.YthfkgdjekmebgaaGreatDoorShelf
import Derived.Lib.Bytealg
import Derived.Lib.Join
import Derived.Below
namespace Go.Proofs.YthfkgdjekmebgaaGreatDoor
open Go.Ev Go.RowKit Go
set_option linter.unusedVariables false
set_option linter.unusedSectionVars false
set_option linter.unusedSimpArgs false
section
variable {P : Program} [Env]
theorem callAt_pure {f : FuncId} {g : List AV → Option AV} (hg : ∀ args v, g args = some v → ∀ (m : Mp) (A : Array Value) (w : World), RelL m args A.toList → ∃ V, (callFunc f A).run P w = .ok (.value V) w ∧ Rel m v V) : CallAt P (gPure g) f := by
  intro args H nx u h hb
  unfold gPure at h
  split at h
  · rename_i v hv
    cases h
    refine ⟨keep_pure _ _ _ _ (live_0 _), fun X m w A hA hp => .inl ?_⟩
    obtain ⟨V, h1, h2⟩ := hg args v hv m A w hA
    exact ⟨V, w, h1, m, h2, Mv.refl _ _ _, hp.rep.sub P (fun r hr => hr.resolve_right fun e => by have := e.1; have := e.2; simp at this; omega) fun _ _ => rfl⟩
  · cases h
theorem enter_of {f : FuncId} {fn : Func} (hf : P.funcs[f]? = some fn) (hb : fn.body.isSome = true) (hn : callOk fn = true) (A : Array Value) (w : World) : (callFunc f A).run P w = .ok (.enter f A) w := by
  obtain ⟨c, hc⟩ := Option.isSome_iff_exists.1 hb
  exact callFunc_enter hf hc hn A w
theorem byte_beq (b : UInt8) {c : Nat} (h : c < 256) : (b == UInt8.ofNat c) = Nat.beq b.toNat c := by
  rw [Bool.eq_iff_iff, beq_iff_eq, Nat.beq_eq]
  constructor
  · intro e; rw [e, UInt8.toNat_ofNat']; omega
  · intro e; rw [← e, UInt8.ofNat_toNat]
theorem cnt_eq {c : Nat} (h : c < 256) : ∀ l, Lib.countByte l (UInt8.ofNat c) = cnt c l
  | [] => rfl
  | b :: l => by
    have ih := cnt_eq h l
    unfold Lib.countByte at ih ⊢
    rw [List.count_cons, ih, byte_beq b h]
    show _ = (Bool.rec (cnt c l) (cnt c l + 1) (Nat.beq b.toNat c) : Nat)
    cases Nat.beq b.toNat c <;> simp
theorem idx_eq {c : Nat} (h : c < 256) : ∀ l (k : Nat), idx c l k = if Lib.indexByte l (UInt8.ofNat c) = -1 then -1 else Lib.indexByte l (UInt8.ofNat c) + k
  | [], k => by simp [idx, Lib.indexByte]
  | b :: l, k => by
    have ih := idx_eq h l (k + 1)
    have hge := Lib.indexByte_ge l (UInt8.ofNat c)
    show (Bool.rec (idx c l (k + 1)) (.ofNat k) (Nat.beq b.toNat c) : Int) = _
    unfold Lib.indexByte
    rw [byte_beq b h]
    cases Nat.beq b.toNat c with
    | true => simp
    | false =>
      simp only [beq_iff_eq, Bool.false_eq_true, if_false]
      rw [ih]
      by_cases e : Lib.indexByte l (UInt8.ofNat c) = -1
      · simp [e]
      · rw [if_neg e, if_neg e, if_neg (by omega)]; omega
theorem strs_rel {m : Mp} : ∀ {xs : List AV} {q : List (List UInt8)} {A : List Value}, strsOf xs = some q → RelL m xs A → ∃ ss : List ByteArray, A = ss.map Value.string ∧ ss.map (·.data.toList) = q
  | [], q, A, h, hA => by simp [strsOf] at h; subst h; exact ⟨[], by rw [hA.nil_inv]; rfl, rfl⟩
  | x :: r, q, A, h, hA => by
    obtain ⟨V, A', rfl, h1, h2⟩ := hA.cons_inv
    simp only [strsOf] at h
    split at h
    · split at h
      · rename_i l q' hq
        cases h
        cases h1
        rename_i S hS
        obtain ⟨ss, g1, g2⟩ := strs_rel hq h2
        exact ⟨S :: ss, by rw [g1]; rfl, by simp [hS, g2]⟩
      · cases h
    · cases h
end
section
variable [Env]
theorem count_at : CallAt Tryz.prog (gPure gCount) 342 := by
  refine callAt_pure fun args v hv m A w hA => ?_
  unfold gCount at hv
  split at hv
  · rename_i l c
    split at hv
    · rename_i hc
      have hc := blt_t hc
      cases hv
      obtain ⟨V, W, rfl, h1, h2⟩ := arr2 hA
      cases h1; cases h2
      rename_i S hS
      refine ⟨.int .i64 (.ofNat (cnt c l)), ?_, .i _ _⟩
      rw [run_callFunc_extern Tryz.func342 (by kernel_rfl) (by kernel_rfl) (by kernel_rfl) (e := Extern.BytealgCount.count) (by kernel_rfl), Lib.run_countString, hS, ← cnt_eq hc]
      rfl
    · cases hv
  · cases hv
theorem index_at : CallAt Tryz.prog (gPure gIndex) 346 := by
  refine callAt_pure fun args v hv m A w hA => ?_
  unfold gIndex at hv
  split at hv
  · rename_i l c
    split at hv
    · rename_i hc
      have hc := blt_t hc
      cases hv
      obtain ⟨V, W, rfl, h1, h2⟩ := arr2 hA
      cases h1; cases h2
      rename_i S hS
      refine ⟨.int .i64 (idx c l 0), ?_, .i _ _⟩
      have e : idx c l 0 = Lib.indexByte l (UInt8.ofNat c) := by
        rw [idx_eq hc]; split
        · rename_i e; rw [e]
        · simp
      rw [run_callFunc_extern Tryz.func346 (by kernel_rfl) (by kernel_rfl) (by kernel_rfl) (e := Extern.BytealgIndexByte.indexByte) (by kernel_rfl), Lib.run_indexByteString, hS, e]
      rfl
    · cases hv
  · cases hv
theorem join_at : CallAt Tryz.prog gJoin 62 := by
  intro args H nx u h hb
  unfold gJoin at h
  split at h
  · rename_i r o n c rel sep
    split at h
    · rename_i l e tl hrow
      split at h
      · rename_i xs hc
        split at h
        · rename_i q hq
          split at h
          · rename_i b1 b2 b3
            have h1 := blt_t b1; have h2 := ble_t b2
            cases h
            refine ⟨keep_pure _ _ _ _ (live_bit hrow), fun X m w A hA hp => .inr ?_⟩
            obtain ⟨V, W, rfl, g1, g2⟩ := arr2 hA
            cases g2
            rename_i S hS
            obtain ⟨L, e1, e2⟩ := hp.rep.rep r _ (hp.R r (bit_self r)) hrow
            obtain ⟨C, fr, k1, k2, k3, k4⟩ := e2
            obtain ⟨c1, c2⟩ := row_cut k3 hc
            obtain ⟨ss, s1, s2⟩ := strs_rel hq c2
            have hn : n = ss.length := by
              have a1 := (cut_eq hc).2
              have a2 := c2.1
              rw [s1, List.length_map] at a2
              omega
            have hlt : L.block < w.heap.size := (Array.getElem?_eq_some_iff.1 k1).1
            have key : ∀ cp, n ≤ cp → V = .slice (some ⟨L.block, L.base + o, none⟩) n cp → (callFunc 62 #[V, .string S]).run Tryz.prog w = .ok (.enter 62 #[V, .string S]) w ∧ Calls Tryz.prog 62 #[V, .string S] w fun e w' => ∃ V, e = .returned V ∧ ∃ m', Rel m' (.s (Lib.join q sep)) V ∧ Mv 0 nx nx m w m' w' ∧ RepOn Tryz.prog (fun r => X r ∨ (nx ≤ r ∧ r < nx)) m' H.get w' := by
              intro cp hcp hV
              subst hV
              refine ⟨enter_of Tryz.func62 (by kernel_rfl) (by kernel_rfl) _ _, ?_⟩
              have hj := Tryz.strings_Join L.block (L.base + o) cp ss S w (fun j x hx => by
                rw [cell_at k1]
                have hjn : j < n := by rw [hn]; exact (List.getElem?_eq_some_iff.1 hx).1
                have a1 : (C.extract (L.base + o) (L.base + o + n)).toList[j]? = some (.string x) := by rw [s1, List.getElem?_map, hx]; rfl
                rw [Array.getElem?_toList, Array.getElem?_extract] at a1
                split at a1
                · exact a1
                · cases a1) hlt (by omega) (by omega) (by rw [s2, hS]; omega)
              rw [hn]
              refine hj.mono fun e w' => ?_
              rintro ⟨rfl, hbl⟩
              have hmv : Mv 0 nx nx m w m w' := ⟨fun _ _ h => h, fun _ _ h => .inl h, hbl.size, fun b hb _ => hbl.block b hb, hbl.os, hbl.tape, hbl.output⟩
              refine ⟨_, rfl, m, .s _ _ (by simp [s2, hS]), hmv, ?_⟩
              refine ⟨fun r' o' hx ho => ?_, fun r1 r2 L1 L2 x1 x2 => hp.rep.inj r1 r2 L1 L2 (x1.resolve_right (by omega)) (x2.resolve_right (by omega)), Env.st hp.rep.env hmv⟩
              obtain ⟨L', q1, q2⟩ := hp.rep.rep r' o' (hx.resolve_right (by omega)) ho
              exact ⟨L', q1, q2.keep _ (fun _ _ h => h) (hbl.block _ q2.lt)⟩
            cases g1 with
            | sl _ _ _ _ L' hL' =>
              rw [hL'] at e1; cases e1
              exact key c (ble_t b3) rfl
            | slr _ _ _ _ L' hL' hn' =>
              rw [hL'] at e1; cases e1
              exact key _ (by omega) rfl
          · cases h
        · cases h
      · cases h
    · cases h
  · cases h
theorem orc_at : ∀ f g, orc f = some g → CallAt Tryz.prog g f := by
  intro f g h
  unfold orc at h
  cases h1 : Nat.beq f 342 with
  | true => have := beq_t h1; subst this; rw [h1] at h; cases h; exact count_at
  | false =>
    rw [h1] at h
    cases h2 : Nat.beq f 346 with
    | true => have := beq_t h2; subst this; rw [h2] at h; cases h; exact index_at
    | false =>
      rw [h2] at h
      cases h3 : Nat.beq f 62 with
      | true => have := beq_t h3; subst this; rw [h3] at h; cases h; exact join_at
      | false => rw [h3] at h; cases h
/-- A function that is known by a contract: it answers so, wherever it is called. -/
theorem callAt_calls {f : FuncId} {g : List AV → Option AV} {fn : Func} (hf : Tryz.prog.funcs[f]? = some fn) (hbd : fn.body.isSome = true) (hok : callOk fn = true)
    (hg : ∀ args v, g args = some v → ∀ (m : Mp) (A : Array Value) (w : World), RelL m args A.toList → Env.I m w → Calls Tryz.prog f A w fun e w' => ∃ V, e = .returned V ∧ Rel m v V ∧ Below w.heap.size w w') : CallAt Tryz.prog (gPure g) f := by
  intro args H nx u h hb
  unfold gPure at h
  split at h
  · rename_i v hv
    cases h
    refine ⟨keep_pure _ _ _ _ (live_0 _), fun X m w A hA hp => .inr ⟨enter_of hf hbd hok A w, ?_⟩⟩
    refine (hg args v hv m A w hA hp.rep.env).mono fun e w' => ?_
    rintro ⟨V, rfl, h1, hbl⟩
    have hmv : Mv 0 nx nx m w m w' := ⟨fun _ _ h => h, fun _ _ h => .inl h, hbl.size, fun b hb _ => hbl.block b hb, hbl.os, hbl.tape, hbl.output⟩
    refine ⟨V, rfl, m, h1, hmv, ?_⟩
    refine ⟨fun r' o' hx ho => ?_, fun r1 r2 L1 L2 x1 x2 => hp.rep.inj r1 r2 L1 L2 (x1.resolve_right fun e => by have := e.1; have := e.2; simp at this; omega) (x2.resolve_right fun e => by have := e.1; have := e.2; simp at this; omega), Env.st hp.rep.env hmv⟩
    obtain ⟨L', q1, q2⟩ := hp.rep.rep r' o' (hx.resolve_right fun e => by have := e.1; have := e.2; simp at this; omega) ho
    exact ⟨L', q1, q2.keep _ (fun _ _ h => h) (hbl.block _ q2.lt)⟩
  · cases h
theorem ev_at {orc' : FuncId → Option Cl} (ho : ∀ f g, orc' f = some g → CallAt Tryz.prog g f) (n : Nat) (f : FuncId) : CallAt Tryz.prog (evF Tryz.prog (fOp Tryz.prog) orc' n) f := by
  rw [fOp_eq]
  exact evF_ok ops_ok (by kernel_rfl) seat_form ho n f
/-- What the evaluator answers is so: the memory below stands. -/
theorem calls_ev {orc' : FuncId → Option Cl} (ho : ∀ f g, orc' f = some g → CallAt Tryz.prog g f) {n : Nat} {f : FuncId} {args : List AV} {A : Array Value} {u : Ou} (hu : evF Tryz.prog (fOp Tryz.prog) orc' n f args .e 8 = some u) (hA : RelL (fun _ => none) args A.toList) {fn : Func} (hf : Tryz.prog.funcs[f]? = some fn) (hbd : fn.body.isSome = true) (hok : callOk fn = true) (w : World) (hI : Env.I (fun _ => none) w) : Calls Tryz.prog f A w fun e w' => ∃ V m', e = .returned V ∧ Rel m' u.v V ∧ Below w.heap.size w w' := by
  obtain ⟨g1, g2⟩ := ev_at ho n f args .e 8 u hu (fun r e => by simp [Tr.get_e] at e)
  have hR : ∀ r, u.R.testBit r = true → False := fun r e => (g1.rd r e) rfl
  have hW : ∀ r, u.W.testBit r = true → False := fun r e => (g1.wr r e).2 rfl
  have hc := g2 (fun _ => False) (fun _ => none) w A hA ⟨⟨fun _ _ h => h.elim, fun _ _ _ _ h => h.elim, hI⟩, fun r e => hR r e, fun r _ _ => ⟨rfl, fun h => h⟩⟩
  rcases hc with ⟨V, w', e, _⟩ | ⟨_, hc⟩
  · rw [enter_of hf hbd hok] at e; cases e
  · refine hc.mono fun e w' => ?_
    rintro ⟨V, rfl, m', hv, hmv, _⟩
    exact ⟨V, m', rfl, hv, hmv.os, hmv.tape, hmv.output, hmv.size, fun k hk => hmv.fr k hk fun r L e => (hW r e).elim⟩
/-- What the evaluator answers with true is so. -/
theorem calls_true {orc' : FuncId → Option Cl} (ho : ∀ f g, orc' f = some g → CallAt Tryz.prog g f) {n : Nat} {f : FuncId} {args : List AV} {A : Array Value} (h : isTrue (evF Tryz.prog (fOp Tryz.prog) orc' n f args .e 8) = true) (hA : RelL (fun _ => none) args A.toList) {fn : Func} (hf : Tryz.prog.funcs[f]? = some fn) (hbd : fn.body.isSome = true) (hok : callOk fn = true) (w : World) (hI : Env.I (fun _ => none) w) : Calls Tryz.prog f A w fun e w' => e = .returned (.bool true) ∧ Below w.heap.size w w' := by
  generalize hu : evF Tryz.prog (fOp Tryz.prog) orc' n f args .e 8 = r at h
  cases r with
  | none => cases h
  | some u =>
    refine (calls_ev ho hu hA hf hbd hok w hI).mono fun e w' => ?_
    rintro ⟨V, m', rfl, hv, hb⟩
    refine ⟨?_, hb⟩
    unfold isTrue at h
    split at h
    · rename_i u' hu'
      cases hu'
      split at h
      · rename_i ht; rw [ht] at hv; cases hv; rfl
      · cases h
    · rename_i hu'; cases hu'
theorem rel_any {m : Mp} {k : Tok} {V : Value} (he : Env.E k V) (h : V.oneCell' = true) : Rel m (.any k) V := .any k V he h (by cases V <;> first | rfl | cases h)
end
/-- Nothing is known besides. -/
@[reducible] def env0 : Env := ⟨fun _ _ => True, fun _ _ => True, fun _ _ => trivial, fun _ _ => trivial⟩
/-- What the unknown values are (E); the memory below B stands as it was in w0. -/
@[reducible] def envB (B : Nat) (w0 : World) (E : Tok → Value → Prop) : Env where
  E := E
  I m w := B ≤ w.heap.size ∧ (∀ r L, m r = some L → B ≤ L.block) ∧ ∀ k, k < B → w.heap[k]? = w0.heap[k]?
  st := by
    rintro W a z m w m' w' ⟨h1, h2, h3⟩ hmv
    have hs := hmv.size
    refine ⟨by omega, fun r L e => ?_, fun k hk => ?_⟩
    · rcases hmv.new r L e with e | ⟨_, _, e | ⟨r0, L0, _, e, e'⟩⟩
      · exact h2 r L e
      · omega
      · have := h2 r0 L0 e; omega
    · rw [hmv.fr k (by omega) fun r L _ e e' => by have := h2 r L e; omega]
      exact h3 k hk
  hp := by
    rintro m w w' hb ⟨h1, h2, h3⟩
    exact ⟨by rw [hb]; exact h1, h2, fun k hk => by rw [hb]; exact h3 k hk⟩
theorem calls_of_ev {n : Nat} {f : FuncId} {args : List AV} {A : Array Value} (h : isTrue (evF Tryz.prog (fOp Tryz.prog) orc n f args .e 8) = true) (hA : ∀ [Env], (∀ k V, Env.E k V) → RelL (fun _ => none) args A.toList) {fn : Func} (hf : Tryz.prog.funcs[f]? = some fn) (hbd : fn.body.isSome = true) (hok : callOk fn = true) (w : World) : Calls Tryz.prog f A w fun e w' => e = .returned (.bool true) ∧ Below w.heap.size w w' :=
  @calls_true env0 orc (@orc_at env0) n f args A h (@hA env0 fun _ _ => trivial) fn hf hbd hok w trivial
end Go.Proofs.YthfkgdjekmebgaaGreatDoor
