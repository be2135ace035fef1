/- Phenomena's texts: the reference's Read is the document's. Ahead of it: Phenomena's texts: contracts of Text, on both sides, and of the order, by the evaluator. Phenomena's texts: contracts of Read, on both sides, by the evaluator. Phenomena's texts: Read, on both sides, is the document's. -/
import Derived.Test.YtacbiajedbbnbaaGreatDoorUP03
import Derived.Test.YtacbiajedbbnbaaGreatDoorUP04
import Derived.Test.YtacbiajedbbnbaaGreatDoorUP05
namespace Go.Proofs.YtacbiajedbbnbaaGreatDoor
open Go.Ev Go.RowKit Go
set_option linter.unusedVariables false
set_option linter.unusedSectionVars false
set_option linter.unusedSimpArgs false
theorem evS_calls [Env] {ρ : Nat → Value} [Sym ρ phF] {Φ : List Fact} {l : List (FuncId × Cl)} {f : FuncId} {args : List AV} {A : Array Value} {u : Ou} (hΦ : FactsOk ρ phF Φ) (hl : ∀ p ∈ l, CallAt Tryz.prog p.2 p.1) (hu : evS Φ l f args = some u) (hA : RelL (fun _ => none) args A.toList)
    {fn : Func} (hf : Tryz.prog.funcs[f]? = some fn) (hbd : fn.body.isSome = true) (hok : callOk fn = true) (w : World) (hI : Env.I (fun _ => none) w) : Calls Tryz.prog f A w fun e w' => ∃ V m', e = .returned V ∧ Rel m' u.v V ∧ Below w.heap.size w w' :=
  (calls_sym (Φ := Φ) hΦ (orcL_at hl) hu hA hf hbd hok w hI).mono fun e w' ⟨V, m', h1, h2, h3, _⟩ => ⟨V, m', h1, h2, h3⟩
theorem tok_t {a b : Tok} (h : a.same b = true) : a = b := @Tok.same_t env0 a b h
theorem int_t {a b : Int} (h : ieq a b = true) : a = b := by rw [@ieq_eq env0] at h; simpa using h
theorem str_t {a b : List UInt8} (h : seq' a b = true) : a = b := by rw [@seq'_eq env0] at h; simpa using h
theorem isTok_t {t : Tok} {r : Option Ou} (h : isTok t r = true) : ∃ u, r = some u ∧ u.v = .any t := by
  unfold isTok at h
  split at h
  · rename_i u
    split at h
    · rename_i a ha; exact ⟨u, rfl, by rw [ha, tok_t h]⟩
    · cases h
  · cases h
theorem isStr_t {l : List UInt8} {r : Option Ou} (h : isStr l r = true) : ∃ u, r = some u ∧ u.v = .s l := by
  unfold isStr at h
  split at h
  · rename_i u
    split at h
    · rename_i a ha; exact ⟨u, rfl, by rw [ha, str_t h]⟩
    · cases h
  · cases h
theorem isInt_t {n : Int} {r : Option Ou} (h : isInt n r = true) : ∃ u, r = some u ∧ u.v = .i .i64 n := by
  unfold isInt at h
  split at h
  · rename_i u
    split at h
    · rename_i k a ha
      simp only [Bool.and_eq_true, decide_eq_true_eq] at h
      exact ⟨u, rfl, by rw [ha, int_t h.2, h.1]⟩
    · cases h
  · cases h
def Ph.vals (p : Ph) : List Value := [.int .i64 p.k, .int .i64 p.pos, .int .i64 p.place, .int .u64 p.t, .int .u64 p.x, .int .u64 p.w, .int .u64 p.n]
/-- The unknown values: the phenomenon's cells, another's. -/
def phRho (p q : Ph) (n : Nat) : Value := (p.vals ++ q.vals).getD n undef
theorem conf_i64 {n : Int} (h1 : -9223372036854775808 ≤ n) (h2 : n ≤ 9223372036854775807) : conf (.int .i64) (.int .i64 n) := ⟨n, rfl, i64_has h1 h2⟩
theorem conf_u64 {n : Nat} (h : n < 18446744073709551616) : conf (.int .u64) (.int .u64 n) := ⟨n, rfl, u64_has n h⟩
theorem Lq.of_heap {B : Nat} {w w' : World} (h : Lq B w) (hk : ∀ k, k < B → w'.heap[k]? = w.heap[k]?) : Lq B w' := by
  have hv : ∀ (n : String) (g : Nat), Tryz.prog.globalNamed n = some g → g < B → w'.var? Tryz.prog n = w.var? Tryz.prog n := fun n g hg hl => by
    unfold World.var?
    rw [hg]
    simp only [Option.bind_some]
    rw [hk g hl]
  obtain ⟨⟨h1, ⟨a, b, h2⟩, ⟨c, d, h3⟩, h4⟩, ⟨m, hm⟩, h5⟩ := h
  refine ⟨⟨?_, ⟨a, b, by rw [hv _ _ gSyn h4.2.1]; exact h2⟩, ⟨c, d, by rw [hv _ _ gRng h4.2.2]; exact h3⟩, h4⟩, ⟨m, ?_⟩, h5⟩
  · unfold Lib.TabIs at h1 ⊢
    rw [hv _ _ gTab h4.1]; exact h1
  · rw [World.cell?_of_block (w := w) (a := ⟨0, 0, none⟩) (hk _ h5)]; exact hm
theorem lqI_envS {w : World} (ρ : Nat → Value) (hL : Lq w.heap.size w) : @LqI (envS w.heap.size w ρ phF) := fun m w' ⟨h1, _, h3⟩ => (hL.of_heap h3).mono h1
theorem envS_start (w : World) (ρ : Nat → Value) : @Env.I (envS w.heap.size w ρ phF) (fun _ => none) w := ⟨Nat.le_refl _, (fun _ _ e => by cases e), fun _ _ => rfl⟩
theorem phL_at [Env] (ρ : Nat → Value) [Sym ρ phF] (hI : LqI) : ∀ p ∈ phL, CallAt Tryz.prog p.2 p.1 := by
  intro p hp
  simp only [phL, List.mem_cons, List.not_mem_nil, or_false] at hp
  rcases hp with rfl | rfl | rfl | rfl | rfl | rfl
  · exact itoa_at ρ hI
  · exact phDigits_at ρ hI
  · exact refDigits_at ρ
  · exact verText_at ρ hI
  · exact refTold_at ρ
  · exact joinP_at ρ
theorem phCells_rel [Env] {p q : Ph} [Sym (phRho p q) phF] (hn : p.nums) {k : AV} (hk : Rel (fun _ => none) k (.int .i64 p.k)) : RelL (fun _ => none) [.a (phCells k)] [.agg p.vals.toArray] := by
  obtain ⟨b0, b1, b2, b3, b4, b5, b6⟩ := hn
  refine .cons (.a_of ?_) (.nil _)
  exact .cons hk (.cons (rel_tok (ρ := phRho p q) (φ := phF) rfl (conf_i64 b1.1 b1.2)) (.cons (rel_tok (ρ := phRho p q) (φ := phF) rfl (conf_i64 b2.1 b2.2)) (.cons (rel_tok (ρ := phRho p q) (φ := phF) rfl (conf_u64 b3)) (.cons (rel_tok (ρ := phRho p q) (φ := phF) rfl (conf_u64 b4)) (.cons (rel_tok (ρ := phRho p q) (φ := phF) rfl (conf_u64 b5)) (.cons (rel_tok (ρ := phRho p q) (φ := phF) rfl (conf_u64 b6)) (.nil _)))))))
def Ph.zero : Ph := ⟨0, 0, 0, 0, 0, 0, 0⟩
theorem itoa_of {n : Int} (h : 0 ≤ n) : Lib.itoa n = Lib.decDigits n.toNat := by unfold Lib.itoa; rw [if_neg (by omega)]
theorem wrap_u {n : Int} (h0 : 0 ≤ n) (h1 : n ≤ 9223372036854775807) : IntKind.u64.wrap n = n := by
  simp only [IntKind.wrap, IntKind.signed, IntKind.bits]; simp; omega
theorem word_eq {k : Int} : wordT k = phWord k := rfl
section
variable {p : Ph} (hn : p.nums)
theorem facts_ok2 {q : Ph} (ho : p.ok) : FactsOk (phRho p q) phF phOkΦ := by
  intro f hf
  have h1 : ¬ p.pos < 0 := by have := ho.2.1; omega
  have h2 : ¬ p.place < 0 := by have := ho.2.2; omega
  simp only [phOkΦ, List.mem_cons, List.not_mem_nil, or_false] at hf
  rcases hf with rfl | rfl
  · show (if IntKind.i64 = IntKind.i64 then some (decide (p.pos < 0)) else none) = some false
    simp [h1]
  · show (if IntKind.i64 = IntKind.i64 then some (decide (p.place < 0)) else none) = some false
    simp [h2]
/-- Text tells what is the document's. -/
theorem phText_any (p : Ph) (hn : p.nums) (w : World) (hL : Lq w.heap.size w) : Calls Tryz.prog 6 #[.agg p.vals.toArray] w fun e w' => e = .returned (str p.text) ∧ Below w.heap.size w w' := by
  letI : Env := envS w.heap.size w (phRho p Ph.zero) phF
  haveI : Sym (phRho p Ph.zero) phF := envS_sym _ _ _ _
  have hI : LqI := lqI_envS _ hL
  have go : ∀ {Φ k t u}, FactsOk (phRho p Ph.zero) phF Φ → Rel (fun _ => none) k (.int .i64 p.k) → evS Φ phL 6 [.a (phCells k)] = some u → (∀ m V, Rel m u.v V → V = t) → Calls Tryz.prog 6 #[.agg p.vals.toArray] w fun e w' => e = .returned t ∧ Below w.heap.size w w' := by
    intro Φ k t u h1 h2 h3 h4
    refine (evS_calls h1 (phL_at (phRho p Ph.zero) hI) h3 (phCells_rel (q := Ph.zero) hn h2) Tryz.func6 (by kernel_rfl) (by kernel_rfl) w (envS_start w _)).mono fun e w' => ?_
    rintro ⟨V, m', rfl, hv, hb⟩
    exact ⟨by rw [h4 m' V hv], hb⟩
  have none_ : ∀ {Φ k}, FactsOk (phRho p Ph.zero) phF Φ → Rel (fun _ => none) k (.int .i64 p.k) → isStr [] (evS Φ phL 6 [.a (phCells k)]) = true → ¬ p.ok → Calls Tryz.prog 6 #[.agg p.vals.toArray] w fun e w' => e = .returned (str p.text) ∧ Below w.heap.size w w' := by
    intro Φ k h1 h2 h3 h4
    obtain ⟨u, e1, e2⟩ := isStr_t h3
    refine go h1 h2 e1 fun m V hv => ?_
    rw [e2] at hv
    cases hv
    rename_i S hS
    unfold Ph.text
    rw [if_neg h4]
    exact congrArg Value.string (ba_ext hS)
  by_cases hk : p.k = 1 ∨ p.k = 2
  · have hkr : ∀ b : Bool, p.k = (if b then 2 else 1) → Rel (fun _ => none) (oneOrTwo b) (.int .i64 p.k) := fun b e => by rw [e]; exact .i _ _
    obtain ⟨b, hb⟩ : ∃ b : Bool, p.k = (if b then 2 else 1) := hk.elim (fun h => ⟨false, h⟩) (fun h => ⟨true, h⟩)
    by_cases h1 : p.pos < 0
    · refine none_ (fun f hf => ?_) (hkr b hb) (evPhNo1 b) (fun h => by have := h.2.1; omega)
      simp only [List.mem_cons, List.not_mem_nil, or_false] at hf
      subst hf
      show (if IntKind.i64 = IntKind.i64 then some (decide (p.pos < 0)) else none) = some true
      simp [h1]
    · by_cases h2 : p.place < 0
      · refine none_ (fun f hf => ?_) (hkr b hb) (evPhNo2 b) (fun h => by have := h.2.2; omega)
        simp only [List.mem_cons, List.not_mem_nil, or_false] at hf
        rcases hf with rfl | rfl
        · show (if IntKind.i64 = IntKind.i64 then some (decide (p.pos < 0)) else none) = some false
          simp [h1]
        · show (if IntKind.i64 = IntKind.i64 then some (decide (p.place < 0)) else none) = some true
          simp [h2]
      · have ho : p.ok := ⟨hk, by omega, by omega⟩
        have e : ∀ k, (phTold k).den (phRho p Ph.zero) phF = str (Lib.join [wordT k, Lib.itoa p.pos, Lib.itoa p.place, Lib.decDigits (p.t : Int).toNat, Lib.decDigits (p.x : Int).toNat, verT (p.w : Int).toNat (p.n : Int).toNat] [32]) := fun k => rfl
        have key : ∀ k, p.k = k → (phTold k).den (phRho p Ph.zero) phF = str p.text := fun k hk => by
          rw [e, Ph.text_ne ho, itoa_of ho.2.1, itoa_of ho.2.2]
          subst hk
          rfl
        rcases hk with hk | hk
        · obtain ⟨u, e1, e2⟩ := isTok_t evPhText1
          refine go (facts_ok2 ho) (by rw [hk]; exact .i _ _) e1 fun m V hv => ?_
          rw [e2] at hv
          rw [← key 1 hk]
          exact (any_rel (ρ := phRho p Ph.zero) (φ := phF) hv rfl).1
        · obtain ⟨u, e1, e2⟩ := isTok_t evPhText2
          refine go (facts_ok2 ho) (by rw [hk]; exact .i _ _) e1 fun m V hv => ?_
          rw [e2] at hv
          rw [← key 2 hk]
          exact (any_rel (ρ := phRho p Ph.zero) (φ := phF) hv rfl).1
  · refine none_ (k := .any (tI 0)) (fun f hf => ?_) (rel_tok (ρ := phRho p Ph.zero) (φ := phF) rfl (conf_i64 hn.1.1 hn.1.2)) evPhNo0 (fun h => hk h.1)
    have g1 : ¬ p.k = 1 := fun e => hk (.inl e)
    have g2 : ¬ p.k = 2 := fun e => hk (.inr e)
    simp only [List.mem_cons, List.not_mem_nil, or_false] at hf
    rcases hf with rfl | rfl
    · show (if IntKind.i64 = IntKind.i64 then some (p.k == 1) else none) = some false
      simp [g1]
    · show (if IntKind.i64 = IntKind.i64 then some (p.k == 2) else none) = some false
      simp [g2]
/-- The reference's Text. -/
theorem refPhText_any (p : Ph) (hn : p.nums) (w : World) (hL : Lq w.heap.size w) : Calls Tryz.prog 9 #[.agg p.vals.toArray] w fun e w' => e = .returned (str p.text) ∧ Below w.heap.size w w' := by
  letI : Env := envS w.heap.size w (phRho p Ph.zero) phF
  haveI : Sym (phRho p Ph.zero) phF := envS_sym _ _ _ _
  have hI : LqI := lqI_envS _ hL
  have go : ∀ {Φ k t u}, FactsOk (phRho p Ph.zero) phF Φ → Rel (fun _ => none) k (.int .i64 p.k) → evS Φ phL 9 [.a (phCells k)] = some u → (∀ m V, Rel m u.v V → V = t) → Calls Tryz.prog 9 #[.agg p.vals.toArray] w fun e w' => e = .returned t ∧ Below w.heap.size w w' := by
    intro Φ k t u h1 h2 h3 h4
    refine (evS_calls h1 (phL_at (phRho p Ph.zero) hI) h3 (phCells_rel (q := Ph.zero) hn h2) Tryz.func9 (by kernel_rfl) (by kernel_rfl) w (envS_start w _)).mono fun e w' => ?_
    rintro ⟨V, m', rfl, hv, hb⟩
    exact ⟨by rw [h4 m' V hv], hb⟩
  have none_ : ∀ {Φ k}, FactsOk (phRho p Ph.zero) phF Φ → Rel (fun _ => none) k (.int .i64 p.k) → isStr [] (evS Φ phL 9 [.a (phCells k)]) = true → ¬ p.ok → Calls Tryz.prog 9 #[.agg p.vals.toArray] w fun e w' => e = .returned (str p.text) ∧ Below w.heap.size w w' := by
    intro Φ k h1 h2 h3 h4
    obtain ⟨u, e1, e2⟩ := isStr_t h3
    refine go h1 h2 e1 fun m V hv => ?_
    rw [e2] at hv
    cases hv
    rename_i S hS
    unfold Ph.text
    rw [if_neg h4]
    exact congrArg Value.string (ba_ext hS)
  by_cases hk : p.k = 1 ∨ p.k = 2
  · have hkr : ∀ b : Bool, p.k = (if b then 2 else 1) → Rel (fun _ => none) (oneOrTwo b) (.int .i64 p.k) := fun b e => by rw [e]; exact .i _ _
    obtain ⟨b, hb⟩ : ∃ b : Bool, p.k = (if b then 2 else 1) := hk.elim (fun h => ⟨false, h⟩) (fun h => ⟨true, h⟩)
    by_cases h1 : p.pos < 0
    · refine none_ (fun f hf => ?_) (hkr b hb) (evRfNo1 b) (fun h => by have := h.2.1; omega)
      simp only [List.mem_cons, List.not_mem_nil, or_false] at hf
      subst hf
      show (if IntKind.i64 = IntKind.i64 then some (decide (p.pos < 0)) else none) = some true
      simp [h1]
    · by_cases h2 : p.place < 0
      · refine none_ (fun f hf => ?_) (hkr b hb) (evRfNo2 b) (fun h => by have := h.2.2; omega)
        simp only [List.mem_cons, List.not_mem_nil, or_false] at hf
        rcases hf with rfl | rfl
        · show (if IntKind.i64 = IntKind.i64 then some (decide (p.pos < 0)) else none) = some false
          simp [h1]
        · show (if IntKind.i64 = IntKind.i64 then some (decide (p.place < 0)) else none) = some true
          simp [h2]
      · have ho : p.ok := ⟨hk, by omega, by omega⟩
        have h3 : IntKind.u64.wrap p.pos = p.pos := wrap_u (by omega) hn.2.1.2
        have h4 : IntKind.u64.wrap p.place = p.place := wrap_u (by omega) hn.2.2.1.2
        have e : ∀ k, (refTold k).den (phRho p Ph.zero) phF = .string (⟨(wordT k ++ [32]).toArray⟩ ++ ⟨(Lib.decDigits (IntKind.u64.wrap p.pos).toNat).toArray⟩ ++ ⟨[32].toArray⟩ ++ ⟨(Lib.decDigits (IntKind.u64.wrap p.place).toNat).toArray⟩ ++ ⟨[32].toArray⟩ ++ ⟨(Lib.decDigits (p.t : Int).toNat).toArray⟩ ++ ⟨[32].toArray⟩ ++ ⟨(Lib.decDigits (p.x : Int).toNat).toArray⟩ ++ ⟨[32].toArray⟩ ++ ⟨(verT (p.w : Int).toNat (p.n : Int).toNat).toArray⟩) := fun k => rfl
        have key : ∀ k, p.k = k → (refTold k).den (phRho p Ph.zero) phF = str p.text := fun k hk => by
          rw [e, Ph.text_ne ho, h3, h4]
          subst hk
          refine congrArg Value.string (ba_ext ?_)
          simp [Ph.told, Ph.words, Lib.join_cons, Lib.joinTail, word_eq]
        rcases hk with hk | hk
        · obtain ⟨u, e1, e2⟩ := isTok_t evRfText1
          refine go (facts_ok2 ho) (by rw [hk]; exact .i _ _) e1 fun m V hv => ?_
          rw [e2] at hv
          rw [← key 1 hk]
          exact (any_rel (ρ := phRho p Ph.zero) (φ := phF) hv rfl).1
        · obtain ⟨u, e1, e2⟩ := isTok_t evRfText2
          refine go (facts_ok2 ho) (by rw [hk]; exact .i _ _) e1 fun m V hv => ?_
          rw [e2] at hv
          rw [← key 2 hk]
          exact (any_rel (ρ := phRho p Ph.zero) (φ := phF) hv rfl).1
  · have g1 : ¬ p.k = 1 := fun e => hk (.inl e)
    have g2 : ¬ p.k = 2 := fun e => hk (.inr e)
    by_cases h1 : p.k < 1
    · refine none_ (k := .any (tI 0)) (fun f hf => ?_) (rel_tok (ρ := phRho p Ph.zero) (φ := phF) rfl (conf_i64 hn.1.1 hn.1.2)) evRfNo0 (fun h => hk h.1)
      simp only [List.mem_cons, List.not_mem_nil, or_false] at hf
      subst hf
      show (if IntKind.i64 = IntKind.i64 then some (decide (p.k < 1)) else none) = some true
      simp [h1]
    · refine none_ (k := .any (tI 0)) (fun f hf => ?_) (rel_tok (ρ := phRho p Ph.zero) (φ := phF) rfl (conf_i64 hn.1.1 hn.1.2)) evRfNo3 (fun h => hk h.1)
      have h2 : 2 < p.k := by omega
      simp only [List.mem_cons, List.not_mem_nil, or_false] at hf
      rcases hf with rfl | rfl
      · show (if IntKind.i64 = IntKind.i64 then some (decide (p.k < 1)) else none) = some false
        simp [h1]
      · show (if IntKind.i64 = IntKind.i64 then some (decide (2 < p.k)) else none) = some true
        simp [h2]
end
end Go.Proofs.YtacbiajedbbnbaaGreatDoor

namespace Go.Proofs.YtacbiajedbbnbaaGreatDoor
open Go.Ev Go.RowKit Go
set_option linter.unusedVariables false
set_option linter.unusedSectionVars false
set_option linter.unusedSimpArgs false
theorem cut_le (l sep : List UInt8) : (Lib.cut l sep).1.length ≤ l.length ∧ (Lib.cut l sep).2.1.length ≤ l.length := by
  unfold Lib.cut
  split <;> simp
  omega
section
variable [Env]
theorem cut_at (ρ : Nat → Value) [Sym ρ phF] (hI : LqI) : CallAt Tryz.prog (gPure (gTu [some (7, .str 200), some (8, .str 200), none] [(false, [.str 200]), (false, [.str 1])])) 23 :=
  gTu_at (φ := phF) ρ Tryz.func23 (by kernel_rfl) (by kernel_rfl) fun vs A m w h hw => by
    obtain ⟨us, ws, V, B, rfl, rfl, ⟨V', r, rfl, ⟨s, rfl, hs⟩, rfl⟩, h4, us2, ws2, V2, B2, rfl, rfl, ⟨V3, r3, rfl, ⟨sep, rfl, hsep⟩, rfl⟩, h5, rfl, rfl⟩ := h
    cases h4; cases h5
    obtain ⟨mx, hm⟩ := (hI m w hw).mx
    refine (Tryz.strings_Cut s sep mx w (by omega) hm).mono fun e w' => ?_
    rintro ⟨rfl, n, rfl⟩
    have hl := cut_le s.data.toList sep.data.toList
    rw [ba_size] at hl
    exact ⟨[_, _, _], rfl, ⟨_, _, rfl, ⟨rfl, str_conf (by omega)⟩, _, _, rfl, ⟨rfl, str_conf (by omega)⟩, _, _, rfl, rfl, rfl⟩, below_drewN (Below.refl _ _) _⟩
theorem pu_at (ρ : Nat → Value) [Sym ρ phF] (hI : LqI) : CallAt Tryz.prog (gPure (gTuI is1064 [some (10, .int .u64), none] puP)) 24 :=
  gTuI_at (φ := phF) ρ Tryz.func24 (by kernel_rfl) (by kernel_rfl) fun args vs A m w hpre hA h hw => by
    obtain ⟨us, ws, V, B, rfl, rfl, ⟨V', r, rfl, ⟨s, rfl, hs⟩, rfl⟩, h4, us2, ws2, V2, B2, rfl, rfl, ⟨V3, r3, rfl, ⟨a, rfl, ha⟩, rfl⟩, h5, us4, ws4, V4, B4, rfl, rfl, ⟨V6, r6, rfl, ⟨b, rfl, hb⟩, rfl⟩, h6, rfl, rfl⟩ := h
    cases h4; cases h5; cases h6
    obtain ⟨rfl, rfl⟩ : a = 10 ∧ b = 64 := by
      unfold is1064 at hpre
      split at hpre
      · obtain ⟨W, A', e, r1, hA⟩ := hA.cons_inv
        simp only [List.cons.injEq] at e
        obtain ⟨rfl, rfl⟩ := e
        obtain ⟨W, A', e, r2, hA⟩ := hA.cons_inv
        simp only [List.singleton_append, List.cons.injEq] at e
        obtain ⟨rfl, rfl⟩ := e
        obtain ⟨W, A', e, r3, hA⟩ := hA.cons_inv
        simp only [List.cons.injEq] at e
        obtain ⟨rfl, rfl⟩ := e
        cases r2; cases r3
        simp only [Bool.and_eq_true] at hpre
        exact ⟨int_t hpre.1, int_t hpre.2⟩
      · cases hpre
    have hL := (hI m w hw).lv
    rcases parse_three s.data.toList with ⟨u, hp⟩ | ⟨hno, hp | hp⟩
    · refine (Tryz.strconv_ParseUint_10_at64_ok s (by omega) _ hp w).mono fun e w' => ?_
      rintro ⟨rfl, hw'⟩
      refine ⟨[_, _], rfl, ⟨_, _, rfl, ⟨?_, ⟨_, rfl, u64_has _ (numB_of_ok hp).1⟩⟩, _, _, rfl, rfl, rfl⟩, ?_⟩
      · show _ = Value.int .u64 (puV s.data.toList)
        unfold puV; rw [hp]
      · rcases hw' with rfl | rfl
        · exact Below.refl _ _
        · exact Lib.bytesWorld_below _ _ _
    · obtain ⟨tp, p, hs'⟩ := hL.rng
      refine (Tryz.strconv_ParseUint_10_at64_range_var s (by omega) hp tp p w hs').mono fun e w' => ?_
      rintro ⟨N, rfl, _, _, hb⟩
      refine ⟨[_, _], rfl, ⟨_, _, rfl, ⟨?_, ⟨_, rfl, by simp [IntKind.has, IntKind.min, IntKind.max, IntKind.signed, IntKind.bits]⟩⟩, _, _, rfl, rfl, rfl⟩, hb⟩
      show _ = Value.int .u64 (puV s.data.toList)
      unfold puV; rw [hp]; rfl
    · obtain ⟨tp, p, hs'⟩ := hL.syn
      refine (Tryz.strconv_ParseUint_10_at64_syntax_var s (by omega) hp tp p w hs').mono fun e w' => ?_
      rintro ⟨N, rfl, _, _, hb⟩
      refine ⟨[_, _], rfl, ⟨_, _, rfl, ⟨?_, ⟨_, rfl, by simp [IntKind.has, IntKind.min, IntKind.max, IntKind.signed, IntKind.bits]⟩⟩, _, _, rfl, rfl, rfl⟩, hb⟩
      show _ = Value.int .u64 (puV s.data.toList)
      unfold puV; rw [hp]; rfl
theorem atoi_three (l : List UInt8) : (∃ u, Lib.atoiAll l = .ok u) ∨ Lib.atoiAll l = .range ∨ Lib.atoiAll l = Lib.atoiAll [] := by
  cases h : Lib.atoiAll l with
  | ok u => exact .inl ⟨u, rfl⟩
  | range => exact .inr (.inl rfl)
  | _ => exact .inr (.inr rfl)
theorem atoi_at (ρ : Nat → Value) [Sym ρ phF] (hI : LqI) : CallAt Tryz.prog (gPure (gTu [some (11, .int .i64), none] [(false, [.str 200])])) 25 :=
  gTu_at (φ := phF) ρ Tryz.func25 (by kernel_rfl) (by kernel_rfl) fun vs A m w h hw => by
    obtain ⟨s, hs, rfl, rfl⟩ := one_str h
    have hL := (hI m w hw).lv
    have hsat := Lib.atoiSat_bounds s.data.toList
    rcases atoi_three s.data.toList with ⟨u, hp⟩ | hp | hp
    · refine (Tryz.strconv_Atoi_ok s (by omega) _ hp w).mono fun e w' => ?_
      rintro ⟨rfl, hw'⟩
      have hbd := Lib.atoiAll_bounds hp
      refine ⟨[_, _], rfl, ⟨_, _, rfl, ⟨?_, ⟨_, rfl, i64_has hbd.1 hbd.2⟩⟩, _, _, rfl, rfl, rfl⟩, ?_⟩
      · show _ = Value.int .i64 (atoiV s.data.toList)
        unfold atoiV; rw [hp]
      · rcases hw' with rfl | ⟨t, rfl⟩
        · exact Below.refl _ _
        · exact Lib.bytesWorld_below _ _ _
    · obtain ⟨tp, p, hs'⟩ := hL.rng
      refine (Tryz.strconv_Atoi_range_var s (by omega) hp tp p w hs').mono fun e w' => ?_
      rintro ⟨N, rfl, _, _, hb⟩
      refine ⟨[_, _], rfl, ⟨_, _, rfl, ⟨?_, ⟨_, rfl, i64_has hsat.1 hsat.2⟩⟩, _, _, rfl, rfl, rfl⟩, hb⟩
      show _ = Value.int .i64 (atoiV s.data.toList)
      unfold atoiV; rw [hp]
    · obtain ⟨tp, p, hs'⟩ := hL.syn
      refine (Tryz.strconv_Atoi_syntax_var s (by omega) hp tp p w hs').mono fun e w' => ?_
      rintro ⟨N, rfl, _, _, hb⟩
      refine ⟨[_, _], rfl, ⟨_, _, rfl, ⟨?_, ⟨_, rfl, by simp [IntKind.has, IntKind.min, IntKind.max, IntKind.signed, IntKind.bits]⟩⟩, _, _, rfl, rfl, rfl⟩, hb⟩
      show _ = Value.int .i64 (atoiV s.data.toList)
      unfold atoiV; rw [hp]; rfl
theorem seven {vs A : List Value} (h : ArgsR phP vs A) : ∃ p : Ph, p.nums ∧ vs = p.vals ∧ A = [.agg p.vals.toArray] := by
  obtain ⟨us, ws, V, B, rfl, rfl, ⟨V0, r0, rfl, ⟨k, rfl, hk⟩, V1, r1, rfl, ⟨a, rfl, ha⟩, V2, r2, rfl, ⟨b, rfl, hb⟩, V3, r3, rfl, ⟨c, rfl, hc⟩, V4, r4, rfl, ⟨d, rfl, hd⟩, V5, r5, rfl, ⟨e, rfl, he⟩, V6, r6, rfl, ⟨f, rfl, hf⟩, rfl⟩, rfl, rfl, rfl⟩ := h
  have hc := has_u64 hc; have hd := has_u64 hd; have he := has_u64 he; have hf := has_u64 hf
  obtain ⟨c, rfl⟩ := Int.eq_ofNat_of_zero_le hc.1
  obtain ⟨d, rfl⟩ := Int.eq_ofNat_of_zero_le hd.1
  obtain ⟨e, rfl⟩ := Int.eq_ofNat_of_zero_le he.1
  obtain ⟨f, rfl⟩ := Int.eq_ofNat_of_zero_le hf.1
  exact ⟨⟨k, a, b, c, d, e, f⟩, ⟨has_i64 hk, has_i64 ha, has_i64 hb, (by dsimp only; omega), (by dsimp only; omega), (by dsimp only; omega), (by dsimp only; omega)⟩, rfl, rfl⟩
theorem Ph.text_le (p : Ph) (hn : p.nums) : p.text.length ≤ 424 := by
  unfold Ph.text
  split
  · rename_i ho
    obtain ⟨b0, b1, b2, b3, b4, b5, b6⟩ := hn
    have h1 := decDigits_le20 p.pos.toNat (by omega)
    have h2 := decDigits_le20 p.place.toNat (by omega)
    have h3 := decDigits_le20 p.t b3
    have h4 := decDigits_le20 p.x b4
    have h5 := verT_le b5 b6
    have h6 : (phWord p.k).length ≤ 12 := by unfold phWord; split <;> simp
    simp [Ph.told, Ph.words, Lib.join_cons, Lib.joinTail]
    omega
  · simp
theorem phF12 (p : Ph) : phF 12 p.vals = str p.text := by
  obtain ⟨k, a, b, c, d, e, f⟩ := p
  show str (Ph.text ⟨k, a, b, (c : Int).toNat, (d : Int).toNat, (e : Int).toNat, (f : Int).toNat⟩) = _
  simp
theorem text_at (ρ : Nat → Value) [Sym ρ phF] (hI : LqI) : CallAt Tryz.prog (gPure (gAp 12 (.str 424) phP)) 6 :=
  gAp_at (φ := phF) ρ Tryz.func6 (by kernel_rfl) (by kernel_rfl) fun vs A m w h hw => by
    obtain ⟨p, hn, rfl, rfl⟩ := seven h
    rw [phF12]
    exact ⟨phText_any p hn w (hI m w hw), str_conf (p.text_le hn)⟩
theorem refText_at (ρ : Nat → Value) [Sym ρ phF] (hI : LqI) : CallAt Tryz.prog (gPure (gAp 12 (.str 424) phP)) 9 :=
  gAp_at (φ := phF) ρ Tryz.func9 (by kernel_rfl) (by kernel_rfl) fun vs A m w h hw => by
    obtain ⟨p, hn, rfl, rfl⟩ := seven h
    rw [phF12]
    exact ⟨refPhText_any p hn w (hI m w hw), str_conf (p.text_le hn)⟩
end
end Go.Proofs.YtacbiajedbbnbaaGreatDoor

namespace Go.Proofs.YtacbiajedbbnbaaGreatDoor
open Go.Ev Go.RowKit Go
set_option linter.unusedVariables false
set_option linter.unusedSectionVars false
set_option linter.unusedSimpArgs false
def phRes : Option Ph → Value
  | some p => .tuple #[.agg p.vals.toArray, .int .i64 0]
  | none => .tuple #[.agg Ph.zero.vals.toArray, .int .i64 70]
/-- The unknown values: the text, its words, the words of a version. -/
def rdRho (s : ByteArray) (W X : List (List UInt8)) (n : Nat) : Value := if n = 20 then .string s else if 300 ≤ n then (strs X).getD (n - 300) undef else (strs W).getD (n - 30) undef
section
variable {s : ByteArray} {W X : List (List UInt8)}
theorem den_tS : tS.den (rdRho s W X) phF = .string s := rfl
theorem den_tW {i : Nat} (h : i < 270) {x : List UInt8} (hx : W[i]? = some x) : (tW i).den (rdRho s W X) phF = str x := by
  show rdRho s W X (30 + i) = _
  unfold rdRho
  rw [if_neg (by omega), if_neg (by omega), show 30 + i - 30 = i from by omega]
  simp [strs, List.getD, hx, str]
theorem den_vW {i : Nat} {x : List UInt8} (hx : X[i]? = some x) : (vW i).den (rdRho s W X) phF = str x := by
  show rdRho s W X (300 + i) = _
  unfold rdRho
  rw [if_neg (by omega), if_pos (by omega), show 300 + i - 300 = i from by omega]
  simp [strs, List.getD, hx, str]
theorem ws_den {w0 : Tok} (hW : W.length ≤ 202) (h0 : ∀ x, W[0]? = some x → w0.den (rdRho s W X) phF = str x) : (ws w0 W.length).map (·.den (rdRho s W X) phF) = strs W := by
  apply List.ext_getElem?
  intro i
  rw [List.getElem?_map]
  cases hl : W with
  | nil => simp [ws, strs]
  | cons x r =>
    rw [List.length_cons]
    simp only [ws]
    cases i with
    | zero => simp only [List.getElem?_cons_zero, Option.map_some, strs, List.map_cons]; rw [← hl, h0 x (by rw [hl]; rfl)]; rfl
    | succ i =>
      simp only [List.getElem?_cons_succ, List.getElem?_map, strs, List.map_cons]
      by_cases hi : i < r.length
      · rw [List.getElem?_range hi, List.getElem?_eq_getElem hi]
        simp only [Option.map_some]
        rw [← hl, den_tW (by rw [hl] at hW; simp at hW; omega) (x := r[i]) (by rw [hl]; simp [hi])]
        rfl
      · rw [List.getElem?_eq_none (by simp; omega), List.getElem?_eq_none (by omega)]; rfl
theorem vs_den : (vs X.length).map (·.den (rdRho s W X) phF) = strs X := by
  apply List.ext_getElem?
  intro i
  simp only [vs, List.map_map, List.getElem?_map, strs]
  by_cases hi : i < X.length
  · rw [List.getElem?_range hi, List.getElem?_eq_getElem hi]
    simp only [Option.map_some, Function.comp]
    rw [den_vW (x := X[i]) (List.getElem?_eq_getElem hi)]
    rfl
  · rw [List.getElem?_eq_none (by simp; omega), List.getElem?_eq_none (by omega)]; rfl
theorem ws_conf {w0 : Tok} (hW : W.length ≤ 202) (hle : ∀ x ∈ W, x.length ≤ 200) (h0 : W ≠ [] → conf w0.srt (w0.den (rdRho s W X) phF)) : ∀ t ∈ ws w0 W.length, conf t.srt (t.den (rdRho s W X) phF) := by
  intro t ht
  cases hl : W with
  | nil => rw [hl] at ht; simp [ws] at ht
  | cons x r =>
    have ht' := ht
    rw [hl, List.length_cons] at ht'
    simp only [ws, List.mem_cons, List.mem_map, List.mem_range] at ht'
    rcases ht' with rfl | ⟨i, hi, rfl⟩
    · rw [← hl]; exact h0 (by rw [hl]; simp)
    · rw [← hl]
      have hx : W[i + 1]? = some r[i] := by rw [hl]; simp [hi]
      rw [den_tW (by rw [hl] at hW; simp at hW; omega) hx]
      exact str_conf (hle _ (List.mem_of_getElem? hx))
theorem vs_conf (hle : ∀ x ∈ X, x.length ≤ 200) : ∀ t ∈ vs X.length, conf t.srt (t.den (rdRho s W X) phF) := by
  intro t ht
  simp only [vs, List.mem_map, List.mem_range] at ht
  obtain ⟨i, hi, rfl⟩ := ht
  have hx : X[i]? = some X[i] := List.getElem?_eq_getElem hi
  rw [den_vW hx]
  exact str_conf (hle _ (List.mem_of_getElem? hx))
end
theorem strs_len {l : List Tok} {ρ : Nat → Value} {φ : Nat → List Value → Value} {q : List (List UInt8)} (h : l.map (·.den ρ φ) = strs q) : l.length = q.length := by
  have := congrArg List.length h
  simpa [strs_length] using this
section
variable [Env]
theorem split_at (ρ : Nat → Value) [Sym ρ phF] (hI : LqI) {s : ByteArray} {l : List Tok} (hs : s.size ≤ 200) (e1 : tS.den ρ phF = .string s) (e2 : l.map (·.den ρ phF) = strs (cuts 32 s.data.toList)) (hc : ∀ t ∈ l, conf t.srt (t.den ρ phF)) : CallAt Tryz.prog (gRow 9 [([tS, sBl], l)]) 21 := by
  refine gRow_at (ρ := ρ) (φ := phF) Tryz.func21 (by kernel_rfl) (by kernel_rfl) (by kernel_rfl) fun p hp => ?_
  simp only [List.mem_cons, List.not_mem_nil, or_false] at hp
  subst hp
  refine ⟨hc, fun m w hw => ?_⟩
  have hl := strs_len e2
  show Calls Tryz.prog 21 #[tS.den ρ phF, .string ⟨#[32]⟩] w _
  rw [e1]
  refine (split_any 32 s w (by omega) (hI m w hw)).mono fun e w' => ?_
  rintro ⟨rfl, rfl⟩
  refine ⟨w.heap.size, (cuts 32 s.data.toList).length, (strs (cuts 32 s.data.toList)).toArray, by rw [hl], Nat.le_refl _, heap_alloc_at _ _ _ rfl, by simp [strs_length], (by show l.length ≤ _; omega), fun i V h => ?_, (Below.refl _ _).alloc (Nat.le_refl _) _⟩
  rw [e2] at h
  simpa using h
theorem cuts_at' (ρ : Nat → Value) [Sym ρ phF] {s u : ByteArray} {l : List Tok} {o : Option (List Tok)} (hs : s.size ≤ 200) (hu : u.size ≤ 200) (e1 : tS.den ρ phF = .string s) (e2 : l.map (·.den ρ phF) = strs (cuts 32 s.data.toList)) (hc : ∀ t ∈ l, conf t.srt (t.den ρ phF))
    (ho : ∀ m, o = some m → (tW 5).den ρ phF = .string u ∧ m.map (·.den ρ phF) = strs (cuts 46 u.data.toList) ∧ ∀ t ∈ m, conf t.srt (t.den ρ phF)) : CallAt Tryz.prog (gRow 9 (match o with | none => [([tS, cBl], l)] | some m => [([tS, cBl], l), ([tW 5, cDot], m)])) 26 := by
  have key : ∀ (c : UInt8) (s : ByteArray) (l : List Tok), s.size ≤ 200 → l.map (·.den ρ phF) = strs (cuts c s.data.toList) → ∀ w : World, Calls Tryz.prog 26 #[.string s, .int .u8 c.toNat] w fun e w' => ∃ g cap C, e = .returned (.slice (some ⟨g, 0, none⟩) l.length cap) ∧ w.heap.size ≤ g ∧ w'.heap[g]? = some (.cells C 9 (0, 0)) ∧ C.size = cap ∧ l.length ≤ cap ∧
      (∀ (i : Nat) (V : Value), (l.map (·.den ρ phF))[i]? = some V → C[i]? = some V) ∧ Below w.heap.size w w' := by
    intro c s l hs he w
    have hl := strs_len he
    have hne : 0 < (cuts c s.data.toList).length := List.length_pos_iff.2 (cuts_ne _ _)
    refine (refCuts_any c s w (by omega)).mono fun e w' => ?_
    rintro ⟨v, rfl, ⟨h1, h⟩, hb⟩
    rcases h with ⟨_, h2⟩ | ⟨g, cap, cur, rfl, hb1, hg, hn, hm, hz, ht⟩
    · omega
    · refine ⟨g, cap, cur, by rw [hl], hb1, hg, by omega, by omega, fun i V hi => ?_, hb⟩
      rw [he, ← ht, List.getElem?_take] at hi
      split at hi
      · simpa using hi
      · cases hi
  refine gRow_at (ρ := ρ) (φ := phF) Tryz.func26 (by kernel_rfl) (by kernel_rfl) (by kernel_rfl) fun p hp => ?_
  have hp : p = ([tS, cBl], l) ∨ p ∈ (match o with | none => [] | some m => [([tW 5, cDot], m)]) := by
    cases o <;> simpa using hp
  rcases hp with rfl | hp
  · refine ⟨hc, fun m w hw => ?_⟩
    show Calls Tryz.prog 26 #[tS.den ρ phF, .int .u8 32] w _
    rw [e1]
    exact key 32 s l hs e2 w
  · cases o with
    | none => simp at hp
    | some m =>
      simp only [List.mem_cons, List.not_mem_nil, or_false] at hp
      subst hp
      obtain ⟨e3, e4, hd⟩ := ho m rfl
      refine ⟨hd, fun m w hw => ?_⟩
      show Calls Tryz.prog 26 #[(tW 5).den ρ phF, .int .u8 46] w _
      rw [e3]
      exact key 46 u _ hu e4 w
theorem sameCs_rel {ρ : Nat → Value} [Sym ρ phF] {m : Mp} : ∀ {l : List Tok} {xs : List AV} {A : List Value}, sameCs l xs = true → RelL m xs A → A = l.map (·.den ρ phF)
  | [], [], A, _, hA => hA.nil_inv
  | [], _ :: _, A, h, _ => by simp [sameCs] at h
  | _ :: _, [], A, h, _ => by simp [sameCs] at h
  | t :: ts, x :: xs, A, h, hA => by
    obtain ⟨V, B, rfl, h1, h2⟩ := hA.cons_inv
    simp only [sameCs] at h
    split at h
    · rename_i a ha
      simp only [Bool.and_eq_true] at h
      have e := tok_t h.1
      subst e
      rw [(tok_rel (ρ := ρ) (φ := phF) h1 ha).1, sameCs_rel (ρ := ρ) h.2 h2]; rfl
    · cases h
/-- What a run that reads so answers. -/
theorem isRead_calls {ρ : Nat → Value} [Sym ρ phF] {Φ : List Fact} {L : List (FuncId × Cl)} {f : FuncId} {l : List Tok} {n : Int} {s : ByteArray} (hΦ : FactsOk ρ phF Φ) (hl : ∀ p ∈ L, CallAt Tryz.prog p.2 p.1) (h : isRead l n (evS Φ L f [.any tS]) = true) (e1 : tS.den ρ phF = .string s) (hs : s.size ≤ 200)
    {fn : Func} (hf : Tryz.prog.funcs[f]? = some fn) (hbd : fn.body.isSome = true) (hok : callOk fn = true) (w : World) (hI : Env.I (fun _ => none) w) : Calls Tryz.prog f #[.string s] w fun e w' => e = .returned (.tuple #[.agg (l.map (·.den ρ phF)).toArray, .int .i64 n]) ∧ Below w.heap.size w w' := by
  generalize hu : evS Φ L f [.any tS] = r at h
  unfold isRead at h
  split at h
  · rename_i u
    split at h
    · rename_i vs hv
      split at h
      · split at h
        · rename_i xs
          split at h
          · rename_i k a
            simp only [Bool.and_eq_true, decide_eq_true_eq] at h
            obtain ⟨⟨rfl, h1⟩, h2⟩ := h
            have h2 := int_t h2
            subst h2
            refine (evS_calls hΦ hl hu (.cons (rel_tok (ρ := ρ) (φ := phF) e1.symm ⟨s, rfl, hs⟩) (.nil _)) hf hbd hok w hI).mono fun e w' => ?_
            rintro ⟨V, m', rfl, hV, hb⟩
            rw [hv] at hV
            cases hV
            rename_i T t1 t2
            obtain ⟨V0, B, eT, r1, hB⟩ := RelL.cons_inv (m := m') (l := [.i .i64 a]) (v := .a xs) ⟨t1, t2⟩
            obtain ⟨V1, B1, rfl, r2, hB1⟩ := hB.cons_inv
            have := hB1.nil_inv; subst this
            cases r2
            cases r1
            rename_i C c1 c2
            have hC := sameCs_rel (ρ := ρ) h1 ⟨c1, c2⟩
            have eT' : T = #[.agg C, .int .i64 a] := by rw [← eT]
            exact ⟨by rw [eT', ← hC], hb⟩
          · cases h
        · cases h
      · cases h
    · cases h
  · cases h
end
theorem nOther_at {f : Nat → Bool} (h : nOther f = true) {n : Nat} (h1 : n < 202) (h0 : n ≠ 0) (h6 : n ≠ 6) : f n = true := by
  have := List.all_eq_true.1 h n (List.mem_range.2 h1)
  simp only [Bool.or_eq_true] at this
  rcases this with (e | e) | e
  · exact absurd (Nat.eq_of_beq_eq_true e) h0
  · exact absurd (Nat.eq_of_beq_eq_true e) h6
  · exact e
theorem mOther_at {f : Nat → Bool} (h : mOther f = true) {n : Nat} (h1 : n < 202) (h0 : n ≠ 0) (h6 : n ≠ 2) : f n = true := by
  have := List.all_eq_true.1 h n (List.mem_range.2 h1)
  simp only [Bool.or_eq_true] at this
  rcases this with (e | e) | e
  · exact absurd (Nat.eq_of_beq_eq_true e) h0
  · exact absurd (Nat.eq_of_beq_eq_true e) h6
  · exact e
theorem atoiIs (l : List UInt8) : AtoiIs l (atoiV l) := by
  have hsat := Lib.atoiSat_bounds l
  unfold atoiV
  cases h : Lib.atoiAll l with
  | ok v => have hb := Lib.atoiAll_bounds h; exact ⟨hb.1, hb.2, .inl h⟩
  | range => exact ⟨hsat.1, hsat.2, .inr fun n e => by rw [h] at e; cases e⟩
  | _ => exact ⟨(by dsimp only; omega), (by dsimp only; omega), .inr fun n e => by rw [h] at e; cases e⟩
theorem puIs (l : List UInt8) : PuIs l (puV l) := by
  unfold puV
  cases h : Lib.parseUintB 64 l with
  | ok v => exact ⟨(numB_of_ok h).1, .inl h⟩
  | range => exact ⟨(by dsimp only; omega), .inr fun n e => by rw [h] at e; cases e⟩
  | _ => exact ⟨(by dsimp only; omega), .inr fun n e => by rw [h] at e; cases e⟩
theorem two_of {α : Type} {l : List α} (h : l.length = 2) : ∃ a b, l = [a, b] := by
  match l, h with
  | [a, b], _ => exact ⟨a, b, rfl⟩
theorem six_of {α : Type} {l : List α} (h : l.length = 6) : ∃ a b c d e f, l = [a, b, c, d, e, f] := by
  match l, h with
  | [a, b, c, d, e, f], _ => exact ⟨a, b, c, d, e, f, rfl⟩
theorem rdL_at [Env] (ρ : Nat → Value) [Sym ρ phF] (hI : LqI) {s : ByteArray} {l : List Tok} (hs : s.size ≤ 200) (e1 : tS.den ρ phF = .string s) (e2 : l.map (·.den ρ phF) = strs (cuts 32 s.data.toList)) (hc : ∀ t ∈ l, conf t.srt (t.den ρ phF)) : ∀ p ∈ rdL l, CallAt Tryz.prog p.2 p.1 := by
  intro p hp
  simp only [rdL, List.mem_cons, List.not_mem_nil, or_false] at hp
  rcases hp with rfl | rfl | rfl | rfl | rfl
  · exact split_at ρ hI hs e1 e2 hc
  · exact cut_at ρ hI
  · exact pu_at ρ hI
  · exact atoi_at ρ hI
  · exact text_at ρ hI
theorem phKind_wordT (k : Int) (h : k = 1 ∨ k = 2) : phKind (wordT k) = k := phKind_word h
theorem str_inj {l : List UInt8} {s : ByteArray} (h : l = s.data.toList) : str l = .string s := congrArg Value.string (ba_ext (by simp [h]))
theorem eqHolds (l m : List UInt8) : Cm.eq.holds (str l) (str m) = some (l == m) := by simp [Cm.holds, str]
theorem eqHolds' (l : List UInt8) (s : ByteArray) : Cm.eq.holds (str l) (.string s) = some (l == s.data.toList) := by simp [Cm.holds, str]
theorem zero_vals (ρ : Nat → Value) : (phZero.map (·.den ρ phF)).toArray = Ph.zero.vals.toArray := rfl
/-- Read reads what is the document's. -/
theorem phRead_any (s : ByteArray) (hs : s.size ≤ 200) (w : World) (hL : Lq w.heap.size w) : Calls Tryz.prog 7 #[.string s] w fun e w' => e = .returned (phRes (phRead s.data.toList)) ∧ Below w.heap.size w w' := by
  obtain ⟨W, hW⟩ : ∃ W, W = cuts 32 s.data.toList := ⟨_, rfl⟩
  have hlen : W.length ≤ 201 := by have := cuts_length_le 32 s.data.toList; rw [ba_size] at this; rw [hW]; omega
  have hle : ∀ x ∈ W, x.length ≤ 200 := fun x hx => by have := cuts_mem_length 32 s.data.toList x (by rw [← hW]; exact hx); rw [ba_size] at this; omega
  letI : Env := envS w.heap.size w (rdRho s W []) phF
  haveI : Sym (rdRho s W []) phF := envS_sym _ _ _ _
  have hI : LqI := lqI_envS _ hL
  have go : ∀ {Φ : List Fact} {w0 : Tok} {l : List Tok} {c : Int} {o : Option Ph}, FactsOk (rdRho s W []) phF Φ → (∀ x, W[0]? = some x → w0.den (rdRho s W []) phF = str x ∧ conf w0.srt (str x)) → isRead l c (evS Φ (rdL (ws w0 W.length)) 7 [.any tS]) = true →
      (Value.tuple #[.agg (l.map (·.den (rdRho s W []) phF)).toArray, .int .i64 c] = phRes o) → phRead s.data.toList = o → Calls Tryz.prog 7 #[.string s] w fun e w' => e = .returned (phRes (phRead s.data.toList)) ∧ Below w.heap.size w w' := by
    intro Φ w0 l c o h1 h2 h3 h4 h5
    rw [h5, ← h4]
    refine isRead_calls h1 (rdL_at (rdRho s W []) hI hs rfl ?_ ?_) h3 rfl hs Tryz.func7 (by kernel_rfl) (by kernel_rfl) w (envS_start w _)
    · rw [← hW]; exact ws_den (by omega) fun x hx => (h2 x hx).1
    · refine ws_conf (by omega) hle fun hne => ?_
      cases hq : W with
      | nil => exact absurd hq hne
      | cons x r => rw [← hq]; rw [(h2 x (by rw [hq]; rfl)).1]; exact (h2 x (by rw [hq]; rfl)).2
  have none_ : ∀ {Φ : List Fact} {w0 : Tok}, FactsOk (rdRho s W []) phF Φ → (∀ x, W[0]? = some x → w0.den (rdRho s W []) phF = str x ∧ conf w0.srt (str x)) → isRead phZero 70 (evS Φ (rdL (ws w0 W.length)) 7 [.any tS]) = true → phRead s.data.toList = none → Calls Tryz.prog 7 #[.string s] w fun e w' => e = .returned (phRes (phRead s.data.toList)) ∧ Below w.heap.size w w' :=
    fun h1 h2 h3 h4 => go h1 h2 h3 rfl h4
  have hne : W ≠ [] := by rw [hW]; exact cuts_ne _ _
  have h0 : W.length ≠ 0 := fun e => hne (List.length_eq_zero_iff.1 e)
  have word : ∀ k : Int, (k = 1 ∨ k = 2) → W[0]? = some (wordT k) → ∀ x, W[0]? = some x → (Tok.s (wordT k)).den (rdRho s W []) phF = str x ∧ conf (Tok.s (wordT k)).srt (str x) := fun k hk h x hx => by
    rw [h] at hx; cases hx
    exact ⟨rfl, str_conf (Nat.le_refl _)⟩
  have no6 : W.length ≠ 6 → phRead s.data.toList = none := fun h => phRead_words (.inl (by rw [← hW]; exact h))
  have six : ∀ k : Int, (k = 1 ∨ k = 2) → W[0]? = some (wordT k) → W.length = 6 → ∃ p : Ph, (rdC (.i .i64 k)).map (·.den (rdRho s W []) phF) = p.vals ∧ (rdT (.i .i64 k)).den (rdRho s W []) phF = str p.text ∧ phRead s.data.toList = if p.text = s.data.toList then some p else none := by
    intro k hk h h6
    obtain ⟨l0, l1, l2, l3, l4, l5, hq⟩ := six_of h6
    rw [hq] at h
    simp only [List.getElem?_cons_zero, Option.some.injEq] at h
    subst h
    have d : ∀ i x, W[i]? = some x → i < 270 → (tW i).den (rdRho s W []) phF = str x := fun i x hx hi => den_tW hi hx
    have d1 := d 1 l1 (by rw [hq]; rfl) (by omega)
    have d2 := d 2 l2 (by rw [hq]; rfl) (by omega)
    have d3 := d 3 l3 (by rw [hq]; rfl) (by omega)
    have d4 := d 4 l4 (by rw [hq]; rfl) (by omega)
    have d5 := d 5 l5 (by rw [hq]; rfl) (by omega)
    have hv : (rdC (.i .i64 k)).map (·.den (rdRho s W []) phF) = Ph.vals ⟨k, atoiV l1, atoiV l2, puV l3, puV l4, puV (Lib.cut l5 [46]).1, puV (Lib.cut l5 [46]).2.1⟩ := by
      show [Value.int .i64 k, phF 11 [(tW 1).den (rdRho s W []) phF], phF 11 [(tW 2).den (rdRho s W []) phF], phF 10 [(tW 3).den (rdRho s W []) phF, .int .i64 10, .int .i64 64], phF 10 [(tW 4).den (rdRho s W []) phF, .int .i64 10, .int .i64 64], phF 10 [phF 7 [(tW 5).den (rdRho s W []) phF, str [46]], .int .i64 10, .int .i64 64], phF 10 [phF 8 [(tW 5).den (rdRho s W []) phF, str [46]], .int .i64 10, .int .i64 64]] = _
      rw [d1, d2, d3, d4, d5]; rfl
    refine ⟨_, hv, ?_, ?_⟩
    · show phF 12 ((rdC (.i .i64 k)).map (·.den (rdRho s W []) phF)) = _
      rw [hv, phF12]
    · exact phRead_cand (hW ▸ hq) (phKind_wordT k hk) (atoiIs _) (atoiIs _) (puIs _) (puIs _) (puIs _) (puIs _)
  have found : ∀ k : Int, (k = 1 ∨ k = 2) → W[0]? = some (wordT k) → W.length = 6 → (∀ b : Bool, isRead (if b then rdC (.i .i64 k) else phZero) (if b then 0 else 70) (evS [⟨.eq, rdT (.i .i64 k), tS, b⟩] (rdL (ws (.s (wordT k)) 6)) 7 [.any tS]) = true) →
      Calls Tryz.prog 7 #[.string s] w fun e w' => e = .returned (phRes (phRead s.data.toList)) ∧ Below w.heap.size w w' := by
    intro k hk h h6 hev
    obtain ⟨p, q1, q2, q3⟩ := six k hk h h6
    have hev := hev (p.text == s.data.toList)
    rw [← h6] at hev
    refine go (fun f hf => ?_) (word k hk h) hev (o := if p.text = s.data.toList then some p else none) ?_ q3
    · simp only [List.mem_cons, List.not_mem_nil, or_false] at hf
      subst hf
      show Cm.eq.holds ((rdT (.i .i64 k)).den (rdRho s W []) phF) (.string s) = _
      rw [q2, eqHolds']
    · by_cases ht : p.text = s.data.toList
      · rw [if_pos ht, ht]
        simp only [beq_self_eq_true, if_true, phRes]
        rw [q1]
      · have : (p.text == s.data.toList) = false := by simpa using ht
        rw [if_neg ht, this]; rfl
  cases hq : W with
  | nil => exact absurd hq hne
  | cons x r =>
    have hx : W[0]? = some x := by rw [hq]; rfl
    by_cases e1 : x = wordT 1
    · rw [e1] at hx
      by_cases h6 : W.length = 6
      · exact found 1 (.inl rfl) hx h6 evRead1
      · exact none_ (fun f hf => by cases hf) (word 1 (.inl rfl) hx) (nOther_at evReadN1 (by omega) h0 h6) (no6 h6)
    · by_cases e2 : x = wordT 2
      · rw [e2] at hx
        by_cases h6 : W.length = 6
        · exact found 2 (.inr rfl) hx h6 evRead2
        · exact none_ (fun f hf => by cases hf) (word 2 (.inr rfl) hx) (nOther_at evReadN2 (by omega) h0 h6) (no6 h6)
      · have hd : (tW 0).den (rdRho s W []) phF = str x := den_tW (by omega) hx
        have hno : FactsOk (rdRho s W []) phF noWord := by
          intro f hf
          simp only [noWord, List.mem_cons, List.not_mem_nil, or_false] at hf
          rcases hf with rfl | rfl
          · show Cm.eq.holds (str (wordT 1)) ((tW 0).den (rdRho s W []) phF) = some false
            rw [hd, eqHolds]; simp; exact fun e => e1 e.symm
          · show Cm.eq.holds (str (wordT 2)) ((tW 0).den (rdRho s W []) phF) = some false
            rw [hd, eqHolds]; simp; exact fun e => e2 e.symm
        have hw0 : ∀ y, W[0]? = some y → (tW 0).den (rdRho s W []) phF = str y ∧ conf (tW 0).srt (str y) := fun y hy => by
          rw [hx] at hy; cases hy
          exact ⟨hd, str_conf (hle _ (by rw [hq]; simp))⟩
        have hk : phRead s.data.toList = none := phRead_words (.inr ⟨x, r, by rw [← hW]; exact hq, by unfold phKind; exact (if_neg e1).trans (if_neg e2)⟩)
        by_cases h6 : W.length = 6
        · have := evReadNo6
          rw [← h6] at this
          exact none_ hno hw0 this hk
        · exact none_ hno hw0 (nOther_at evReadN0 (by omega) h0 h6) hk
end Go.Proofs.YtacbiajedbbnbaaGreatDoor

namespace Go.Proofs.YtacbiajedbbnbaaGreatDoor
open Go.Ev Go.RowKit Go
set_option linter.unusedVariables false
set_option linter.unusedSectionVars false
set_option linter.unusedSimpArgs false
theorem rfL_at [Env] (ρ : Nat → Value) [Sym ρ phF] (hI : LqI) {s u : ByteArray} {n : Nat} {o : Option Nat} (hs : s.size ≤ 200) (hu : u.size ≤ 200) (e1 : tS.den ρ phF = .string s) (e2 : (ws (tW 0) n).map (·.den ρ phF) = strs (cuts 32 s.data.toList)) (hc : ∀ t ∈ ws (tW 0) n, conf t.srt (t.den ρ phF))
    (ho : ∀ m, o = some m → (tW 5).den ρ phF = .string u ∧ (vs m).map (·.den ρ phF) = strs (cuts 46 u.data.toList) ∧ ∀ t ∈ vs m, conf t.srt (t.den ρ phF)) : ∀ p ∈ rfL n o, CallAt Tryz.prog p.2 p.1 := by
  intro p hp
  simp only [rfL, List.mem_cons, List.not_mem_nil, or_false] at hp
  rcases hp with rfl | rfl | rfl
  · have := cuts_at' ρ (o := o.map vs) hs hu e1 e2 hc (fun m hm => by
      cases o with
      | none => cases hm
      | some k => cases hm; exact ho k rfl)
    cases o <;> exact this
  · exact value_at ρ
  · exact refText_at ρ hI
theorem wrap_i (n : Nat) : Value.int .i64 (IntKind.i64.wrap (n : Int)) = cvI .i64 (.int .u64 n) := rfl
theorem refPhRead_any (s : ByteArray) (hs : s.size ≤ 200) (w : World) (hL : Lq w.heap.size w) : Calls Tryz.prog 8 #[.string s] w fun e w' => e = .returned (phRes (phRead s.data.toList)) ∧ Below w.heap.size w w' := by
  obtain ⟨W, hW⟩ : ∃ W, W = cuts 32 s.data.toList := ⟨_, rfl⟩
  have hlen : W.length ≤ 201 := by have := cuts_length_le 32 s.data.toList; rw [ba_size] at this; rw [hW]; omega
  have hle : ∀ x ∈ W, x.length ≤ 200 := fun x hx => by have := cuts_mem_length 32 s.data.toList x (by rw [← hW]; exact hx); rw [ba_size] at this; omega
  have h0 : W.length ≠ 0 := fun e => by rw [hW] at e; exact cuts_ne _ _ (List.length_eq_zero_iff.1 e)
  have hlt0 : 0 < W.length := by omega
  have go : ∀ (X : List (List UInt8)) (u : ByteArray) (o : Option Nat) {Φ : List Fact} {l : List Tok} {c : Int} {r : Option Ph}, u.size ≤ 200 → (∀ m, o = some m → W[5]? = some u.data.toList ∧ X = cuts 46 u.data.toList ∧ m = X.length) → FactsOk (rdRho s W X) phF Φ → isRead l c (evS Φ (rfL W.length o) 8 [.any tS]) = true →
      (Value.tuple #[.agg (l.map (·.den (rdRho s W X) phF)).toArray, .int .i64 c] = phRes r) → phRead s.data.toList = r → Calls Tryz.prog 8 #[.string s] w fun e w' => e = .returned (phRes (phRead s.data.toList)) ∧ Below w.heap.size w w' := by
    intro X u o Φ l c r hu ho h1 h3 h4 h5
    letI : Env := envS w.heap.size w (rdRho s W X) phF
    haveI : Sym (rdRho s W X) phF := envS_sym _ _ _ _
    have hI : LqI := lqI_envS _ hL
    rw [h5, ← h4]
    have hd0 : ∀ x, W[0]? = some x → (tW 0).den (rdRho s W X) phF = str x := fun x hx => den_tW (by omega) hx
    refine isRead_calls h1 (rfL_at (rdRho s W X) hI hs hu rfl ?_ ?_ ?_) h3 rfl hs Tryz.func8 (by kernel_rfl) (by kernel_rfl) w (envS_start w _)
    · rw [← hW]; exact ws_den (by omega) hd0
    · refine ws_conf (by omega) hle fun hne => ?_
      have hx : W[0]? = some W[0] := List.getElem?_eq_getElem hlt0
      rw [hd0 _ hx]; exact str_conf (hle _ (List.getElem_mem _))
    · intro m hm
      obtain ⟨k1, k2, rfl⟩ := ho m hm
      refine ⟨by rw [den_tW (by omega) k1]; exact str_inj rfl, by rw [vs_den, k2], vs_conf fun x hx => ?_⟩
      rw [k2] at hx
      have := cuts_mem_length 46 _ x hx; rw [ba_size] at this; omega
  by_cases h6 : W.length = 6
  · obtain ⟨l0, l1, l2, l3, l4, l5, hq⟩ := six_of h6
    have h5l : l5.length ≤ 200 := hle l5 (by rw [hq]; simp)
    obtain ⟨u, hu⟩ : ∃ u : ByteArray, u.data.toList = l5 := ⟨⟨l5.toArray⟩, by simp⟩
    have husz : u.size ≤ 200 := by rw [← ba_size, hu]; exact h5l
    obtain ⟨X, hX⟩ : ∃ X, X = cuts 46 l5 := ⟨_, rfl⟩
    have hXl : X.length ≤ 201 := by have := cuts_length_le 46 l5; rw [hX]; omega
    have hX0 : X.length ≠ 0 := fun e => by rw [hX] at e; exact cuts_ne _ _ (List.length_eq_zero_iff.1 e)
    have hO : ∀ m, some X.length = some m → W[5]? = some u.data.toList ∧ X = cuts 46 u.data.toList ∧ m = X.length := fun m hm => by
      cases hm; rw [hu]; exact ⟨by rw [hq]; rfl, hX, rfl⟩
    have hW6 := h6
    have hc : cuts 32 s.data.toList = [l0, l1, l2, l3, l4, l5] := by rw [← hW, hq]
    by_cases h2 : X.length = 2
    · obtain ⟨a, b, hx⟩ := two_of h2
      subst hx
      have d : ∀ i x, W[i]? = some x → i < 270 → (tW i).den (rdRho s W [a, b]) phF = str x := fun i x hx hi => den_tW hi hx
      have d1 := d 1 l1 (by rw [hq]; rfl) (by omega); have d2 := d 2 l2 (by rw [hq]; rfl) (by omega); have d3 := d 3 l3 (by rw [hq]; rfl) (by omega); have d4 := d 4 l4 (by rw [hq]; rfl) (by omega)
      have v0 : (vW 0).den (rdRho s W [a, b]) phF = str a := den_vW rfl
      have v1 : (vW 1).den (rdRho s W [a, b]) phF = str b := den_vW rfl
      have hv : ∀ k, (rfC (.i .i64 k)).map (·.den (rdRho s W [a, b]) phF) = Ph.vals ⟨k, IntKind.i64.wrap (valW l1 : Nat), IntKind.i64.wrap (valW l2 : Nat), valW l3, valW l4, valW a, valW b⟩ := by
        intro k
        show [Value.int .i64 k, cvI .i64 (phF 13 [(tW 1).den (rdRho s W [a, b]) phF]), cvI .i64 (phF 13 [(tW 2).den (rdRho s W [a, b]) phF]), phF 13 [(tW 3).den (rdRho s W [a, b]) phF], phF 13 [(tW 4).den (rdRho s W [a, b]) phF], phF 13 [(vW 0).den (rdRho s W [a, b]) phF], phF 13 [(vW 1).den (rdRho s W [a, b]) phF]] = _
        rw [d1, d2, d3, d4, v0, v1]; rfl
      have ht : ∀ k, (rfT (.i .i64 k)).den (rdRho s W [a, b]) phF = str (Ph.text ⟨k, IntKind.i64.wrap (valW l1 : Nat), IntKind.i64.wrap (valW l2 : Nat), valW l3, valW l4, valW a, valW b⟩) := by
        intro k
        show phF 12 ((rfC (.i .i64 k)).map (·.den (rdRho s W [a, b]) phF)) = _
        rw [hv, @phF12 env0]
      have hcand : ∀ k, phCand s.data.toList k = some ⟨k, IntKind.i64.wrap (valW l1 : Nat), IntKind.i64.wrap (valW l2 : Nat), valW l3, valW l4, valW a, valW b⟩ := fun k => by
        unfold phCand
        rw [hc]; simp only; rw [← hX]
      have hr := phRead_ref s.data.toList
      rw [hcand 1, hcand 2] at hr
      simp only at hr
      have e1 := ht 1
      have e2 := ht 2
      have w1 := hv 1
      have w2 := hv 2
      generalize (Ph.mk 1 (IntKind.i64.wrap (valW l1 : Nat)) (IntKind.i64.wrap (valW l2 : Nat)) (valW l3) (valW l4) (valW a) (valW b)) = p1 at hr e1 w1
      generalize (Ph.mk 2 (IntKind.i64.wrap (valW l1 : Nat)) (IntKind.i64.wrap (valW l2 : Nat)) (valW l3) (valW l4) (valW a) (valW b)) = p2 at hr e2 w2
      have fact : ∀ (k : Tok) (p : Ph) (b' : Bool), (rfT k).den (rdRho s W [a, b]) phF = str p.text → (p.text == s.data.toList) = b' → Cm.eq.holds ((rfT k).den (rdRho s W [a, b]) phF) (.string s) = some b' := fun k p b' h1 h2 => by rw [h1, eqHolds', h2]
      by_cases t1 : p1.text = s.data.toList
      · rw [if_pos t1] at hr
        have hev := evRef1
        rw [← hW6] at hev
        refine go [a, b] u (some 2) husz (fun m hm => by cases hm; exact hO 2 rfl) (fun f hf => ?_) hev (r := some p1) ?_ hr
        · simp only [List.mem_cons, List.not_mem_nil, or_false] at hf
          subst hf
          exact fact k1 p1 true e1 (by simpa using t1)
        · show Value.tuple #[.agg ((rfC (.i .i64 1)).map (·.den (rdRho s W [a, b]) phF)).toArray, _] = _
          rw [w1]; rfl
      · rw [if_neg t1] at hr
        have hev := evRef2 (p2.text == s.data.toList)
        rw [← hW6] at hev
        refine go [a, b] u (some 2) husz (fun m hm => by cases hm; exact hO 2 rfl) (fun f hf => ?_) hev ?_ hr
        · simp only [List.mem_cons, List.not_mem_nil, or_false] at hf
          rcases hf with rfl | rfl
          · exact fact k1 p1 false e1 (by simpa using t1)
          · exact fact k2 p2 _ e2 rfl
        · by_cases t2 : p2.text = s.data.toList
          · rw [if_pos t2, t2]
            simp only [beq_self_eq_true, if_true, phRes]
            show Value.tuple #[.agg ((rfC (.i .i64 2)).map (·.den (rdRho s W [a, b]) phF)).toArray, _] = _
            rw [w2]
          · have : (p2.text == s.data.toList) = false := by simpa using t2
            rw [if_neg t2, this]; rfl
    · have hnone : phRead s.data.toList = none := by
        rw [phRead_ref]
        have : phCand s.data.toList 1 = none := by
          unfold phCand
          rw [hc]; simp only
          split
          · rename_i a b hab; rw [← hX] at hab; rw [hab] at h2; exact absurd rfl h2
          · rfl
        rw [this]
      have hev := mOther_at evRefM (n := X.length) (by omega) hX0 h2
      rw [← hW6] at hev
      exact go X u (some X.length) husz hO (fun f hf => by cases hf) hev (r := none) rfl hnone
  · exact go [] ⟨#[]⟩ none (by decide) (fun m hm => by cases hm) (fun f hf => by cases hf) (nOther_at evRefN (by omega) h0 h6) (r := none) rfl (phRead_words (.inl (by rw [← hW]; exact h6)))
end Go.Proofs.YtacbiajedbbnbaaGreatDoor
