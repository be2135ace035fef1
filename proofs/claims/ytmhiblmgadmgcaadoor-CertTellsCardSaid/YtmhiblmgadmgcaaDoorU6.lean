/- Functions known by a contract that hand back a new row of texts, or ask a row of texts: what the evaluator is told of them. Ahead of it: The evaluator with unknown values is right: terms, facts, operations. Plain lemmas. The evaluator with unknown values is right: operations. Plain lemmas. Functions that answer with a term: their arguments. Plain lemmas. -/
import Derived.Test.YtmhiblmgadmgcaaDoorUEs1
import Derived.Test.YtmhiblmgadmgcaaDoorU13
import Derived.Test.YtmhiblmgadmgcaaDoorUEv8e
import Derived.Below
namespace Go.Ev
open Go
set_option linter.unusedVariables false
set_option linter.unusedSimpArgs false
set_option linter.unusedSectionVars false
def arI (f : Int → Int → Int) (X Y : Value) : Value := match X, Y with
  | .int k x, .int _ y => .int k (k.wrap (f x y))
  | _, _ => undef
def catS (X Y : Value) : Value := match X, Y with
  | .string a, .string b => .string (a ++ b)
  | _, _ => undef
def cvI (k : IntKind) (X : Value) : Value := match X with
  | .int _ n => .int k (k.wrap n)
  | _ => undef
def lenS (X : Value) : Value := match X with
  | .string a => .int .i64 a.size
  | _ => undef
section
variable (ρ : Nat → Value) (φ : Nat → List Value → Value)
def den2 : Tok → Value × List Value
  | .v n _ => (ρ n, [])
  | .i k n => (.int k n, [])
  | .s l => (.string ⟨l.toArray⟩, [])
  | .add a b => (arI (· + ·) (den2 a).1 (den2 b).1, [])
  | .sub a b => (arI (· - ·) (den2 a).1 (den2 b).1, [])
  | .mul a b => (arI (· * ·) (den2 a).1 (den2 b).1, [])
  | .cat a b => (catS (den2 a).1 (den2 b).1, [])
  | .cv k a => (cvI k (den2 a).1, [])
  | .len a => (lenS (den2 a).1, [])
  | .nl => (undef, [])
  | .cn a b => (undef, (den2 a).1 :: (den2 b).2)
  | .ap f _ l => (φ f (den2 l).2, [])
/-- What a term stands for. -/
def Tok.den (t : Tok) : Value := (den2 ρ φ t).1
def Tok.dens (t : Tok) : List Value := (den2 ρ φ t).2
theorem den_s (l : List UInt8) : (Tok.s l).den ρ φ = .string ⟨l.toArray⟩ := rfl
theorem den_cat (a b : Tok) : (Tok.cat a b).den ρ φ = catS (a.den ρ φ) (b.den ρ φ) := rfl
theorem den_cv (k : IntKind) (a : Tok) : (Tok.cv k a).den ρ φ = cvI k (a.den ρ φ) := rfl
theorem den_len (a : Tok) : (Tok.len a).den ρ φ = lenS (a.den ρ φ) := rfl
theorem den_ap (f : Nat) (q : Srt) (l : Tok) : (Tok.ap f q l).den ρ φ = φ f (l.dens ρ φ) := rfl
theorem dens_nl : Tok.nl.dens ρ φ = [] := rfl
theorem dens_cn (a b : Tok) : (Tok.cn a b).dens ρ φ = a.den ρ φ :: b.dens ρ φ := rfl
end
/-- Is a value of a kind? -/
def conf : Srt → Value → Prop
  | .int k, V => ∃ n, V = .int k n ∧ k.has n
  | .str n, V => ∃ S : ByteArray, V = .string S ∧ S.size ≤ n
  | .bool, V => ∃ b, V = .bool b
  | .oth, V => V.oneCell' = true
theorem conf_one {q : Srt} {V : Value} (h : conf q V) : V.oneCell' = true := by
  cases q with
  | int k => obtain ⟨n, rfl, _⟩ := h; rfl
  | str n => obtain ⟨S, rfl, _⟩ := h; rfl
  | bool => obtain ⟨b, rfl⟩ := h; rfl
  | oth => exact h
theorem one_cells {V : Value} (h : V.oneCell' = true) : V.cells = #[V] := by cases V <;> first | rfl | cases h
/-- What is known besides, where unknown values are terms. -/
class Sym (ρ : Nat → Value) (φ : Nat → List Value → Value) [Env] : Prop where
  iff : ∀ t V, Env.E t V ↔ (t.unk = false → V = t.den ρ φ) ∧ conf t.srt V
variable [Env]
theorem has_wrap (k : IntKind) (n : Int) : k.has (k.wrap n) := by
  cases k <;> simp [IntKind.has, IntKind.min, IntKind.max, IntKind.wrap, IntKind.signed, IntKind.bits] <;> omega
theorem Srt.same_t {q q' : Srt} (h : q.same q' = true) : q = q' := by
  cases q <;> cases q' <;> simp [Srt.same] at h <;> first | rfl | (subst h; rfl)
theorem Tok.same_t : ∀ {a b : Tok}, a.same b = true → a = b := by
  intro a
  induction a with
  | v n q => intro b h; cases b <;> simp [Tok.same] at h; obtain ⟨rfl, h⟩ := h; rw [Srt.same_t h]
  | i k n => intro b h; cases b <;> simp [Tok.same, ieq_eq] at h; obtain ⟨rfl, rfl⟩ := h; rfl
  | s l => intro b h; cases b <;> simp [Tok.same, seq'_eq] at h; rw [h]
  | add a b ih1 ih2 => intro c h; cases c <;> simp [Tok.same] at h; rw [ih1 h.1, ih2 h.2]
  | sub a b ih1 ih2 => intro c h; cases c <;> simp [Tok.same] at h; rw [ih1 h.1, ih2 h.2]
  | mul a b ih1 ih2 => intro c h; cases c <;> simp [Tok.same] at h; rw [ih1 h.1, ih2 h.2]
  | cat a b ih1 ih2 => intro c h; cases c <;> simp [Tok.same] at h; rw [ih1 h.1, ih2 h.2]
  | cv k a ih => intro c h; cases c <;> simp [Tok.same] at h; obtain ⟨rfl, h⟩ := h; rw [ih h]
  | len a ih => intro c h; cases c <;> simp [Tok.same] at h; rw [ih h]
  | nl => intro c h; cases c <;> simp [Tok.same] at h; rfl
  | cn a b ih1 ih2 => intro c h; cases c <;> simp [Tok.same] at h; rw [ih1 h.1, ih2 h.2]
  | ap f q l ih => intro c h; cases c <;> simp [Tok.same] at h; obtain ⟨⟨rfl, h1⟩, h2⟩ := h; rw [Srt.same_t h1, ih h2]
theorem Cm.same_t {c d : Cm} (h : c.same d = true) : c = d := by cases c <;> cases d <;> simp [Cm.same] at h <;> rfl
/-- What a fact says. -/
def Cm.holds : Cm → Value → Value → Option Bool
  | .eq, .int k x, .int j y => if k = j then some (x == y) else none
  | .eq, .string x, .string y => some (x.data.toList == y.data.toList)
  | .lt, .int k x, .int j y => if k = j then some (decide (x < y)) else none
  | .lt, .string x, .string y => some (Op.bytesLess x.data.toList y.data.toList)
  | _, _, _ => none
theorem holds_refl {q : Srt} {V : Value} (h : conf q V) (hq : scalar q = true) : Cm.eq.holds V V = some true := by
  cases q with
  | int k => obtain ⟨n, rfl, _⟩ := h; simp [Cm.holds]
  | str n => obtain ⟨S, rfl, _⟩ := h; simp [Cm.holds]
  | bool => cases hq
  | oth => cases hq
theorem beq_comm' {α : Type} [BEq α] [LawfulBEq α] (a b : α) : (a == b) = (b == a) := by rw [Bool.eq_iff_iff, beq_iff_eq, beq_iff_eq]; exact eq_comm
theorem holds_comm {X Y : Value} {r : Bool} (h : Cm.eq.holds X Y = some r) : Cm.eq.holds Y X = some r := by
  cases X <;> cases Y <;> simp only [Cm.holds] at h ⊢ <;> try (cases h)
  case int.int k x j y =>
    split at h
    · rename_i e; subst e; cases h; rw [if_pos rfl, beq_comm']
    · cases h
  case string.string => rw [beq_comm']
section
variable {P : Program} {ρ : Nat → Value} {φ : Nat → List Value → Value} {Φ : List Fact}
/-- All facts hold. -/
def FactsOk (ρ : Nat → Value) (φ : Nat → List Value → Value) (Φ : List Fact) : Prop := ∀ f ∈ Φ, f.c.holds (f.a.den ρ φ) (f.b.den ρ φ) = some f.r
theorem findF_ok {c : Cm} {a b : Tok} {r : Bool} : ∀ {Φ : List Fact}, FactsOk ρ φ Φ → findF c a b Φ = some r → c.holds (a.den ρ φ) (b.den ρ φ) = some r
  | [], _, h => by cases h
  | f :: l, hf, h => by
    simp only [findF] at h
    split at h
    · rename_i e
      simp only [Bool.and_eq_true] at e
      have e1 := Cm.same_t e.1.1
      have e2 := Tok.same_t e.1.2
      have e3 := Tok.same_t e.2
      subst e1; subst e2; subst e3
      cases h
      exact hf f (by simp)
    · exact findF_ok (fun g hg => hf g (by simp [hg])) h
theorem lookF_ok {c : Cm} {a b : Tok} {r : Bool} (hf : FactsOk ρ φ Φ) (ha : conf a.srt (a.den ρ φ)) (h : lookF Φ c a b = some r) : c.holds (a.den ρ φ) (b.den ρ φ) = some r := by
  cases c with
  | eq =>
    simp only [lookF] at h
    split at h
    · rename_i e
      simp only [Bool.and_eq_true] at e
      cases h
      rw [← Tok.same_t e.1]
      exact holds_refl ha e.2
    · split at h
      · rename_i e; cases h; exact findF_ok hf e
      · exact holds_comm (findF_ok hf h)
  | lt => exact findF_ok hf h
variable [Sym ρ φ]
theorem tok_rel {m : Mp} {x : AV} {X : Value} {t : Tok} (hx : Rel m x X) (h : toTok x = some t) : X = t.den ρ φ ∧ conf t.srt X := by
  cases hx <;> simp only [toTok] at h
  case any he _ _ =>
    split at h
    · cases h
    · rename_i hu
      cases h
      obtain ⟨g1, g2⟩ := (Sym.iff (ρ := ρ) (φ := φ) _ _).1 he
      exact ⟨g1 hu, g2⟩
  case i k n =>
    split at h
    · rename_i hr
      cases h
      simp only [inR, Bool.and_eq_true, ile_eq, decide_eq_true_eq] at hr
      exact ⟨rfl, n, rfl, hr⟩
    · cases h
  case s l S hS =>
    cases h
    refine ⟨?_, S, rfl, ?_⟩
    · rw [den_s, ← hS]
    · show S.size ≤ l.length
      rw [← hS, Array.length_toList]; exact Nat.le_refl _
  all_goals cases h
theorem rel_tok {m : Mp} {V : Value} {t : Tok} (h : V = t.den ρ φ) (hc : conf t.srt V) : Rel m (.any t) V := .any t V ((Sym.iff (ρ := ρ) (φ := φ) t V).2 ⟨fun _ => h, hc⟩) (conf_one hc) (one_cells (conf_one hc))
theorem unk_of {a : Tok} (h : a.srt ≠ .oth) : a.unk = false := by cases a <;> first | rfl | exact absurd rfl h
theorem any_rel {m : Mp} {t : Tok} {X : Value} (hx : Rel m (.any t) X) (h : t.unk = false) : X = t.den ρ φ ∧ conf t.srt X := tok_rel hx (by simp [toTok, h])
theorem ar_ok {f : Tok → Tok → Tok} {g : Int → Int → Int} {op : BinOp} {t : TypeId} {a b : Tok} {v : AV} {m : Mp} {X Y : Value} (hs : ∀ a b, (f a b).srt = a.srt) (hd : ∀ a b, (f a b).den ρ φ = arI g (a.den ρ φ) (b.den ρ φ))
    (hrun : ∀ k x y w, (binOp op t (.int k x) (.int k y)).run P w = .ok (.int k (k.wrap (g x y))) w) (h : symAr f a b = some v) (hX : X = a.den ρ φ ∧ conf a.srt X) (hY : Y = b.den ρ φ ∧ conf b.srt Y) (xo yo : Operand) (w : World) :
    ∃ V, (eqGuard op t xo yo X Y >>= fun _ => binOp op t X Y).run P w = .ok V w ∧ Rel m v V := by
  unfold symAr at h
  split at h
  · rename_i k e1
    split at h
    · rename_i j e2
      split at h
      · rename_i e; subst e
        cases h
        obtain ⟨x1, c1⟩ := hX
        obtain ⟨y1, c2⟩ := hY
        rw [e1] at c1; rw [e2] at c2
        obtain ⟨x, rfl, _⟩ := c1
        obtain ⟨y, rfl, _⟩ := c2
        refine ⟨_, by rw [eqGuard_at_int]; simpa using hrun k x y w, rel_tok (ρ := ρ) (φ := φ) ?_ ?_⟩
        · rw [hd, ← x1, ← y1]; rfl
        · rw [hs, e1]; exact ⟨_, rfl, has_wrap _ _⟩
      · cases h
    · cases h
  · cases h
theorem cat_ok {t : TypeId} {a b : Tok} {v : AV} {m : Mp} {X Y : Value} (h : symCat a b = some v) (hX : X = a.den ρ φ ∧ conf a.srt X) (hY : Y = b.den ρ φ ∧ conf b.srt Y) (xo yo : Operand) (w : World) :
    ∃ V, (eqGuard .add t xo yo X Y >>= fun _ => binOp .add t X Y).run P w = .ok V w ∧ Rel m v V := by
  unfold symCat at h
  split at h
  · rename_i n e1
    split at h
    · rename_i k e2
      split at h
      · rename_i hb
        have hl := blt_t hb
        cases h
        obtain ⟨x1, c1⟩ := hX
        obtain ⟨y1, c2⟩ := hY
        rw [e1] at c1; rw [e2] at c2
        obtain ⟨A, rfl, a1⟩ := c1
        obtain ⟨B, rfl, b1⟩ := c2
        have hs : ¬ (((A.size + B.size : Nat) : Int) > IntKind.i64.max) := by
          rw [IntKind.max_i64]; unfold lim at hl; omega
        refine ⟨.string (A ++ B), ?_, rel_tok (ρ := ρ) (φ := φ) ?_ ?_⟩
        · rw [eqGuard_at_string]; simp only [pure_bind, binOp, Op.stringOp, if_neg hs]; rfl
        · rw [den_cat, ← x1, ← y1]; rfl
        · simp only [Tok.srt, e1, e2]
          exact ⟨_, rfl, by rw [ByteArray.size_append]; omega⟩
      · cases h
    · cases h
  · cases h
theorem cmp_ok {op : BinOp} {t : TypeId} {v : AV} {m : Mp} {X Y : Value} {c : Cm} {neg : Bool} {r : Bool} (hv : bOf neg (some r) = some v) (hsw : c.holds X Y = some r) (xo yo : Operand) (w : World)
    (hi : ∀ k x y, X = .int k x → Y = .int k y → (binOp op t X Y).run P w = .ok (.bool (neg != r)) w) (hs : ∀ x y, X = .string x → Y = .string y → (binOp op t X Y).run P w = .ok (.bool (neg != r)) w) :
    ∃ V, (eqGuard op t xo yo X Y >>= fun _ => binOp op t X Y).run P w = .ok V w ∧ Rel m v V := by
  simp only [bOf, Option.some.injEq] at hv
  subst hv
  refine ⟨.bool (neg != r), ?_, .b _⟩
  unfold Cm.holds at hsw
  split at hsw
  · split at hsw
    · rename_i e; subst e; rw [eqGuard_at_int]; simpa using hi _ _ _ rfl rfl
    · cases hsw
  · rw [eqGuard_at_string]; simpa using hs _ _ rfl rfl
  · split at hsw
    · rename_i e; subst e; rw [eqGuard_at_int]; simpa using hi _ _ _ rfl rfl
    · cases hsw
  · rw [eqGuard_at_string]; simpa using hs _ _ rfl rfl
  · cases hsw
end
end Go.Ev
namespace Go.Ev
open Go
set_option linter.unusedVariables false
set_option linter.unusedSimpArgs false
set_option linter.unusedSectionVars false
variable [Env]
section
variable {P : Program} {ρ : Nat → Value} {φ : Nat → List Value → Value} {Φ : List Fact} [Sym ρ φ]
theorem holds_int {c : Cm} {k : IntKind} {x y : Int} {r : Bool} (h : c.holds (.int k x) (.int k y) = some r) : (match c with | .eq => (x == y) | .lt => decide (x < y)) = r := by
  cases c <;> simpa [Cm.holds] using h
theorem holds_str {c : Cm} {x y : ByteArray} {r : Bool} (h : c.holds (.string x) (.string y) = some r) : (match c with | .eq => (x.data.toList == y.data.toList) | .lt => Op.bytesLess x.data.toList y.data.toList) = r := by
  cases c <;> simpa [Cm.holds] using h
theorem bless_total (x y : List UInt8) : (Op.bytesLess x y || x == y) = !(Op.bytesLess y x) := by
  induction x generalizing y with
  | nil =>
    cases y with
    | nil => rfl
    | cons b y => simp [Op.bytesLess]
  | cons a x ih =>
    cases y with
    | nil => simp [Op.bytesLess]
    | cons b y =>
      have ih := ih y
      simp only [Op.bytesLess]
      rcases Nat.lt_trichotomy a.toNat b.toNat with h | h | h
      · have h1 : a < b := UInt8.lt_iff_toNat_lt.2 h
        have h2 : ¬ b < a := fun e => by have := UInt8.lt_iff_toNat_lt.1 e; omega
        have h3 : (b == a) = false := by rw [beq_eq_false_iff_ne]; intro e; rw [e] at h; omega
        simp [h1, h2, h3]
      · have h1 : a = b := UInt8.toNat_inj.1 h
        subst h1
        have h2 : ¬ a < a := fun e => by have := UInt8.lt_iff_toNat_lt.1 e; omega
        simpa [h2] using ih
      · have h1 : b < a := UInt8.lt_iff_toNat_lt.2 h
        have h2 : ¬ a < b := fun e => by have := UInt8.lt_iff_toNat_lt.1 e; omega
        have h3 : (a == b) = false := by rw [beq_eq_false_iff_ne]; intro e; rw [e] at h; omega
        simp [h1, h2, h3]
theorem symB_ok {op : BinOp} {t : TypeId} {a b : Tok} {v : AV} {m : Mp} {X Y : Value} (hΦ : FactsOk ρ φ Φ) (h : symB Φ op a b = some v) (hX : X = a.den ρ φ ∧ conf a.srt X) (hY : Y = b.den ρ φ ∧ conf b.srt Y) (xo yo : Operand) (w : World) :
    ∃ V, (eqGuard op t xo yo X Y >>= fun _ => binOp op t X Y).run P w = .ok V w ∧ Rel m v V := by
  have ca : conf a.srt (a.den ρ φ) := hX.1 ▸ hX.2
  have cb : conf b.srt (b.den ρ φ) := hY.1 ▸ hY.2
  have fact : ∀ {c : Cm} {r : Bool}, lookF Φ c a b = some r → c.holds X Y = some r := fun e => by rw [hX.1, hY.1]; exact lookF_ok hΦ ca e
  have fact' : ∀ {c : Cm} {r : Bool}, lookF Φ c b a = some r → c.holds Y X = some r := fun e => by rw [hX.1, hY.1]; exact lookF_ok hΦ cb e
  unfold symB at h
  split at h
  · split at h
    · rename_i v' e; cases h; exact cat_ok e hX hY xo yo w
    · exact ar_ok (ρ := ρ) (φ := φ) (f := .add) (g := (· + ·)) (fun _ _ => rfl) (fun _ _ => rfl) (fun k x y w => by simp [binOp, Op.intArith]) h hX hY xo yo w
  · exact ar_ok (ρ := ρ) (φ := φ) (f := .sub) (g := (· - ·)) (fun _ _ => rfl) (fun _ _ => rfl) (fun k x y w => by simp [binOp, Op.intArith]) h hX hY xo yo w
  · exact ar_ok (ρ := ρ) (φ := φ) (f := .mul) (g := (· * ·)) (fun _ _ => rfl) (fun _ _ => rfl) (fun k x y w => by simp [binOp, Op.intArith]) h hX hY xo yo w
  · generalize hl : lookF Φ .eq a b = q at h
    cases q with
    | none => cases h
    | some r =>
      have hf := fact hl
      exact cmp_ok (c := .eq) h hf xo yo w (fun k x y e1 e2 => by subst e1; subst e2; have g := holds_int hf; simp only at g; simp [binOp, Op.intCmp, g]) (fun x y e1 e2 => by subst e1; subst e2; have g := holds_str hf; simp only at g; simp only [binOp, Op.stringOp, ByteArray.toList_eq, g]; simp)
  · generalize hl : lookF Φ .eq a b = q at h
    cases q with
    | none => cases h
    | some r =>
      have hf := fact hl
      exact cmp_ok (c := .eq) h hf xo yo w (fun k x y e1 e2 => by subst e1; subst e2; have g := holds_int hf; simp only at g; simp [binOp, Op.intCmp, bne, g]) (fun x y e1 e2 => by subst e1; subst e2; have g := holds_str hf; simp only at g; simp only [binOp, Op.stringOp, ByteArray.toList_eq, g]; simp)
  · generalize hl : lookF Φ .lt a b = q at h
    cases q with
    | none => cases h
    | some r =>
      have hf := fact hl
      exact cmp_ok (c := .lt) h hf xo yo w (fun k x y e1 e2 => by subst e1; subst e2; have g := holds_int hf; simp only at g; simp [binOp, Op.intCmp, g]) (fun x y e1 e2 => by subst e1; subst e2; have g := holds_str hf; simp only at g; simp only [binOp, Op.stringOp, ByteArray.toList_eq, g]; simp)
  · generalize hl : lookF Φ .lt b a = q at h
    cases q with
    | none => cases h
    | some r =>
      have hf := fact' hl
      obtain ⟨V, g1, g2⟩ : ∃ V, (eqGuard .gtr t xo yo X Y >>= fun _ => binOp .gtr t X Y).run P w = .ok V w ∧ Rel m v V := by
        simp only [bOf, Option.some.injEq] at h
        subst h
        refine ⟨.bool (false != r), ?_, .b _⟩
        unfold Cm.holds at hf
        split at hf <;> try (cases hf; done)
        · rename_i e0; cases e0
        · rename_i e0; cases e0
        · split at hf
          · rename_i e; subst e; cases hf; rw [eqGuard_at_int]; simp [binOp, Op.intCmp]
          · cases hf
        · cases hf
          rw [eqGuard_at_string]
          simp only [pure_bind, binOp, Op.stringOp, ByteArray.toList_eq, bless_total]; simp
      exact ⟨V, g1, g2⟩
  · generalize hl : lookF Φ .lt b a = q at h
    cases q with
    | none => cases h
    | some r =>
      have hf := fact' hl
      simp only [bOf, Option.some.injEq] at h
      subst h
      refine ⟨.bool (true != r), ?_, .b _⟩
      unfold Cm.holds at hf
      split at hf <;> try (cases hf; done)
      · rename_i e0; cases e0
      · rename_i e0; cases e0
      · split at hf
        · rename_i e; subst e; cases hf; rw [eqGuard_at_int]
          have key : ∀ x y : Int, (true != decide (x < y)) = decide (y ≤ x) := fun x y => by rw [Bool.eq_iff_iff]; simp
          rw [key]; simp [binOp, Op.intCmp]
        · cases hf
      · cases hf
        rw [eqGuard_at_string]
        simp only [pure_bind, binOp, Op.stringOp, ByteArray.toList_eq, bless_total]; simp
  · generalize hl : lookF Φ .lt a b = q at h
    cases q with
    | none => cases h
    | some r =>
      have hf := fact hl
      exact cmp_ok (c := .lt) h hf xo yo w (fun k x y e1 e2 => by
        subst e1; subst e2; have g := holds_int hf; simp only at g
        have : (true != r) = decide (y ≤ x) := by rw [← g, Bool.eq_iff_iff]; simp
        rw [this]; simp [binOp, Op.intCmp]) (fun x y e1 e2 => by subst e1; subst e2; have g := holds_str hf; simp only at g; simp only [binOp, Op.stringOp, ByteArray.toList_eq, g]; simp)
  · cases h
/-! Values of a type that are the same. -/
theorem eqFl_ok {f : TypeId → AV → AV → Option Bool} {D : Nat} {m : Mp} (hf : ∀ t x y b, f t x y = some b → ∀ X Y, Rel m x X → Rel m y Y → ∀ w, (Op.equalIn D t X Y).run P w = .ok b w) :
    ∀ (fl : List Field) (p q : List AV) (A B : Array Value) (b : Bool), eqFl P f p q fl = some b → RelL m p A.toList → RelL m q B.toList → ∀ w, (Op.eqFields D A B fl).run P w = .ok b w := by
  intro fl
  induction fl with
  | nil => intro p q A B b h _ _ w; simp [eqFl] at h; subst h; simp [Op.eqFields]
  | cons g fl ih =>
    intro p q A B b h hA hB w
    simp only [eqFl] at h
    split at h
    · rename_i hn
      have hn' : g.name = "_" := by simpa using hn
      simp only [Op.eqFields, hn', ne_eq, not_true_eq_false, if_false]
      exact ih p q A B b h hA hB w
    · rename_i hn
      have hn' : g.name ≠ "_" := by simpa using hn
      split at h
      · rename_i x1 y1 e1 e2
        obtain ⟨V1, g1, r1⟩ := run_part e1 hA w
        obtain ⟨V2, g2, r2⟩ := run_part e2 hB w
        split at h
        · rename_i e3
          have g3 := hf g.type x1 y1 true e3 V1 V2 r1 r2 w
          simp only [Op.eqFields, if_pos hn', Sem.run_bind, g1, g2, g3, Result.andThen_ok, Bool.not_true, Bool.false_eq_true, if_false]
          exact ih p q A B b h hA hB w
        · rename_i e3
          cases h
          have g3 := hf g.type x1 y1 false e3 V1 V2 r1 r2 w
          simp [Op.eqFields, if_pos hn', Sem.run_bind, g1, g2, g3]
        · cases h
      · cases h
theorem sEq_ok (hΦ : FactsOk ρ φ Φ) : ∀ (d : Nat) (t : TypeId) (x y : AV) (b : Bool), sEq P Φ d t x y = some b → ∀ (m : Mp) (X Y : Value), Rel m x X → Rel m y Y → ∀ D, d ≤ D → ∀ w, (Op.equalIn D t X Y).run P w = .ok b w
  | 0, t, x, y, b, h => by simp [sEq] at h
  | d + 1, t, x, y, b, h => by
    intro m X Y hx hy D hD w
    simp only [sEq] at h
    split at h
    · rename_i b' e
      cases h
      rw [fEq_eq] at e
      exact evEq_ok (d + 1) t x y b e m X Y hx hy D hD w
    · split at h
      · rename_i a ha
        split at h
        · rename_i c hc
          have hX := tok_rel (ρ := ρ) (φ := φ) hx ha
          have hY := tok_rel (ρ := ρ) (φ := φ) hy hc
          obtain ⟨D, rfl⟩ : ∃ E, D = E + 1 := ⟨D - 1, by omega⟩
          unfold sEqT at h
          split at h
          · rename_i k hd
            split at h
            · rename_i k' es
              have hf : Cm.eq.holds X Y = some b := by rw [hX.1, hY.1]; exact lookF_ok hΦ (hX.1 ▸ hX.2) h
              have h1 := hX.2
              rw [es] at h1
              obtain ⟨n, rfl, _⟩ := h1
              cases Y <;> simp only [Cm.holds] at hf <;> try (cases hf; done)
              split at hf
              · rename_i e; subst e; cases hf; simp [Op.equalIn, run_und hd]
              · cases hf
            · cases h
          · rename_i hd
            split at h
            · rename_i k' es
              have hf : Cm.eq.holds X Y = some b := by rw [hX.1, hY.1]; exact lookF_ok hΦ (hX.1 ▸ hX.2) h
              have h1 := hX.2
              rw [es] at h1
              obtain ⟨S, rfl, _⟩ := h1
              cases Y <;> simp only [Cm.holds] at hf <;> try (cases hf; done)
              cases hf
              simp only [Op.equalIn, Sem.run_bind, run_und hd, Result.andThen_ok, Sem.run_pure]
              rw [beq_toListBytes, ByteArray.toList_eq, ByteArray.toList_eq]
            · cases h
          · cases h
        · cases h
      · obtain ⟨D, rfl⟩ : ∃ E, D = E + 1 := ⟨D - 1, by omega⟩
        unfold sEqA at h
        split at h
        · rename_i fs hd
          split at h
          · rename_i p _ _
            split at h
            · rename_i q _
              cases hx; cases hy
              rename_i A ha1 ha2 B hb1 hb2
              split at h
              · cases h
              · rename_i hs
                have hf : P.fieldsOf t = fs := by simp [Program.fieldsOf, hd]
                rw [run_equalIn_struct w D t A B (by rw [hf]; exact hd) hs, hf]
                exact eqFl_ok (fun t x y b e X Y h1 h2 w => sEq_ok hΦ d t x y b e m X Y h1 h2 D (by omega) w) fs.toList p q A B b h ⟨ha1, ha2⟩ ⟨hb1, hb2⟩ w
            · cases h
          · cases h
        · cases h
theorem sBin_ok {op : BinOp} {t : TypeId} {x y v : AV} (hΦ : FactsOk ρ φ Φ) (h : sBin P Φ op t x y = some v) {m : Mp} {X Y : Value} (hx : Rel m x X) (hy : Rel m y Y) (xo yo : Operand) (w : World) :
    ∃ V, (eqGuard op t xo yo X Y >>= fun _ => binOp op t X Y).run P w = .ok V w ∧ Rel m v V := by
  unfold sBin at h
  split at h
  · rename_i a ha
    split at h
    · rename_i b hb
      exact symB_ok (P := P) hΦ h (tok_rel hx ha) (tok_rel hy hb) xo yo w
    · cases h
  · split at h
    · rename_i p _
      split at h
      · rename_i q
        unfold sBinA at h
        split at h
        · rename_i hn
          have hm := noIf_ok 8 t hn P.depth depth_8
          have g := fun b e => sEq_ok (P := P) hΦ 8 t (.a p) (.a q) b e m X Y hx hy 10000 (by omega) w
          split at h
          · generalize he : sEq P Φ 8 t (.a p) (.a q) = r at h
            cases r with
            | none => cases h
            | some r =>
              simp only [bOf, Option.some.injEq] at h; subst h
              have g := g r he
              cases hx; cases hy
              rename_i A a1 a2 B b1 b2 _
              refine ⟨.bool (false != r), ?_, .b _⟩
              simp only [Sem.run_bind, run_eqGuard_agg w _ t xo yo A B hm, Result.andThen_ok, run_eql_struct]
              rw [g]; simp
          · generalize he : sEq P Φ 8 t (.a p) (.a q) = r at h
            cases r with
            | none => cases h
            | some r =>
              simp only [bOf, Option.some.injEq] at h; subst h
              have g := g r he
              cases hx; cases hy
              rename_i A a1 a2 B b1 b2 _
              refine ⟨.bool (true != r), ?_, .b _⟩
              simp only [Sem.run_bind, run_eqGuard_agg w _ t xo yo A B hm, Result.andThen_ok, run_neq_struct]
              rw [g]; simp
          · cases h
        · cases h
      · cases h
    · cases h
theorem sConv_ok (hΦ : FactsOk ρ φ Φ) {src dst : TypeId} {x v : AV} (h : sConv P src dst x = some v) {m : Mp} {X : Value} (hx : Rel m x X) (w : World) : ∃ V, (convert src dst X).run P w = .ok V w ∧ Rel m v V := by
  unfold sConv at h
  split at h
  · rename_i a
    split at h
    · rename_i q es
      have hX := any_rel (ρ := ρ) (φ := φ) hx (unk_of (by rw [es]; simp))
      split at h
      · rename_i q' hs
        split at h
        · rename_i k hd
          cases h
          have h1 := hX.2
          rw [es] at h1
          obtain ⟨n, rfl, _⟩ := h1
          refine ⟨.int k (k.wrap n), by simp [convert, run_und hs, run_und hd, Conv.intToInt], rel_tok (ρ := ρ) (φ := φ) ?_ ⟨_, rfl, has_wrap _ _⟩⟩
          rw [den_cv, ← hX.1]; rfl
        · cases h
      · cases h
    · rename_i q es
      have hX := any_rel (ρ := ρ) (φ := φ) hx (unk_of (by rw [es]; simp))
      split at h
      · rename_i hs
        split at h
        · rename_i hd
          cases h
          have h1 := hX.2
          rw [es] at h1
          obtain ⟨S, rfl, _⟩ := h1
          exact ⟨.string S, by simp [convert, run_und hs, run_und hd], hx⟩
        · cases h
      · cases h
    · cases h
  · cases h
theorem sLen_ok (hΦ : FactsOk ρ φ Φ) {tys : Array TypeId} {args : List AV} {v : AV} {ty : TypeId} (h : sLen P tys args = some v) {m : Mp} {A : Array Value} (hA : RelL m args A.toList) (w : World) : ∃ V, (Builtin.len_ tys ty A).run P w = .ok V w ∧ Rel m v V := by
  unfold sLen at h
  split at h
  · split at h
    · rename_i a
      obtain ⟨V, rfl, h1⟩ := arr1 hA
      split at h
      · rename_i n es
        have hX := any_rel (ρ := ρ) (φ := φ) h1 (unk_of (by rw [es]; simp))
        split at h
        · rename_i hn
          have hn := ble_t hn
          split at h
          · rename_i t ht
            split at h
            · rename_i hd
              cases h
              have h2 := hX.2
              rw [es] at h2
              obtain ⟨S, rfl, hS⟩ := h2
              refine ⟨.int .i64 S.size, by simp [Builtin.len_, ht, run_und hd, goInt], rel_tok (ρ := ρ) (φ := φ) ?_ ⟨_, rfl, ?_⟩⟩
              · rw [den_len, ← hX.1]; rfl
              · simp [IntKind.has, IntKind.min, IntKind.max, IntKind.signed, IntKind.bits]
                omega
            · cases h
          · cases h
        · cases h
      · cases h
    · cases h
  · cases h
theorem keysNe_find (hΦ : FactsOk ρ φ Φ) {kt : TypeId} (hd : P.underlying kt = some .string) {a : Tok} {S : ByteArray} (ha : .string S = a.den ρ φ) : ∀ {es : List (AV × AV × Nat)} (i : Nat), keysNe Φ a es = true → findA P kt (.s S.data.toList) es i = some none
  | [], i, _ => rfl
  | (k, v, b) :: es, i, h => by
    simp only [keysNe] at h
    split at h
    · rename_i l
      split at h
      · rename_i r hr
        simp only [Bool.and_eq_true, Bool.not_eq_true'] at h
        have hf := lookF_ok hΦ (a := .s l) (b := a) ⟨_, rfl, by show l.toArray.size ≤ l.length; simp⟩ hr
        rw [den_s, ← ha] at hf
        simp only [Cm.holds, Option.some.injEq] at hf
        have e : fEq P 8 kt (.s S.data.toList) (.s l) = some false := by
          rw [fEq_eq]
          simp only [evEq, hd]
          rw [seq'_eq, beq_comm', Option.some.injEq, ← h.1, ← hf]
        simp only [findA, e]
        exact keysNe_find hΦ hd ha (i + 1) h.2
      · cases h
    · cases h
theorem sLook_ok (hΦ : FactsOk ρ φ Φ) {H : Tr AO} {nx : Nat} {t : TypeId} {x k : AV} {ok : Bool} {u : Ou} (h : sLook P Φ H nx t x k ok = some (.ok u)) :
    Keep H nx u ∧ ∀ X m w A K, Rel m x A → Rel m k K → Pre P X m H nx u w → Does P (Instr.lookup t A K ok >>= fun y => (pure (Next.value y) : Sem Next)) X nx u m w := by
  unfold sLook at h
  split at h
  · rename_i a
    split at h
    · rename_i n es
      split at h
      · rename_i kt et hd
        split at h
        · rename_i hk
          split at h
          · rename_i z hz
            have key : ∀ S : ByteArray, .string S = a.den ρ φ → evLookup P H nx t x (.s S.data.toList) ok = some (.ok u) := by
              intro S hS
              unfold evLookup
              simp only [hd]
              have e1 : keyOk P 8 kt (.s S.data.toList) = true := by simp [keyOk, hk]
              rw [e1, hz]
              simp only
              unfold sLookM at h
              split at h
              · exact h
              · rename_i r
                split at h
                · rename_i es' cl hrow
                  split at h
                  · rename_i hne
                    simp only [evLookupM, hrow, keysNe_find hΦ hk hS 0 hne]
                    exact h
                  · cases h
                · cases h
              · cases h
            have kp : ∀ (S : ByteArray), evLookup P H nx t x (.s S.data.toList) ok = some (.ok u) → Keep H nx u := fun S e => (lookup_ok e).1
            refine ⟨?_, fun X m w A K hx hK hp => ?_⟩
            · unfold sLookM at h
              split at h
              · have hu := pure_inv h
                subst hu
                exact keep_pure _ _ _ _ (live_0 _)
              · rename_i r
                split at h
                · rename_i es' cl hrow
                  split at h
                  · cases h; exact keep_pure _ _ _ _ (live_bit hrow)
                  · cases h
                · cases h
              · cases h
            · have hX := any_rel (ρ := ρ) (φ := φ) hK (unk_of (by rw [es]; simp))
              have h2 := hX.2
              rw [es] at h2
              obtain ⟨S, rfl, _⟩ := h2
              exact (lookup_ok (key S hX.1)).2 X m w A (.string S) hx (.s _ S rfl) hp
          · cases h
        · cases h
      · cases h
    · cases h
  · cases h
theorem ent_erase {m : Mp} {es : List (AV × AV × Nat)} {E : Array MapEntry} (i : Nat) (h : EntR m es E.toList) (hi : i < E.size) : EntR m (es.eraseIdx i) (E.eraseIdxIfInBounds i).toList := by
  have hl : es.length = E.size := by simpa using h.1
  have e : (E.eraseIdxIfInBounds i).toList = E.toList.eraseIdx i := by simp [Array.eraseIdxIfInBounds, hi]
  rw [e]
  refine ⟨by rw [List.length_eraseIdx, List.length_eraseIdx]; simp [hl], fun j k v b x h1 h2 => ?_⟩
  rw [List.getElem?_eraseIdx] at h1 h2
  split at h1
  · rename_i hj; rw [if_pos hj] at h2; exact h.2 j k v b x h1 h2
  · rename_i hj; rw [if_neg hj] at h2; exact h.2 (j + 1) k v b x h1 h2
theorem sDel_ok {H : Tr AO} {nx : Nat} {tys : Array TypeId} {args : List AV} {u : Ou} {ty : TypeId} (h : sDelA P H nx tys args = some (.ok u)) : BGoal P H nx u (fun A => Builtin.delete_ tys ty A >>= fun y => (pure (Next.value y) : Sem Next)) args := by
  unfold sDelA at h
  split at h
  · rename_i x k
    split at h
    · rename_i t ht
      unfold sDel at h
      split at h
      · rename_i kt et hd
        split at h
        · rename_i hko
          unfold sDelM at h
          split at h
          · rename_i r
            split at h
            · rename_i es cl hrow
              have base : ∀ (res : Option (Nat × AV × AV)), findA P kt k es 0 = some res → ∀ X m w (A : Array Value), RelL m [.m r, k] A.toList → Pre P X m H nx u w → u.R = bit r → ∃ L E K R, m r = some L ∧ A = #[.map (some L.block), K] ∧ w.heap[L.block]? = some (.map E cl) ∧ EntR m es E.toList ∧ (Instr.findKey kt K E.toList).run P w = .ok R w ∧ FindR m E.toList 0 res R ∧ (∀ b, (Instr.checkKey b 10000 kt K).run P w = .ok () w) := by
                intro res hf X m w A hA hp hR
                obtain ⟨V1, V2, rfl, hx, hk⟩ := arr2 hA
                cases hx
                rename_i L hL
                obtain ⟨E, e1, e2⟩ := ent_of (hp.row hrow (by rw [hR]; exact bit_self r) hL)
                obtain ⟨d, hd'⟩ := keyOk_und hko
                obtain ⟨R, f1, f2⟩ := find_ok (P := P) hd' hk hf e2 w
                exact ⟨L, E, V2, R, hL, rfl, e1, e2, f1, f2, fun b => checkKey_ok (P := P) b 8 kt k hko m V2 hk 10000 (by omega) w⟩
              split at h
              · rename_i i q1 q2 hf
                cases h
                refine ⟨keep_set hrow (bit_self r) (live_bit hrow), fun X m w A hA hp => ?_⟩
                obtain ⟨L, E, K, R, hL, rfl, e1, e2, f1, f2, hck⟩ := base _ hf X m w A hA hp rfl
                have hg := run_getObj (P := P) e1 (fun c e f h => by cases h)
                rcases f2 with ⟨e, _⟩ | ⟨j, k2, v2, y, e3, e4, rfl, e6, e7⟩
                · cases e
                · simp only [Option.some.injEq, Prod.mk.injEq] at e3
                  obtain ⟨rfl, rfl, rfl⟩ := e3
                  simp only [Nat.zero_add] at *
                  have hj : j < E.size := by have := (List.getElem?_eq_some_iff.1 e4).1; simpa using this
                  have hs := run_setObj (P := P) (o' := .map (E.eraseIdxIfInBounds j) cl) e1 (fun c e f h => by cases h)
                  obtain ⟨w1, w2⟩ := wrote_obj (o' := .map (E.eraseIdxIfInBounds j) cl) e1
                  refine does_set hp (bit_self r) hrow hL w1 (of_ent w2 (ent_erase j e2 hj)) (.un m) (.inl (run_v ?_))
                  simp [Builtin.delete_, ht, run_und hd, hg, hck, f1, hs]
                  rfl
              · rename_i hf
                cases h
                refine ⟨keep_set hrow (bit_self r) (live_bit hrow), fun X m w A hA hp => ?_⟩
                obtain ⟨L, E, K, R, hL, rfl, e1, e2, f1, f2, hck⟩ := base _ hf X m w A hA hp rfl
                have hg := run_getObj (P := P) e1 (fun c e f h => by cases h)
                rcases f2 with ⟨_, rfl⟩ | ⟨j, k2, v2, y, e3, _⟩
                · have hs := run_setObj (P := P) (o' := .map E cl) e1 (fun c e f h => by cases h)
                  obtain ⟨w1, w2⟩ := wrote_obj (o' := .map E cl) e1
                  refine does_set hp (bit_self r) hrow hL w1 (of_ent w2 e2) (.un m) (.inl (run_v ?_))
                  simp [Builtin.delete_, ht, run_und hd, hg, hck, f1, hs]
                  rfl
                · cases e3
              · cases h
            · cases h
          · cases h
        · cases h
      · cases h
    · cases h
  · cases h
/-- All operations. -/
theorem sym_ok (hΦ : FactsOk ρ φ Φ) : OpsOk P (sOp P Φ) := by
  have hop : ∀ T H nx op, sOp P Φ T H nx op = sOr (evOp P T H nx op) (symOp P Φ T H nx op) := fun T H nx op => by rw [← fOp_eq]; rfl
  refine ⟨fun T H nx o u h => ?_, fun T H nx o f args h m ρ' w hr => ?_, fun T H nx o l args h m ρ' w hr => ?_⟩
  · rw [hop] at h
    generalize he : evOp P T H nx o.op = r at h
    cases r with
    | some r => have h : some r = some (.ok u) := h; cases h; exact ops_ok.1 T H nx o u he
    | none =>
      have h : symOp P Φ T H nx o.op = some (.ok u) := h
      generalize ho : o.op = op at h
      cases op <;> try (cases h; done)
      case binOp op t x y t' =>
        simp only [symOp, sArg2] at h
        split at h
        · rename_i a hx
          split at h
          · rename_i b hy
            obtain ⟨v, hv, hu⟩ := lift_inv h
            refine goal_pure hu fun X m ρ' w hr hp => ?_
            obtain ⟨V, g1, g2⟩ := sBin_ok (P := P) hΦ hv (hr x _ (by rw [ho]; simp [Op.operands]) hx) (hr y _ (by rw [ho]; simp [Op.operands]) hy) x y w
            refine ⟨V, ?_, g2⟩
            unfold execOp; rw [ho]
            exact run_v g1
          · cases h
        · cases h
      case convert s d x =>
        simp only [symOp] at h
        split at h
        · rename_i a hx
          obtain ⟨v, hv, hu⟩ := lift_inv h
          refine goal_pure hu fun X m ρ' w hr hp => ?_
          obtain ⟨V, g1, g2⟩ := sConv_ok (P := P) hΦ hv (hr x _ (by rw [ho]; simp [Op.operands]) hx) w
          refine ⟨V, ?_, g2⟩
          unfold execOp; rw [ho]
          exact run_v g1
        · cases h
      case lookup t x k ok =>
        simp only [symOp, sArg2] at h
        split at h
        · rename_i a hx
          split at h
          · rename_i b hk
            obtain ⟨k1, k2⟩ := sLook_ok hΦ h
            refine ⟨k1, fun X m ρ' w hr hp => ?_⟩
            unfold execOp; rw [ho]
            exact k2 X m w (ρ' x) (ρ' k) (hr x _ (by rw [ho]; simp [Op.operands]) hx) (hr k _ (by rw [ho]; simp [Op.operands]) hk) hp
          · cases h
        · cases h
      case call c =>
        simp only [symOp, sCall] at h
        split at h
        · rename_i hc
          split at h
          · rename_i args ha
            obtain ⟨v, hv, hu⟩ := lift_inv h
            refine goal_pure hu fun X m ρ' w hr hp => ?_
            have hA : RelL m args (c.args.map ρ').toList := by
              rw [Array.toList_map]
              exact evArgs_rel ha fun x v hx => hr x v (by rw [ho]; simp only [Op.operands]; unfold Call.operands; simp; right; simpa using hx)
            obtain ⟨V, g1, g2⟩ := sLen_ok (P := P) hΦ (ty := o.type) hv hA w
            refine ⟨V, ?_, g2⟩
            have e : (do let d ← resolve ρ' c o.type; invoke d.target d.args : Sem Next) = builtin .len c.argTypes o.type (c.args.map fun | .const _ => true | _ => false) (c.args.map ρ') := by
              unfold resolve
              rw [hc]
              rfl
            unfold execOp; rw [ho]
            show Sem.run P (do let d ← resolve ρ' c o.type; invoke d.target d.args : Sem Next) w = _
            rw [e]
            exact run_v g1
          · cases h
        · rename_i hc
          split at h
          · rename_i args ha
            obtain ⟨g1, g2⟩ := sDel_ok (ty := o.type) h
            refine ⟨g1, fun X m ρ' w hr hp => ?_⟩
            have hA : RelL m args (c.args.map ρ').toList := by
              rw [Array.toList_map]
              exact evArgs_rel ha fun x v hx => hr x v (by rw [ho]; simp only [Op.operands]; unfold Call.operands; simp; right; simpa using hx)
            have hb := g2 X m w (c.args.map ρ') hA hp
            have e : (do let d ← resolve ρ' c o.type; invoke d.target d.args : Sem Next) = builtin .delete c.argTypes o.type (c.args.map fun | .const _ => true | _ => false) (c.args.map ρ') := by
              unfold resolve
              rw [hc]
              rfl
            unfold execOp; rw [ho]
            show Does P (do let d ← resolve ρ' c o.type; invoke d.target d.args : Sem Next) X nx u m w
            rw [e]
            exact hb
          · cases h
        · cases h
  · rw [hop] at h
    generalize he : evOp P T H nx o.op = r at h
    cases r with
    | some r => have h : some r = some (.call f args) := h; cases h; exact ops_ok.2.1 T H nx o f args he m ρ' w hr
    | none =>
      exfalso
      have h : symOp P Φ T H nx o.op = some (.call f args) := h
      generalize ho : o.op = op at h
      cases op <;> try (cases h; done)
      case binOp op t x y t' => simp only [symOp, sArg2, lift, pure'] at h; (repeat' split at h) <;> first | cases h | (unfold lift at h; split at h <;> cases h)
      case convert s d x => simp only [symOp, lift, pure'] at h; (repeat' split at h) <;> first | cases h | (unfold lift at h; split at h <;> cases h)
      case lookup t x k ok => simp only [symOp, sArg2, sLook, sLookM, pure'] at h; (repeat' split at h) <;> cases h
      case call c => simp only [symOp, sCall, lift, pure', sDelA, sDel, sDelM] at h; (repeat' split at h) <;> first | cases h | (unfold lift at h; split at h <;> cases h)
  · rw [hop] at h
    generalize he : evOp P T H nx o.op = r at h
    cases r with
    | some r => have h : some r = some (.rnd l args) := h; cases h; exact ops_ok.2.2 T H nx o l args he m ρ' w hr
    | none =>
      exfalso
      have h : symOp P Φ T H nx o.op = some (.rnd l args) := h
      generalize ho : o.op = op at h
      cases op <;> try (cases h; done)
      case binOp op t x y t' => simp only [symOp, sArg2, lift, pure'] at h; (repeat' split at h) <;> first | cases h | (unfold lift at h; split at h <;> cases h)
      case convert s d x => simp only [symOp, lift, pure'] at h; (repeat' split at h) <;> first | cases h | (unfold lift at h; split at h <;> cases h)
      case lookup t x k ok => simp only [symOp, sArg2, sLook, sLookM, pure'] at h; (repeat' split at h) <;> cases h
      case call c => simp only [symOp, sCall, lift, pure', sDelA, sDel, sDelM] at h; (repeat' split at h) <;> first | cases h | (unfold lift at h; split at h <;> cases h)
end
end Go.Ev
namespace Go.Ev
open Go
set_option linter.unusedVariables false
set_option linter.unusedSimpArgs false
set_option linter.unusedSectionVars false
/-- Values of these kinds. -/
def confL : List Srt → List Value → Prop
  | [], vs => vs = []
  | q :: qs, vs => ∃ V r, vs = V :: r ∧ conf q V ∧ confL qs r
/-- The arguments, and their cells one after the other. -/
def ArgsR : List (Bool × List Srt) → List Value → List Value → Prop
  | [], vs, A => vs = [] ∧ A = []
  | p :: ps, vs, A => ∃ us ws V B, vs = us ++ ws ∧ A = V :: B ∧ confL p.2 us ∧ (match p.1 with
      | true => V = .agg us.toArray
      | false => us = [V]) ∧ ArgsR ps ws B
theorem conf_fits {q' q : Srt} {V : Value} (h : conf q' V) (hf : fits q' q = true) : conf q V := by
  cases q' <;> cases q <;> simp [fits, Srt.same] at hf <;> first
    | exact h
    | (subst hf; exact h)
    | exact conf_one h
    | (obtain ⟨S, h1, h2⟩ := h; exact ⟨S, h1, by omega⟩)
variable [Env]
section
variable {ρ : Nat → Value} {φ : Nat → List Value → Value} [Sym ρ φ]
theorem toksOf_ok {m : Mp} : ∀ {qs : List Srt} {xs : List AV} {r T : Tok} {A : List Value}, toksOf qs xs r = some T → RelL m xs A → T.dens ρ φ = A ++ r.dens ρ φ ∧ confL qs A
  | [], [], r, T, A, h, hA => by
    have := hA.nil_inv; subst this
    simp only [toksOf, Option.some.injEq] at h; subst h
    exact ⟨rfl, rfl⟩
  | [], _ :: _, r, T, A, h, hA => by simp [toksOf] at h
  | _ :: _, [], r, T, A, h, hA => by simp [toksOf] at h
  | q :: qs, x :: xs, r, T, A, h, hA => by
    obtain ⟨V, B, rfl, h1, h2⟩ := hA.cons_inv
    simp only [toksOf] at h
    split at h
    · rename_i t ht
      split at h
      · rename_i hf
        split at h
        · rename_i r' hr
          cases h
          have hX := tok_rel (ρ := ρ) (φ := φ) h1 ht
          obtain ⟨g1, g2⟩ := toksOf_ok hr h2
          refine ⟨?_, V, B, rfl, conf_fits hX.2 hf, g2⟩
          rw [dens_cn, g1, ← hX.1]; rfl
        · cases h
      · cases h
    · cases h
theorem flatArgs_ok {m : Mp} : ∀ {ps : List (Bool × List Srt)} {xs : List AV} {T : Tok} {A : List Value}, flatArgs ps xs = some T → RelL m xs A → ArgsR ps (T.dens ρ φ) A
  | [], [], T, A, h, hA => by
    have := hA.nil_inv; subst this
    simp only [flatArgs, Option.some.injEq] at h; subst h
    exact ⟨rfl, rfl⟩
  | [], _ :: _, T, A, h, hA => by simp [flatArgs] at h
  | _ :: _, [], T, A, h, hA => by simp [flatArgs] at h
  | p :: ps, x :: xs, T, A, h, hA => by
    obtain ⟨V, B, rfl, h1, h2⟩ := hA.cons_inv
    simp only [flatArgs] at h
    split at h
    · rename_i r hr
      have ih := flatArgs_ok hr h2
      split at h
      · rename_i l hl
        obtain ⟨b, qs⟩ := p
        cases b with
        | true =>
          simp only [argCells] at hl
          split at hl
          · cases hl
            cases h1
            rename_i C c1 c2
            obtain ⟨g1, g2⟩ := toksOf_ok (ρ := ρ) (φ := φ) h ⟨c1, c2⟩
            exact ⟨C.toList, r.dens ρ φ, _, B, g1, rfl, g2, rfl, ih⟩
          · cases hl
        | false =>
          simp only [argCells] at hl
          split at hl
          · cases hl
          · cases hl
            obtain ⟨g1, g2⟩ := toksOf_ok (ρ := ρ) (φ := φ) h (.cons h1 (.nil m))
            exact ⟨[V], r.dens ρ φ, V, B, g1, rfl, g2, rfl, ih⟩
      · cases h
    · cases h
end
/-- What the unknown values are: terms; the memory below B stands as it was in w0. -/
@[reducible] def envS (B : Nat) (w0 : World) (ρ : Nat → Value) (φ : Nat → List Value → Value) : Env where
  E := fun t V => (t.unk = false → V = t.den ρ φ) ∧ conf t.srt V
  I m w := B ≤ w.heap.size ∧ (∀ r L, m r = some L → B ≤ L.block) ∧ ∀ k, k < B → w.heap[k]? = w0.heap[k]?
  st := by
    rintro W a z m w m' w' ⟨h1, h2, h3⟩ hmv
    have hs := hmv.size
    refine ⟨by omega, fun r L e => ?_, fun k hk => ?_⟩
    · rcases hmv.new r L e with e | ⟨_, _, e | ⟨r0, L0, _, e, e'⟩⟩
      · exact h2 r L e
      · omega
      · have := h2 r0 L0 e; omega
    · rw [hmv.fr k (by omega) fun r L _ e e' => by have := h2 r L e; omega]
      exact h3 k hk
  hp := by
    rintro m w w' hb ⟨h1, h2, h3⟩
    exact ⟨by rw [hb]; exact h1, h2, fun k hk => by rw [hb]; exact h3 k hk⟩
theorem envS_sym (B : Nat) (w0 : World) (ρ : Nat → Value) (φ : Nat → List Value → Value) : @Sym ρ φ (envS B w0 ρ φ) := @Sym.mk ρ φ (envS B w0 ρ φ) fun _ _ => Iff.rfl
end Go.Ev
namespace Go.Ev
open Go Go.RowKit
set_option linter.unusedVariables false
set_option linter.unusedSimpArgs false
set_option linter.unusedSectionVars false
noncomputable section
/-- Just these arguments. -/
def argsAre : List Tok → List AV → Bool
  | [], [] => true
  | t :: ts, x :: xs => match toTok x with
    | some a => a.same t && argsAre ts xs
    | none => false
  | _, _ => false
/-- Asked so it answers so. -/
def gIss : List (List Tok × AV) → List AV → Option AV
  | [], _ => none
  | p :: l, args => match argsAre p.1 args with
    | true => some p.2
    | false => gIss l args
/-- A row of texts is asked, and one text more: the answer is a term of them all. -/
def gRd (tag : Nat) (q : Srt) (N M Z : Nat) : Cl := fun _ args H nx => match args with
  | [.sl r o n c rel, .s sep] => match H.get r with
    | some (.c l _ _) => match cut l o n, Nat.ble n M, (rel || Nat.ble n c), Nat.ble sep.length Z with
      | some xs, true, true, true => match toksOf (List.replicate xs.length (.str N)) xs .nl with
        | some T => some ⟨.any (.ap tag q (.cn (.s sep) T)), H, nx, bit r, 0⟩
        | none => none
      | _, _, _, _ => none
    | _ => none
  | _ => none
end
variable [Env]
section
variable {P : Program} {ρ : Nat → Value} {φ : Nat → List Value → Value} [Sym ρ φ]
theorem argsAre_ok {m : Mp} : ∀ {ins : List Tok} {args : List AV} {A : List Value}, argsAre ins args = true → RelL m args A → A = ins.map (·.den ρ φ) ∧ ∀ t ∈ ins, conf t.srt (t.den ρ φ)
  | [], [], A, h, hA => ⟨hA.nil_inv, fun t ht => by cases ht⟩
  | [], _ :: _, A, h, hA => by simp [argsAre] at h
  | _ :: _, [], A, h, hA => by simp [argsAre] at h
  | t :: ts, x :: xs, A, h, hA => by
    obtain ⟨V, B, rfl, h1, h2⟩ := hA.cons_inv
    simp only [argsAre] at h
    split at h
    · rename_i a ha
      simp only [Bool.and_eq_true] at h
      have e := Tok.same_t h.1
      subst e
      obtain ⟨g1, g2⟩ := tok_rel (ρ := ρ) (φ := φ) h1 ha
      obtain ⟨k1, k2⟩ := argsAre_ok h.2 h2
      subst k1
      refine ⟨by rw [g1]; rfl, fun t ht => ?_⟩
      rcases List.mem_cons.1 ht with rfl | ht
      · rw [← g1]; exact g2
      · exact k2 t ht
    · cases h
end
end Go.Ev
