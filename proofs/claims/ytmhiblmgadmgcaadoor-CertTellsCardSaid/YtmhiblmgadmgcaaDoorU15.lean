/- Edges' texts: contracts of Text, on both sides, and of the document's edge, by the evaluator. Ahead of it: Edges as texts: what the functions that are called answer (terms), and that it is so. Edges as texts, told: by the evaluator with unknown values, way by way. -/
import Derived.Test.YtmhiblmgadmgcaaDoorUP02
import Derived.Test.YtmhiblmgadmgcaaDoorU7
import Derived.Test.YtmhiblmgadmgcaaDoorU18
import Derived.Test.YtmhiblmgadmgcaaDoorU4
import Derived.Test.YtmhiblmgadmgcaaDoorU6
import Derived.Test.YtmhiblmgadmgcaaDoorUE03
import Derived.Lib.ItoaLen
import Derived.Lib.AtoiAllCases
namespace Go.Proofs.YtmhiblmgadmgcaaDoor
open Go.Ev Go.RowKit Go
set_option linter.unusedVariables false
set_option linter.unusedSectionVars false
set_option linter.unusedSimpArgs false
def str (l : List UInt8) : Value := .string ⟨l.toArray⟩
def bytesOf : Value → List UInt8
  | .string s => s.data.toList
  | _ => []
def puV (l : List UInt8) : Nat := match Lib.parseUintB 64 l with
  | .ok v => v
  | .range => 18446744073709551615
  | _ => 0
def atoiV (l : List UInt8) : Int := match Lib.atoiAll l with
  | .ok v => v
  | .range => Lib.atoiSat l
  | _ => 0
/-- What the functions answer, by their tags. -/
def phF (tag : Nat) (vs : List Value) : Value := match tag, vs with
  | 1, [.int _ n] => str (Lib.itoa n)
  | 2, [.int _ n, _] => str (Lib.decDigits n.toNat)
  | 3, [.int _ n] => str (Lib.decDigits n.toNat)
  | 4, [.int _ a, .int _ b] => str (verT a.toNat b.toNat)
  | 6, .string sep :: l => str (Lib.join (l.map bytesOf) sep.data.toList)
  | 7, [.string s, .string sep] => str (Lib.cut s.data.toList sep.data.toList).1
  | 8, [.string s, .string sep] => str (Lib.cut s.data.toList sep.data.toList).2.1
  | 10, [.string s, _, _] => .int .u64 (puV s.data.toList)
  | 11, [.string s] => .int .i64 (atoiV s.data.toList)
  | 12, [.int _ a, .int _ b, .int _ k, .int _ x, .int _ sw, .int _ sn, .int _ mw, .int _ mn, .int _ p] => str (Ed.text ⟨a, b, k, x.toNat, sw.toNat, sn.toNat, mw.toNat, mn.toNat, p⟩)
  | 13, [.string s] => .int .u64 (valW s.data.toList)
  | _, _ => undef
theorem str_conf {l : List UInt8} {n : Nat} (h : l.length ≤ n) : conf (.str n) (str l) := ⟨_, rfl, by show l.toArray.size ≤ n; simpa using h⟩
theorem has_u64 {n : Int} (h : IntKind.u64.has n) : 0 ≤ n ∧ n < 18446744073709551616 := by
  have : 0 ≤ n ∧ n ≤ 18446744073709551615 := by simpa [IntKind.has, IntKind.min, IntKind.max, IntKind.signed, IntKind.bits] using h
  omega
theorem has_i64 {n : Int} (h : IntKind.i64.has n) : -9223372036854775808 ≤ n ∧ n ≤ 9223372036854775807 := by
  simpa [IntKind.has, IntKind.min, IntKind.max, IntKind.signed, IntKind.bits] using h
theorem u64_has (n : Nat) (h : n < 18446744073709551616) : IntKind.u64.has (n : Int) := by
  have : (n : Int) ≤ 18446744073709551615 := by omega
  simpa [IntKind.has, IntKind.min, IntKind.max, IntKind.signed, IntKind.bits] using this
theorem i64_has {n : Int} (h1 : -9223372036854775808 ≤ n) (h2 : n ≤ 9223372036854775807) : IntKind.i64.has n := by
  simpa [IntKind.has, IntKind.min, IntKind.max, IntKind.signed, IntKind.bits] using And.intro h1 h2
theorem one_int {k : IntKind} {vs A : List Value} (h : ArgsR [(false, [.int k])] vs A) : ∃ n, k.has n ∧ vs = [.int k n] ∧ A = [.int k n] := by
  obtain ⟨us, ws, V, B, rfl, rfl, ⟨V', r, rfl, ⟨n, rfl, hn⟩, rfl⟩, h4, rfl, rfl⟩ := h
  cases h4
  exact ⟨n, hn, rfl, rfl⟩
theorem pair_int {k k' : IntKind} {vs A : List Value} (h : ArgsR [(true, [.int k, .int k'])] vs A) : ∃ a b, k.has a ∧ k'.has b ∧ vs = [.int k a, .int k' b] ∧ A = [.agg #[.int k a, .int k' b]] := by
  obtain ⟨us, ws, V, B, rfl, rfl, ⟨V', r, rfl, ⟨n, rfl, hn⟩, V2, r2, rfl, ⟨n2, rfl, hn2⟩, rfl⟩, rfl, rfl, rfl⟩ := h
  exact ⟨n, n2, hn, hn2, rfl, rfl⟩
theorem itoa_le (n : Int) (h : IntKind.i64.has n) : (Lib.itoa n).length ≤ 21 := by
  have := has_i64 h
  have := Lib.itoa_length_le n this.1 this.2
  omega
section
variable [Env]
/-- The library's variables, wherever a function is called. -/
def LqI : Prop := ∀ m w, Env.I m w → Lq w.heap.size w
theorem itoa_at (ρ : Nat → Value) [Sym ρ phF] (hI : LqI) : CallAt Tryd.prog (gPure (gAp 1 (.str 21) [(false, [.int .i64])])) 36 :=
  gAp_at (φ := phF) ρ Tryd.func36 (by kernel_rfl) (by kernel_rfl) fun vs A m w h hw => by
    obtain ⟨n, hn, rfl, rfl⟩ := one_int h
    refine ⟨?_, str_conf (itoa_le n hn)⟩
    refine (Tryd.strconv_Itoa n (has_i64 hn).1 (has_i64 hn).2 w (hI m w hw).lv.tab).mono fun e w' => ?_
    rintro ⟨rfl, k, os, rfl⟩
    exact ⟨rfl, Lib.below_grow _ _ (Nat.le_refl _) _ _⟩
theorem refDigits_at (ρ : Nat → Value) [Sym ρ phF] : CallAt Tryd.prog (gPure (gAp 3 (.str 20) [(false, [.int .u64])])) 38 :=
  gAp_at (φ := phF) ρ Tryd.func38 (by kernel_rfl) (by kernel_rfl) fun vs A m w h hw => by
    obtain ⟨n, hn, rfl, rfl⟩ := one_int h
    have hn := has_u64 hn
    obtain ⟨n, rfl⟩ := Int.eq_ofNat_of_zero_le hn.1
    refine ⟨?_, str_conf (decDigits_le20 _ (by omega))⟩
    refine (refDigits n w (by omega)).mono fun e w' => ?_
    rintro ⟨rfl, rfl⟩
    exact ⟨rfl, Below.refl _ _⟩
theorem fmtUint_at (ρ : Nat → Value) [Sym ρ phF] (hI : LqI) (n : Nat) (x : Nat) (hx : x < 18446744073709551616) (hr : ρ n = .int .u64 x) : CallAt Tryd.prog (gPure (gIss [([.v n (.int .u64), .i .i64 10], .any (.ap 3 (.str 20) (.cn (.v n (.int .u64)) .nl)))])) 51 :=
  gIss_at (ρ := ρ) (φ := phF) Tryd.func51 (by kernel_rfl) (by kernel_rfl) fun p hp m w hw => by
    simp only [List.mem_cons, List.not_mem_nil, or_false] at hp
    subst hp
    have e : (Tok.v n (.int .u64)).den ρ phF = .int .u64 (x : Nat) := hr
    have e2 : (Tok.ap 3 (.str 20) (.cn (.v n (.int .u64)) .nl)).den ρ phF = str (Lib.decDigits x) := by
      show phF 3 [(Tok.v n (.int .u64)).den ρ phF] = _
      rw [e]; rfl
    simp only [List.map_cons, List.map_nil, e]
    refine (formatUint_any x w hx (hI m w hw).lv.tab).mono fun e w' => ?_
    rintro ⟨rfl, hb⟩
    exact ⟨_, rfl, rel_tok (ρ := ρ) (φ := phF) e2.symm (str_conf (decDigits_le20 _ hx)), hb⟩
theorem verT_le {a b : Nat} (ha : a < 18446744073709551616) (hb : b < 18446744073709551616) : (verT a b).length ≤ 41 := by
  have := decDigits_le20 a ha
  have := decDigits_le20 b hb
  simp [verT]; omega
theorem verText_at (ρ : Nat → Value) [Sym ρ phF] (hI : LqI) : CallAt Tryd.prog (gPure (gAp 4 (.str 41) [(true, [.int .u64, .int .u64])])) 52 :=
  gAp_at (φ := phF) ρ Tryd.func52 (by kernel_rfl) (by kernel_rfl) fun vs A m w h hw => by
    obtain ⟨a, b, ha, hb, rfl, rfl⟩ := pair_int h
    have ha := has_u64 ha
    have hb := has_u64 hb
    obtain ⟨a, rfl⟩ := Int.eq_ofNat_of_zero_le ha.1
    obtain ⟨b, rfl⟩ := Int.eq_ofNat_of_zero_le hb.1
    exact ⟨recVText_any a b w (by omega) (by omega) (hI m w hw).lv, str_conf (verT_le (by omega) (by omega))⟩
theorem refTold_at (ρ : Nat → Value) [Sym ρ phF] : CallAt Tryd.prog (gPure (gAp 4 (.str 41) [(true, [.int .u64, .int .u64])])) 55 :=
  gAp_at (φ := phF) ρ Tryd.func55 (by kernel_rfl) (by kernel_rfl) fun vs A m w h hw => by
    obtain ⟨a, b, ha, hb, rfl, rfl⟩ := pair_int h
    have ha := has_u64 ha
    have hb := has_u64 hb
    obtain ⟨a, rfl⟩ := Int.eq_ofNat_of_zero_le ha.1
    obtain ⟨b, rfl⟩ := Int.eq_ofNat_of_zero_le hb.1
    exact ⟨refToldV_any a b w (by omega) (by omega), str_conf (verT_le (by omega) (by omega))⟩
theorem join_le (sep : List UInt8) : ∀ (l : List (List UInt8)) (N Z : Nat), (∀ x ∈ l, x.length ≤ N) → sep.length ≤ Z → (Lib.join l sep).length ≤ l.length * (N + Z)
  | [], N, Z, _, _ => by simp [Lib.join]
  | [x], N, Z, h, hz => by
    have := h x (by simp)
    rw [Lib.join_one]; simp; omega
  | x :: y :: l, N, Z, h, hz => by
    have ih := join_le sep (y :: l) N Z (fun z hz => h z (by simp only [List.mem_cons] at hz ⊢; exact .inr hz)) hz
    have hx := h x (by simp)
    rw [Lib.join_cons] at ih ⊢
    rw [show Lib.joinTail sep (y :: l) = sep ++ (y ++ Lib.joinTail sep l) from by simp [Lib.joinTail]]
    simp only [List.length_append, List.length_cons] at ih ⊢
    rw [show (l.length + 1 + 1) * (N + Z) = (l.length + 1) * (N + Z) + (N + Z) from by rw [Nat.succ_mul]]
    omega
theorem joinP_at (ρ : Nat → Value) [Sym ρ phF] : CallAt Tryd.prog (gRd 6 (.str 424) 41 8 12) 37 :=
  gRd_at (φ := phF) ρ Tryd.func37 (by kernel_rfl) (by kernel_rfl) fun b off cp vs S m w h1 h2 h3 h4 h5 h6 hw => by
    have hl := join_le S.data.toList (vs.map (·.data.toList)) 41 12 (fun x hx => by
      obtain ⟨y, hy, rfl⟩ := List.mem_map.1 hx
      have := h5 y hy; rwa [ba_size]) (by rw [ba_size]; exact h6)
    rw [List.length_map] at hl
    have hl2 : (Lib.join (vs.map (·.data.toList)) S.data.toList).length ≤ 424 := Nat.le_trans hl (by have := Nat.mul_le_mul_right 53 h3; omega)
    have e : phF 6 (.string S :: vs.map .string) = str (Lib.join (vs.map (·.data.toList)) S.data.toList) := by
      simp [phF, bytesOf, Function.comp_def]
    rw [e]
    exact ⟨Tryd.strings_Join b off cp vs S w h1 h2 (by omega) (by omega) (by omega), str_conf hl2⟩
end
end Go.Proofs.YtmhiblmgadmgcaaDoor
namespace Go.Proofs.YtmhiblmgadmgcaaDoor
open Go.Ev Go
set_option linter.unusedVariables false
set_option maxRecDepth 1000000
def tI (n : Nat) : Tok := .v n (.int .i64)
def tU (n : Nat) : Tok := .v n (.int .u64)
def i0 : Tok := .i .i64 0
noncomputable def phOrc (l : List (FuncId × Cl)) (f : FuncId) : Option Cl := List.rec (motive := fun _ => Option Cl) (orc f) (fun p _ ih => Bool.rec ih (some p.2) (Nat.beq f p.1)) l
def isTok (t : Tok) : Option Ou → Bool
  | some u => match u.v with
    | .any a => a.same t
    | _ => false
  | none => false
def isStr (l : List UInt8) : Option Ou → Bool
  | some u => match u.v with
    | .s a => seq' a l
    | _ => false
  | none => false
noncomputable def evS (Φ : List Fact) (l : List (FuncId × Cl)) (f : FuncId) (args : List AV) : Option Ou := evF Tryd.prog (sOp Tryd.prog Φ) (phOrc l) 50 f args .e 8
def apT (tag : Nat) (q : Srt) (l : List Tok) : Tok := .ap tag q (l.foldr .cn .nl)
def catL (a : Tok) : List Tok → Tok
  | [] => a
  | b :: l => catL (.cat a b) l
def sameToks : List Tok → List AV → Bool
  | [], [] => true
  | t :: ts, x :: xs => match x with
    | .any a => a.same t && sameToks ts xs
    | _ => false
  | _, _ => false
def isAgg (l : List Tok) : Option Ou → Bool
  | some u => match u.v with
    | .a xs => sameToks l xs
    | _ => false
  | none => false
/-- An edge's cells. -/
def edCells (k : AV) : List AV := [.any (tI 0), .any (tI 1), k, .any (tU 3), .any (tU 4), .any (tU 5), .any (tU 6), .any (tU 7), .any (tI 8)]
def edToks : List Tok := [tI 0, tI 1, tI 2, tU 3, tU 4, tU 5, tU 6, tU 7, tI 8]
noncomputable def edL : List (FuncId × Cl) := [(36, gPure (gAp 1 (.str 21) [(false, [.int .i64])])), (51, gPure (gIss [([tU 3, .i .i64 10], .any (apT 3 (.str 20) [tU 3]))])), (38, gPure (gAp 3 (.str 20) [(false, [.int .u64])])),
  (52, gPure (gAp 4 (.str 41) [(true, [.int .u64, .int .u64])])), (55, gPure (gAp 4 (.str 41) [(true, [.int .u64, .int .u64])])), (37, gRd 6 (.str 424) 41 8 12)]
def wordT (k : Int) : List UInt8 := if k = 1 then [119, 119] else if k = 2 then [119, 114] else if k = 3 then [114, 119] else if k = 4 then [112, 119, 114] else [112, 114, 119]
/-- From, To and Pos may be in a text; the last one: Pos is below nought. -/
def edOkΦ (b : Bool) : List Fact := [⟨.lt, tI 0, i0, false⟩, ⟨.lt, tI 1, i0, false⟩, ⟨.lt, tI 8, .i .i64 (-1), false⟩, ⟨.lt, tI 8, i0, b⟩]
def edTold (k : Int) : Tok := apT 6 (.str 424) [.s [32], apT 1 (.str 21) [tI 0], .s (wordT k), apT 1 (.str 21) [tI 1], apT 3 (.str 20) [tU 3], apT 4 (.str 41) [tU 4, tU 5], apT 4 (.str 41) [tU 6, tU 7], apT 1 (.str 21) [tI 8]]
def five (f : Int → Bool) : Bool := [1, 2, 3, 4, 5].all f
theorem evEdText (b : Bool) : five (fun k => isTok (edTold k) (evS (edOkΦ b) edL 33 [.a (edCells (.i .i64 k))])) = true := by cases b <;> decide +kernel
/-- What is none's. -/
def noK0 : List Fact := [⟨.lt, tI 2, .i .i64 1, true⟩]
def noK6 : List Fact := [⟨.lt, tI 2, .i .i64 1, false⟩, ⟨.lt, tI 2, .i .i64 6, false⟩, ⟨.lt, .i .i64 5, tI 2, true⟩]
def no1 : List Fact := [⟨.lt, tI 0, i0, true⟩]
def no2 : List Fact := [⟨.lt, tI 0, i0, false⟩, ⟨.lt, tI 1, i0, true⟩]
def no3 : List Fact := [⟨.lt, tI 0, i0, false⟩, ⟨.lt, tI 1, i0, false⟩, ⟨.lt, tI 8, .i .i64 (-1), true⟩]
noncomputable def edNo (f : FuncId) : Bool := (isStr [] (evS noK0 edL f [.a (edCells (.any (tI 2)))]) && isStr [] (evS noK6 edL f [.a (edCells (.any (tI 2)))])) && five fun k => isStr [] (evS no1 edL f [.a (edCells (.i .i64 k))]) && isStr [] (evS no2 edL f [.a (edCells (.i .i64 k))]) && isStr [] (evS no3 edL f [.a (edCells (.i .i64 k))])
theorem evEdNo : edNo 33 = true := by decide +kernel
/-! The reference's. -/
def dU (n : Nat) : Tok := apT 3 (.str 20) [.cv .u64 (tI n)]
def refTold (b : Bool) (k : Int) : Tok := catL (.cat (dU 0) (.s [32])) [.s (wordT k), .s [32], dU 1, .s [32], apT 3 (.str 20) [tU 3], .s [32], apT 4 (.str 41) [tU 4, tU 5], .s [32], apT 4 (.str 41) [tU 6, tU 7], .s [32], if b then .s [45, 49] else dU 8]
theorem evRefText (b : Bool) : five (fun k => isTok (refTold b k) (evS (edOkΦ b) edL 34 [.a (edCells (.i .i64 k))])) = true := by cases b <;> decide +kernel
theorem evRefNo : edNo 34 = true := by decide +kernel
theorem evDocEd : isAgg edToks (evS [] [] 41 [.a (edToks.map .any)]) = true := by decide +kernel
end Go.Proofs.YtmhiblmgadmgcaaDoor
namespace Go.Proofs.YtmhiblmgadmgcaaDoor
open Go.Ev Go.RowKit Go
set_option linter.unusedVariables false
set_option linter.unusedSectionVars false
set_option linter.unusedSimpArgs false
theorem evS_calls [Env] {ρ : Nat → Value} [Sym ρ phF] {Φ : List Fact} {l : List (FuncId × Cl)} {f : FuncId} {args : List AV} {A : Array Value} {u : Ou} (hΦ : FactsOk ρ phF Φ) (hl : ∀ p ∈ l, CallAt Tryd.prog p.2 p.1) (hu : evS Φ l f args = some u) (hA : RelL (fun _ => none) args A.toList)
    {fn : Func} (hf : Tryd.prog.funcs[f]? = some fn) (hbd : fn.body.isSome = true) (hok : callOk fn = true) (w : World) (hI : Env.I (fun _ => none) w) : Calls Tryd.prog f A w fun e w' => ∃ V m', e = .returned V ∧ Rel m' u.v V ∧ Below w.heap.size w w' :=
  (calls_sym (Φ := Φ) hΦ (orcL_at hl) hu hA hf hbd hok w hI).mono fun e w' ⟨V, m', h1, h2, h3, _⟩ => ⟨V, m', h1, h2, h3⟩
theorem tok_t {a b : Tok} (h : a.same b = true) : a = b := @Tok.same_t env0 a b h
theorem int_t {a b : Int} (h : ieq a b = true) : a = b := by rw [@ieq_eq env0] at h; simpa using h
theorem str_t {a b : List UInt8} (h : seq' a b = true) : a = b := by rw [@seq'_eq env0] at h; simpa using h
theorem isTok_t {t : Tok} {r : Option Ou} (h : isTok t r = true) : ∃ u, r = some u ∧ u.v = .any t := by
  unfold isTok at h
  split at h
  · rename_i u
    split at h
    · rename_i a ha; exact ⟨u, rfl, by rw [ha, tok_t h]⟩
    · cases h
  · cases h
theorem isStr_t {l : List UInt8} {r : Option Ou} (h : isStr l r = true) : ∃ u, r = some u ∧ u.v = .s l := by
  unfold isStr at h
  split at h
  · rename_i u
    split at h
    · rename_i a ha; exact ⟨u, rfl, by rw [ha, str_t h]⟩
    · cases h
  · cases h
theorem conf_i64 {n : Int} (h1 : -9223372036854775808 ≤ n) (h2 : n ≤ 9223372036854775807) : conf (.int .i64) (.int .i64 n) := ⟨n, rfl, i64_has h1 h2⟩
theorem conf_u64 {n : Nat} (h : n < 18446744073709551616) : conf (.int .u64) (.int .u64 n) := ⟨n, rfl, u64_has n h⟩
theorem Lq.of_heap {B : Nat} {w w' : World} (h : Lq B w) (hk : ∀ k, k < B → w'.heap[k]? = w.heap[k]?) : Lq B w' := by
  obtain ⟨⟨h1, h4⟩⟩ := h
  refine ⟨⟨?_, h4⟩⟩
  unfold Lib.TabIs World.var? at h1 ⊢
  rw [gTab] at h1 ⊢
  simp only [Option.bind_some] at h1 ⊢
  rw [hk _ h4]; exact h1
theorem lqI_envS {w : World} (ρ : Nat → Value) (hL : Lq w.heap.size w) : @LqI (envS w.heap.size w ρ phF) := fun m w' ⟨h1, _, h3⟩ => (hL.of_heap h3).mono h1
theorem envS_start (w : World) (ρ : Nat → Value) : @Env.I (envS w.heap.size w ρ phF) (fun _ => none) w := ⟨Nat.le_refl _, (fun _ _ e => by cases e), fun _ _ => rfl⟩
theorem itoa_of {n : Int} (h : 0 ≤ n) : Lib.itoa n = Lib.decDigits n.toNat := by unfold Lib.itoa; rw [if_neg (by omega)]
theorem wrap_u {n : Int} (h0 : 0 ≤ n) (h1 : n ≤ 9223372036854775807) : IntKind.u64.wrap n = n := by
  simp only [IntKind.wrap, IntKind.signed, IntKind.bits]; simp; omega
/-- The unknown values: an edge's cells. -/
def edRho (e : Ed) (n : Nat) : Value := e.vals.getD n undef
theorem edL_at [Env] (e : Ed) (hn : e.nums) [Sym (edRho e) phF] (hI : LqI) : ∀ p ∈ edL, CallAt Tryd.prog p.2 p.1 := by
  intro p hp
  simp only [edL, List.mem_cons, List.not_mem_nil, or_false] at hp
  rcases hp with rfl | rfl | rfl | rfl | rfl | rfl
  · exact itoa_at (edRho e) hI
  · exact fmtUint_at (edRho e) hI 3 e.x hn.2.2.2.1 rfl
  · exact refDigits_at (edRho e)
  · exact verText_at (edRho e) hI
  · exact refTold_at (edRho e)
  · exact joinP_at (edRho e)
section
variable {e : Ed}
theorem edCells_rel [Env] [Sym (edRho e) phF] (hn : e.nums) {k : AV} (hk : Rel (fun _ => none) k (.int .i64 e.k)) : RelL (fun _ => none) [.a (edCells k)] [.agg e.vals.toArray] := by
  obtain ⟨b0, b1, b2, b3, b4, b5, b6, b7, b8⟩ := hn
  have ti : ∀ {n : Nat} {x : Int}, i64 x → edRho e n = .int .i64 x → Rel (fun _ => none) (.any (tI n)) (.int .i64 x) := fun h h2 => rel_tok (ρ := edRho e) (φ := phF) h2.symm (conf_i64 h.1 h.2)
  have tu : ∀ {n : Nat} {x : Nat}, x < 18446744073709551616 → edRho e n = .int .u64 x → Rel (fun _ => none) (.any (tU n)) (.int .u64 x) := fun h h2 => rel_tok (ρ := edRho e) (φ := phF) h2.symm (conf_u64 h)
  refine .cons (.a_of ?_) (.nil _)
  exact .cons (ti b0 rfl) (.cons (ti b1 rfl) (.cons hk (.cons (tu b3 rfl) (.cons (tu b4 rfl) (.cons (tu b5 rfl) (.cons (tu b6 rfl) (.cons (tu b7 rfl) (.cons (ti b8 rfl) (.nil _)))))))))
theorem five_at {g : Int → Bool} (h : five g = true) {k : Int} (h1 : 1 ≤ k) (h2 : k ≤ 5) : g k = true := by
  simp only [five, List.all_cons, List.all_nil, Bool.and_true, Bool.and_eq_true] at h
  obtain ⟨a, b, c, d, e⟩ := h
  obtain rfl | rfl | rfl | rfl | rfl : k = 1 ∨ k = 2 ∨ k = 3 ∨ k = 4 ∨ k = 5 := by omega
  all_goals assumption
theorem lt_holds {x y : Int} {v : Bool} (h : decide (x < y) = v) : Cm.lt.holds (.int .i64 x) (.int .i64 y) = some v := by
  unfold Cm.holds; simp [h]
theorem edText_gen {f : FuncId} {fn : Func} (hf : Tryd.prog.funcs[f]? = some fn) (hbd : fn.body.isSome = true) (hok : callOk fn = true) (T : Bool → Int → Tok) (hyes : ∀ b, five (fun k => isTok (T b k) (evS (edOkΦ b) edL f [.a (edCells (.i .i64 k))])) = true) (hno : edNo f = true)
    (huk : ∀ b k, (T b k).unk = false) (hT : e.ok → (T (decide (e.p < 0)) e.k).den (edRho e) phF = str e.text) (hn : e.nums) (w : World) (hL : Lq w.heap.size w) : Calls Tryd.prog f #[.agg e.vals.toArray] w fun r w' => r = .returned (str e.text) ∧ Below w.heap.size w w' := by
  letI : Env := envS w.heap.size w (edRho e) phF
  haveI : Sym (edRho e) phF := envS_sym _ _ _ _
  have hI : LqI := lqI_envS _ hL
  have go : ∀ {Φ k t u}, FactsOk (edRho e) phF Φ → Rel (fun _ => none) k (.int .i64 e.k) → evS Φ edL f [.a (edCells k)] = some u → (∀ m V, Rel m u.v V → V = t) → Calls Tryd.prog f #[.agg e.vals.toArray] w fun r w' => r = .returned t ∧ Below w.heap.size w w' := by
    intro Φ k t u h1 h2 h3 h4
    refine (evS_calls h1 (edL_at e hn hI) h3 (edCells_rel hn h2) hf hbd hok w (envS_start w _)).mono fun e w' => ?_
    rintro ⟨V, m', rfl, hv, hb⟩
    exact ⟨by rw [h4 m' V hv], hb⟩
  have none_ : ∀ {Φ k}, FactsOk (edRho e) phF Φ → Rel (fun _ => none) k (.int .i64 e.k) → isStr [] (evS Φ edL f [.a (edCells k)]) = true → ¬ e.ok → Calls Tryd.prog f #[.agg e.vals.toArray] w fun r w' => r = .returned (str e.text) ∧ Below w.heap.size w w' := by
    intro Φ k h1 h2 h3 h4
    obtain ⟨u, e1, e2⟩ := isStr_t h3
    refine go h1 h2 e1 fun m V hv => ?_
    rw [e2] at hv
    cases hv
    rename_i S hS
    rw [Ed.text_nil.2 h4]
    exact congrArg Value.string (ba_ext hS)
  unfold edNo at hno
  simp only [Bool.and_eq_true] at hno
  obtain ⟨⟨n0, n6⟩, n5⟩ := hno
  have tok2 : Rel (fun _ => none) (.any (tI 2)) (.int .i64 e.k) := rel_tok (ρ := edRho e) (φ := phF) rfl (conf_i64 hn.2.2.1.1 hn.2.2.1.2)
  by_cases k1 : e.k < 1
  · refine none_ (fun g hg => ?_) tok2 n0 (fun h => by have := h.1; omega)
    simp only [noK0, List.mem_cons, List.not_mem_nil, or_false] at hg
    subst hg
    exact lt_holds (by simpa using k1)
  by_cases k6 : 5 < e.k
  · refine none_ (fun g hg => ?_) tok2 n6 (fun h => by have := h.2.1; omega)
    simp only [noK6, List.mem_cons, List.not_mem_nil, or_false] at hg
    rcases hg with rfl | rfl | rfl
    · exact lt_holds (by simpa using k1)
    · exact lt_holds (by have : ¬ e.k < 6 := by omega
                         simpa using this)
    · exact lt_holds (by simpa using k6)
  have kk : Rel (fun _ => none) (.i .i64 e.k) (.int .i64 e.k) := .i _ _
  have n5 := five_at n5 (k := e.k) (by omega) (by omega)
  simp only [Bool.and_eq_true] at n5
  obtain ⟨⟨m1, m2⟩, m3⟩ := n5
  by_cases c1 : e.a < 0
  · refine none_ (fun g hg => ?_) kk m1 (fun h => by have := h.2.2.1; omega)
    simp only [no1, List.mem_cons, List.not_mem_nil, or_false] at hg
    subst hg
    exact lt_holds (by simpa using c1)
  by_cases c2 : e.b < 0
  · refine none_ (fun g hg => ?_) kk m2 (fun h => by have := h.2.2.2.1; omega)
    simp only [no2, List.mem_cons, List.not_mem_nil, or_false] at hg
    rcases hg with rfl | rfl
    · exact lt_holds (by simpa using c1)
    · exact lt_holds (by simpa using c2)
  by_cases c3 : e.p < -1
  · refine none_ (fun g hg => ?_) kk m3 (fun h => by have := h.2.2.2.2; omega)
    simp only [no3, List.mem_cons, List.not_mem_nil, or_false] at hg
    rcases hg with rfl | rfl | rfl
    · exact lt_holds (by simpa using c1)
    · exact lt_holds (by simpa using c2)
    · exact lt_holds (by simpa using c3)
  have ho : e.ok := ⟨by omega, by omega, by omega, by omega, by omega⟩
  obtain ⟨u, e1, e2⟩ := isTok_t (five_at (hyes (decide (e.p < 0))) (k := e.k) (by omega) (by omega))
  refine go (fun g hg => ?_) kk e1 fun m V hv => ?_
  · simp only [edOkΦ, List.mem_cons, List.not_mem_nil, or_false] at hg
    rcases hg with rfl | rfl | rfl | rfl
    · exact lt_holds (by simpa using c1)
    · exact lt_holds (by simpa using c2)
    · exact lt_holds (by simpa using c3)
    · exact lt_holds rfl
  · rw [e2] at hv
    rw [← hT ho]
    exact (any_rel (ρ := edRho e) (φ := phF) hv (huk _ _)).1
theorem edText_any (hn : e.nums) (w : World) (hL : Lq w.heap.size w) : Calls Tryd.prog 33 #[.agg e.vals.toArray] w fun r w' => r = .returned (str e.text) ∧ Below w.heap.size w w' := by
  refine edText_gen Tryd.func33 (by kernel_rfl) (by kernel_rfl) (fun _ k => edTold k) evEdText evEdNo (fun _ _ => rfl) (fun ho => ?_) hn w hL
  have e1 : (edTold e.k).den (edRho e) phF = str (Lib.join [Lib.itoa e.a, wordT e.k, Lib.itoa e.b, Lib.decDigits (e.x : Int).toNat, verT (e.sw : Int).toNat (e.sn : Int).toNat, verT (e.mw : Int).toNat (e.mn : Int).toNat, Lib.itoa e.p] [32]) := rfl
  rw [e1, Ed.text_ok ho, itoa_of ho.2.2.1, itoa_of ho.2.2.2.1]
  rfl
theorem itoa_m1 {n : Int} (h1 : -1 ≤ n) (h2 : n < 0) : Lib.itoa n = [45, 49] := by
  obtain rfl : n = -1 := by omega
  unfold Lib.itoa
  rw [if_pos (by omega), show (-1 : Int).natAbs = 1 from rfl, Lib.decDigits]
  simp
theorem refEdText_any (hn : e.nums) (w : World) (hL : Lq w.heap.size w) : Calls Tryd.prog 34 #[.agg e.vals.toArray] w fun r w' => r = .returned (str e.text) ∧ Below w.heap.size w w' := by
  refine edText_gen Tryd.func34 (by kernel_rfl) (by kernel_rfl) refTold evRefText evRefNo (fun _ _ => rfl) (fun ho => ?_) hn w hL
  have h9 := hn.2.2.2.2.2.2.2.2
  have ha := hn.1
  have hb := hn.2.1
  have g := ho.2.2.2.2
  have q1 : IntKind.u64.wrap e.a = e.a := wrap_u ho.2.2.1 ha.2
  have q2 : IntKind.u64.wrap e.b = e.b := wrap_u ho.2.2.2.1 hb.2
  have e1 : (refTold true e.k).den (edRho e) phF = .string (⟨(Lib.decDigits (IntKind.u64.wrap e.a).toNat).toArray⟩ ++ ⟨[32].toArray⟩ ++ ⟨(wordT e.k).toArray⟩ ++ ⟨[32].toArray⟩ ++ ⟨(Lib.decDigits (IntKind.u64.wrap e.b).toNat).toArray⟩ ++ ⟨[32].toArray⟩ ++ ⟨(Lib.decDigits (e.x : Int).toNat).toArray⟩ ++ ⟨[32].toArray⟩ ++ ⟨(verT (e.sw : Int).toNat (e.sn : Int).toNat).toArray⟩ ++ ⟨[32].toArray⟩ ++ ⟨(verT (e.mw : Int).toNat (e.mn : Int).toNat).toArray⟩ ++ ⟨[32].toArray⟩ ++ ⟨[45, 49].toArray⟩) := rfl
  have e2 : (refTold false e.k).den (edRho e) phF = .string (⟨(Lib.decDigits (IntKind.u64.wrap e.a).toNat).toArray⟩ ++ ⟨[32].toArray⟩ ++ ⟨(wordT e.k).toArray⟩ ++ ⟨[32].toArray⟩ ++ ⟨(Lib.decDigits (IntKind.u64.wrap e.b).toNat).toArray⟩ ++ ⟨[32].toArray⟩ ++ ⟨(Lib.decDigits (e.x : Int).toNat).toArray⟩ ++ ⟨[32].toArray⟩ ++ ⟨(verT (e.sw : Int).toNat (e.sn : Int).toNat).toArray⟩ ++ ⟨[32].toArray⟩ ++ ⟨(verT (e.mw : Int).toNat (e.mn : Int).toNat).toArray⟩ ++ ⟨[32].toArray⟩ ++ ⟨(Lib.decDigits (IntKind.u64.wrap e.p).toNat).toArray⟩) := rfl
  by_cases hp : e.p < 0
  · rw [decide_eq_true hp, e1, Ed.text_ok ho, q1, q2]
    refine congrArg Value.string (ba_ext ?_)
    have e3 := itoa_m1 g hp
    have e4 : edWord e.k = wordT e.k := rfl
    simp [Ed.told, Ed.words, Lib.join_cons, Lib.joinTail, e3, e4]
  · have q3 : IntKind.u64.wrap e.p = e.p := wrap_u (by omega) h9.2
    rw [decide_eq_false hp, e2, Ed.text_ok ho, q1, q2, q3]
    refine congrArg Value.string (ba_ext ?_)
    have e3 := itoa_of (n := e.p) (by omega)
    have e4 : edWord e.k = wordT e.k := rfl
    simp [Ed.told, Ed.words, Lib.join_cons, Lib.joinTail, e3, e4]
theorem sameToks_rel [Env] {ρ : Nat → Value} [Sym ρ phF] {m : Mp} : ∀ {l : List Tok} {xs : List AV} {A : List Value}, (∀ t ∈ l, t.unk = false) → sameToks l xs = true → RelL m xs A → A = l.map (·.den ρ phF)
  | [], [], A, _, _, hA => hA.nil_inv
  | [], _ :: _, A, _, h, _ => by simp [sameToks] at h
  | _ :: _, [], A, _, h, _ => by simp [sameToks] at h
  | t :: ts, x :: xs, A, hu, h, hA => by
    obtain ⟨V, B, rfl, h1, h2⟩ := hA.cons_inv
    simp only [sameToks] at h
    split at h
    · rename_i a
      simp only [Bool.and_eq_true] at h
      have e := tok_t h.1
      subst e
      rw [(any_rel (ρ := ρ) (φ := phF) h1 (hu _ (by simp))).1, sameToks_rel (ρ := ρ) (fun t ht => hu t (by simp [ht])) h.2 h2]; rfl
    · cases h
/-- The document's edge: the same cells. -/
theorem docEdge_any (hn : e.nums) (w : World) (hL : Lq w.heap.size w) : Calls Tryd.prog 41 #[.agg e.vals.toArray] w fun r w' => r = .returned (.agg e.vals.toArray) ∧ Below w.heap.size w w' := by
  letI : Env := envS w.heap.size w (edRho e) phF
  haveI : Sym (edRho e) phF := envS_sym _ _ _ _
  have hI : LqI := lqI_envS _ hL
  have h := evDocEd
  unfold isAgg at h
  split at h
  · rename_i u hu
    split at h
    · rename_i xs hx
      refine (evS_calls (ρ := edRho e) (Φ := []) (fun g hg => by cases hg) (l := []) (fun p hp => by cases hp) hu (A := #[.agg e.vals.toArray]) (edCells_rel hn (k := .any (tI 2)) (rel_tok (ρ := edRho e) (φ := phF) rfl (conf_i64 hn.2.2.1.1 hn.2.2.1.2))) Tryd.func41 (by kernel_rfl) (by kernel_rfl) w (envS_start w _)).mono fun r w' => ?_
      rintro ⟨V, m', rfl, hv, hb⟩
      rw [hx] at hv
      cases hv
      rename_i A hl hA
      have e1 := sameToks_rel (ρ := edRho e) (fun t ht => by simp only [edToks, List.mem_cons, List.not_mem_nil, or_false] at ht; rcases ht with rfl | rfl | rfl | rfl | rfl | rfl | rfl | rfl | rfl <;> rfl) h (show RelL m' xs A.toList from ⟨hl, hA⟩)
      have e2 : A = e.vals.toArray := by apply Array.ext'; rw [e1]; rfl
      rw [e2]
      exact ⟨rfl, hb⟩
    · cases h
  · cases h
end
end Go.Proofs.YtmhiblmgadmgcaaDoor
