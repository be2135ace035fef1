/- Phenomena as texts: what the functions that are called answer (terms), and that it is so. -/
import Derived.Test.YtacbiajedbbnbaaGreatDoorUP02
import Derived.Test.YtacbiajedbbnbaaGreatDoorU7
import Derived.Test.YtacbiajedbbnbaaGreatDoorU4
import Derived.Lib.ItoaLen
import Derived.Lib.AtoiAllCases
namespace Go.Proofs.YtacbiajedbbnbaaGreatDoor
open Go.Ev Go.RowKit Go
set_option linter.unusedVariables false
set_option linter.unusedSectionVars false
set_option linter.unusedSimpArgs false
def str (l : List UInt8) : Value := .string ⟨l.toArray⟩
def bytesOf : Value → List UInt8
  | .string s => s.data.toList
  | _ => []
def puV (l : List UInt8) : Nat := match Lib.parseUintB 64 l with
  | .ok v => v
  | .range => 18446744073709551615
  | _ => 0
def atoiV (l : List UInt8) : Int := match Lib.atoiAll l with
  | .ok v => v
  | .range => Lib.atoiSat l
  | _ => 0
/-- What the functions answer, by their tags. -/
def phF (tag : Nat) (vs : List Value) : Value := match tag, vs with
  | 1, [.int _ n] => str (Lib.itoa n)
  | 2, [.int _ n, _] => str (Lib.decDigits n.toNat)
  | 3, [.int _ n] => str (Lib.decDigits n.toNat)
  | 4, [.int _ a, .int _ b] => str (verT a.toNat b.toNat)
  | 6, .string sep :: l => str (Lib.join (l.map bytesOf) sep.data.toList)
  | 7, [.string s, .string sep] => str (Lib.cut s.data.toList sep.data.toList).1
  | 8, [.string s, .string sep] => str (Lib.cut s.data.toList sep.data.toList).2.1
  | 10, [.string s, _, _] => .int .u64 (puV s.data.toList)
  | 11, [.string s] => .int .i64 (atoiV s.data.toList)
  | 12, [.int _ k, .int _ pos, .int _ place, .int _ t, .int _ x, .int _ w, .int _ n] => str (Ph.text ⟨k, pos, place, t.toNat, x.toNat, w.toNat, n.toNat⟩)
  | 13, [.string s] => .int .u64 (valW s.data.toList)
  | _, _ => undef
theorem str_conf {l : List UInt8} {n : Nat} (h : l.length ≤ n) : conf (.str n) (str l) := ⟨_, rfl, by show l.toArray.size ≤ n; simpa using h⟩
theorem has_u64 {n : Int} (h : IntKind.u64.has n) : 0 ≤ n ∧ n < 18446744073709551616 := by
  have : 0 ≤ n ∧ n ≤ 18446744073709551615 := by simpa [IntKind.has, IntKind.min, IntKind.max, IntKind.signed, IntKind.bits] using h
  omega
theorem has_i64 {n : Int} (h : IntKind.i64.has n) : -9223372036854775808 ≤ n ∧ n ≤ 9223372036854775807 := by
  simpa [IntKind.has, IntKind.min, IntKind.max, IntKind.signed, IntKind.bits] using h
theorem u64_has (n : Nat) (h : n < 18446744073709551616) : IntKind.u64.has (n : Int) := by
  have : (n : Int) ≤ 18446744073709551615 := by omega
  simpa [IntKind.has, IntKind.min, IntKind.max, IntKind.signed, IntKind.bits] using this
theorem i64_has {n : Int} (h1 : -9223372036854775808 ≤ n) (h2 : n ≤ 9223372036854775807) : IntKind.i64.has n := by
  simpa [IntKind.has, IntKind.min, IntKind.max, IntKind.signed, IntKind.bits] using And.intro h1 h2
theorem one_int {k : IntKind} {vs A : List Value} (h : ArgsR [(false, [.int k])] vs A) : ∃ n, k.has n ∧ vs = [.int k n] ∧ A = [.int k n] := by
  obtain ⟨us, ws, V, B, rfl, rfl, ⟨V', r, rfl, ⟨n, rfl, hn⟩, rfl⟩, h4, rfl, rfl⟩ := h
  cases h4
  exact ⟨n, hn, rfl, rfl⟩
theorem one_str {N : Nat} {vs A : List Value} (h : ArgsR [(false, [.str N])] vs A) : ∃ S : ByteArray, S.size ≤ N ∧ vs = [.string S] ∧ A = [.string S] := by
  obtain ⟨us, ws, V, B, rfl, rfl, ⟨V', r, rfl, ⟨S, rfl, hS⟩, rfl⟩, h4, rfl, rfl⟩ := h
  cases h4
  exact ⟨S, hS, rfl, rfl⟩
theorem pair_int {k k' : IntKind} {vs A : List Value} (h : ArgsR [(true, [.int k, .int k'])] vs A) : ∃ a b, k.has a ∧ k'.has b ∧ vs = [.int k a, .int k' b] ∧ A = [.agg #[.int k a, .int k' b]] := by
  obtain ⟨us, ws, V, B, rfl, rfl, ⟨V', r, rfl, ⟨n, rfl, hn⟩, V2, r2, rfl, ⟨n2, rfl, hn2⟩, rfl⟩, rfl, rfl, rfl⟩ := h
  exact ⟨n, n2, hn, hn2, rfl, rfl⟩
theorem itoa_le (n : Int) (h : IntKind.i64.has n) : (Lib.itoa n).length ≤ 21 := by
  have := has_i64 h
  have := Lib.itoa_length_le n this.1 this.2
  omega
section
variable [Env]
/-- The library's variables, wherever a function is called. -/
def LqI : Prop := ∀ m w, Env.I m w → Lq w.heap.size w
theorem itoa_at (ρ : Nat → Value) [Sym ρ phF] (hI : LqI) : CallAt Tryz.prog (gPure (gAp 1 (.str 21) [(false, [.int .i64])])) 18 :=
  gAp_at (φ := phF) ρ Tryz.func18 (by kernel_rfl) (by kernel_rfl) fun vs A m w h hw => by
    obtain ⟨n, hn, rfl, rfl⟩ := one_int h
    refine ⟨?_, str_conf (itoa_le n hn)⟩
    refine (Tryz.strconv_Itoa n (has_i64 hn).1 (has_i64 hn).2 w (hI m w hw).lv.tab).mono fun e w' => ?_
    rintro ⟨rfl, k, os, rfl⟩
    exact ⟨rfl, Lib.below_grow _ _ (Nat.le_refl _) _ _⟩
theorem phDigits_at (ρ : Nat → Value) [Sym ρ phF] (hI : LqI) : CallAt Tryz.prog (gPure (gAp 3 (.str 20) [(false, [.int .u64])])) 19 :=
  gAp_at (φ := phF) ρ Tryz.func19 (by kernel_rfl) (by kernel_rfl) fun vs A m w h hw => by
    obtain ⟨n, hn, rfl, rfl⟩ := one_int h
    have hn := has_u64 hn
    obtain ⟨n, rfl⟩ := Int.eq_ofNat_of_zero_le hn.1
    refine ⟨?_, str_conf (decDigits_le20 _ (by omega))⟩
    have HF := Lib.hid (formatUint_any n w (by omega) (hI m w hw).lv.tab)
    clear hw hI hn h
    go_enter Tryz.func19, Tryz.ntmps19
    go_wp2_with fail
    refine HF.out.mono ?_
    rintro e w' ⟨rfl, hb⟩
    go_wp2_with fail
    go_ret
    exact ⟨rfl, hb⟩
theorem refDigits_at (ρ : Nat → Value) [Sym ρ phF] : CallAt Tryz.prog (gPure (gAp 3 (.str 20) [(false, [.int .u64])])) 28 :=
  gAp_at (φ := phF) ρ Tryz.func28 (by kernel_rfl) (by kernel_rfl) fun vs A m w h hw => by
    obtain ⟨n, hn, rfl, rfl⟩ := one_int h
    have hn := has_u64 hn
    obtain ⟨n, rfl⟩ := Int.eq_ofNat_of_zero_le hn.1
    refine ⟨?_, str_conf (decDigits_le20 _ (by omega))⟩
    refine (refDigits n w (by omega)).mono fun e w' => ?_
    rintro ⟨rfl, rfl⟩
    exact ⟨rfl, Below.refl _ _⟩
theorem verT_le {a b : Nat} (ha : a < 18446744073709551616) (hb : b < 18446744073709551616) : (verT a b).length ≤ 41 := by
  have := decDigits_le20 a ha
  have := decDigits_le20 b hb
  simp [verT]; omega
theorem verText_at (ρ : Nat → Value) [Sym ρ phF] (hI : LqI) : CallAt Tryz.prog (gPure (gAp 4 (.str 41) [(true, [.int .u64, .int .u64])])) 20 :=
  gAp_at (φ := phF) ρ Tryz.func20 (by kernel_rfl) (by kernel_rfl) fun vs A m w h hw => by
    obtain ⟨a, b, ha, hb, rfl, rfl⟩ := pair_int h
    have ha := has_u64 ha
    have hb := has_u64 hb
    obtain ⟨a, rfl⟩ := Int.eq_ofNat_of_zero_le ha.1
    obtain ⟨b, rfl⟩ := Int.eq_ofNat_of_zero_le hb.1
    exact ⟨recVText_any a b w (by omega) (by omega) (hI m w hw).lv, str_conf (verT_le (by omega) (by omega))⟩
theorem refTold_at (ρ : Nat → Value) [Sym ρ phF] : CallAt Tryz.prog (gPure (gAp 4 (.str 41) [(true, [.int .u64, .int .u64])])) 29 :=
  gAp_at (φ := phF) ρ Tryz.func29 (by kernel_rfl) (by kernel_rfl) fun vs A m w h hw => by
    obtain ⟨a, b, ha, hb, rfl, rfl⟩ := pair_int h
    have ha := has_u64 ha
    have hb := has_u64 hb
    obtain ⟨a, rfl⟩ := Int.eq_ofNat_of_zero_le ha.1
    obtain ⟨b, rfl⟩ := Int.eq_ofNat_of_zero_le hb.1
    exact ⟨refToldV_any a b w (by omega) (by omega), str_conf (verT_le (by omega) (by omega))⟩
theorem value_at (ρ : Nat → Value) [Sym ρ phF] : CallAt Tryz.prog (gPure (gAp 13 (.int .u64) [(false, [.str 200])])) 27 :=
  gAp_at (φ := phF) ρ Tryz.func27 (by kernel_rfl) (by kernel_rfl) fun vs A m w h hw => by
    obtain ⟨S, hS, rfl, rfl⟩ := one_str h
    refine ⟨?_, _, rfl, u64_has _ (valW_lt _)⟩
    refine (refValue_any S w (by omega)).mono fun e w' => ?_
    rintro ⟨rfl, rfl⟩
    exact ⟨rfl, Below.refl _ _⟩
theorem join_le (sep : List UInt8) : ∀ (l : List (List UInt8)) (N Z : Nat), (∀ x ∈ l, x.length ≤ N) → sep.length ≤ Z → (Lib.join l sep).length ≤ l.length * (N + Z)
  | [], N, Z, _, _ => by simp [Lib.join]
  | [x], N, Z, h, hz => by
    have := h x (by simp)
    rw [Lib.join_one]; simp; omega
  | x :: y :: l, N, Z, h, hz => by
    have ih := join_le sep (y :: l) N Z (fun z hz => h z (by simp only [List.mem_cons] at hz ⊢; exact .inr hz)) hz
    have hx := h x (by simp)
    rw [Lib.join_cons] at ih ⊢
    rw [show Lib.joinTail sep (y :: l) = sep ++ (y ++ Lib.joinTail sep l) from by simp [Lib.joinTail]]
    simp only [List.length_append, List.length_cons] at ih ⊢
    rw [show (l.length + 1 + 1) * (N + Z) = (l.length + 1) * (N + Z) + (N + Z) from by rw [Nat.succ_mul]]
    omega
theorem joinP_at (ρ : Nat → Value) [Sym ρ phF] : CallAt Tryz.prog (gRd 6 (.str 424) 41 8 12) 16 :=
  gRd_at (φ := phF) ρ Tryz.func16 (by kernel_rfl) (by kernel_rfl) fun b off cp vs S m w h1 h2 h3 h4 h5 h6 hw => by
    have hl := join_le S.data.toList (vs.map (·.data.toList)) 41 12 (fun x hx => by
      obtain ⟨y, hy, rfl⟩ := List.mem_map.1 hx
      have := h5 y hy; rwa [ba_size]) (by rw [ba_size]; exact h6)
    rw [List.length_map] at hl
    have hl2 : (Lib.join (vs.map (·.data.toList)) S.data.toList).length ≤ 424 := Nat.le_trans hl (by have := Nat.mul_le_mul_right 53 h3; omega)
    have e : phF 6 (.string S :: vs.map .string) = str (Lib.join (vs.map (·.data.toList)) S.data.toList) := by
      simp [phF, bytesOf, Function.comp_def]
    rw [e]
    exact ⟨Tryz.strings_Join b off cp vs S w h1 h2 (by omega) (by omega) (by omega), str_conf hl2⟩
end
end Go.Proofs.YtacbiajedbbnbaaGreatDoor
