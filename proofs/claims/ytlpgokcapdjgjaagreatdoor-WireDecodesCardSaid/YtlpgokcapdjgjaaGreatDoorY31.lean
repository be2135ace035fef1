/- Walks. -/
import Derived.Test.YtlpgokcapdjgjaaGreatDoorYW04n
import Derived.Test.YtlpgokcapdjgjaaGreatDoorYShelf
import Derived.Shelf.Strings.SlTrimAscii
import Derived.Lib.AppendIntMem
import Derived.Test.YtlpgokcapdjgjaaGreatDoorY1
import Derived.Lib.Join
import Derived.Deep.DeepFit
set_option maxHeartbeats 1000000
set_option maxRecDepth 100000
namespace Go.Proofs.YtlpgokcapdjgjaaGreatDoor
open Go.RowKit Go
set_option linter.unusedVariables false
set_option linter.unusedSimpArgs false
theorem dS (s : ByteArray) : s.data.toList.length = s.size := (Lib.size_eq s).symm
theorem Ia {s t : ByteArray} (h : s.data.toList = t.data.toList) : s = t := by
 obtain ⟨⟨l⟩⟩ := s; obtain ⟨⟨m⟩⟩ := t; simp at h; simp [h]
theorem ut (n : Nat) (h : n < 18446744073709551616) : (Lib.decDigits n).length ≤ 20 := by
 rw [Lib.decDigits_length];rcases Nat.eq_zero_or_pos n with rfl | h0
 ·rw [Lib.nDigits_small (by omega)]; omega
 ·have := Lib.numDigits_eq n h0 h; split at this <;> omega
theorem ry (n : Nat) : (ByteArray.mk #[48, 49, 50, 51, 52, 53, 54, 55, 56, 57]).extract (n % 10) (n % 10 + 1) = ⟨#[UInt8.ofNat (48 + n % 10)]⟩ := by
 have h : ∀ k : Fin 10, (ByteArray.mk #[48, 49, 50, 51, 52, 53, 54, 55, 56, 57]).extract k.val (k.val + 1) = ⟨#[UInt8.ofNat (48 + k.val)]⟩ := by decide +kernel
 exact h ⟨n % 10, Nat.mod_lt _ (by omega)⟩
theorem EY (d : Nat) : ∀ (n : Nat) (w : World), n < 10 ^ (d + 1) → n < 18446744073709551616 →
  Calls Tryz.prog 80 #[.int .u64 n] w fun e w' => e = .returned (.string ⟨(Lib.decDigits n).toArray⟩) ∧ w' = w := by
 induction d with
 | zero =>
  intro n w hn _;have hn' : n < 10 := by simpa using hn
  clear hn
  go_enter Tryz.func80, Tryz.ntmps80
  go_wp2_with fail;go_ret
  refine ⟨?_, rfl⟩;rw [ry, Lib.decDigits, dif_pos hn', Nat.mod_eq_of_lt hn']; rfl
 | succ d ih =>
  intro n w hn h64;have hdiv : n / 10 < 10 ^ (d + 1) := by rw [Nat.pow_succ] at hn; omega
  have h := ih (n / 10) w hdiv (by omega);rw [show ((n / 10 : Nat) : Int) = (n : Int) / 10 from by simp] at h;have IH := hid h;clear h ih hdiv hn;by_cases hn' : n < 10
  ·go_enter Tryz.func80, Tryz.ntmps80
   go_wp2_with fail;go_ret
   refine ⟨?_, rfl⟩;rw [ry, Lib.decDigits, dif_pos hn', Nat.mod_eq_of_lt hn']; rfl
  ·go_enter Tryz.func80, Tryz.ntmps80
   go_wp2_with fail;refine IH.out.mono ?_;rintro e w1 ⟨rfl, rfl⟩;have hdl := ut (n / 10) (by omega);go_wp2_with fail;go_ret
   refine ⟨?_, rfl⟩;rw [ry]
   conv => rhs; rw [Lib.decDigits, dif_neg hn']
   congr 2
theorem zQ (u : Nat) (w : World) (hu64 : u < 18446744073709551616) (htab : Lib.TabIs Tryz.prog w "internal/strconv.uint64pow10" .u64 Lib.pow10Tab) :
  Calls Tryz.prog 190 #[.int .u64 u, .int .i64 10] w fun e w' => e = .returned (.string ⟨(Lib.decDigits u).toArray⟩) ∧ Below w.1.size w w' := by
 by_cases hs : u < 100
 ·go_enter Tryz.func190, Tryz.ntmps190
  go_wp2_with (go_at_call 214; refine (Tryz.internal_strconv_small u hs _).mono ?_; rintro e w' ⟨rfl, rfl⟩)
  go_ret
  exact ⟨rfl, br⟩
 ·have hu1 : 1 ≤ u := by omega
  have hnd20 : Lib.nDigits u ≤ 20 := by have := Lib.numDigits_eq u hu1 hu64; split at this <;> omega
  have hal : Tryz.prog.arrayLen 309 = 24 := by kernel_rfl
  have hel : ∃ e, Tryz.prog.underlying 309 = some (.array 24 e) ∧ Tryz.prog.cellsOf e = 1 := ⟨_, Tryz.underlying309, by kernel_rfl⟩;have hsl1 : ∀ W, (Instr.sliceAt 309 (.pointer (some ⟨w.1.size, 0, none⟩)) none (some (.int .i64 (Lib.nDigits u : Int))) none).run Tryz.prog W = .ok (.slice (some ⟨w.1.size, 0, none⟩) (Lib.nDigits u) 24) W := fun W => by
   rw [run_sliceAt_array_h W 309 ⟨w.1.size, 0, none⟩ (by kernel_rfl) .i64 (Lib.nDigits u : Int) (by omega) (by rw [hal]; omega)];go_simp
  have hH0 := Lib.holds_zero0 w 309 (Lib.nDigits u) (by omega);have hfmt := Tryz.internal_strconv_formatBase10 w.1.size 0 24 u (Array.replicate (Lib.nDigits u) 0) (w.alloc (.cells Lib.zeros24 309)) hH0 (by rw [Array.size_replicate]; exact Lib.lt_pow_nDigits u) hu64 (by rw [Array.size_replicate]; omega);rw [Array.size_replicate] at hfmt;have HH0 := hid hH0;have HF := hid hfmt;clear hH0 hal hel hfmt
  go_enter Tryz.func190, Tryz.ntmps190
  go_wp2_with (first
   | (go_at_call 215; refine (Tryz.internal_strconv_numDigits u hu1 hu64 _ (Lib.tabIs_alloc htab _)).mono ?_; rintro e w' ⟨rfl, rfl⟩))
  go_at_call 216
  refine HF.out.mono ?_;rintro e w' ⟨rfl, k, v', dk, rfl, hF⟩;have hcv : (convert 32 9 (.slice (some ⟨w.1.size, 0, none⟩) (Lib.nDigits u) 24)).run Tryz.prog ((Sort.putRow (fun (b : UInt8) => Value.int .u8 (b.toNat : Int)) (w.alloc (.cells Lib.zeros24 309)) w.1.size 0 dk).drewN k) = .ok (.string ⟨(Lib.decDigits u).toArray⟩) ((Sort.putRow (fun (b : UInt8) => Value.int .u8 (b.toNat : Int)) (w.alloc (.cells Lib.zeros24 309)) w.1.size 0 dk).drewN k) := by
   have h := run_convert_bytes_back (P := Tryz.prog) ((Sort.putRow (fun (b : UInt8) => Value.int .u8 (b.toNat : Int)) (w.alloc (.cells Lib.zeros24 309)) w.1.size 0 dk).drewN k) 32 9 5 ⟨w.1.size, 0, none⟩ 24 (Lib.decDigits u) Tryz.underlying32 Tryz.underlying5 Tryz.underlying9 (fun j hj => by
    rw [Lib.row_is_numeral hF j hj, Lib.add_plain, World.cell?_drewN];exact Sort.cell?_putRow (fun (b : UInt8) => Value.int .u8 (b.toNat : Int)) _ w.1.size 0 _ dk HH0.out (by rw [hF.size, Array.size_replicate]) j (by rw [hF.size]; rw [Lib.decDigits_length] at hj; exact hj))
   rw [Lib.decDigits_length] at h;exact h
  have hsz : (Sort.putRow (fun (b : UInt8) => Value.int .u8 (b.toNat : Int)) (w.alloc (.cells Lib.zeros24 309)) w.1.size 0 dk).1.size = w.1.size + 1 := by simp
  go_wp2_with fail;go_ret
  obtain ⟨os, eo⟩ := Lib.fin_at w (.cells Lib.zeros24 309) dk k 0;exact ⟨rfl, by rw [eo]; exact Lib.below_grow _ _ nl _ _⟩
theorem rz (u : Nat) (w : World) (hu64 : u < 18446744073709551616) (htab : Lib.TabIs Tryz.prog w "internal/strconv.uint64pow10" .u64 Lib.pow10Tab) :
  Calls Tryz.prog 133 #[.int .u64 u, .int .i64 10] w fun e w' => e = .returned (.string ⟨(Lib.decDigits u).toArray⟩) ∧ Below w.1.size w w' := by
 go_enter Tryz.func133, Tryz.ntmps133
 go_wp2_with fail;refine (zQ u w hu64 htab).mono ?_;rintro e w' ⟨rfl, hb⟩;go_wp2_with fail;go_ret
 exact ⟨rfl, hb⟩
def pre (t l : List UInt8) : Bool := t.isPrefixOf l
def rA (rd : List UInt8 → Option (Ex × List UInt8)) : Nat → List UInt8 → Option (List Ex × List UInt8)
 | 0, _ => none
 | f + 1, s =>
  match rd s with
  | none => none
  | some (e, r) =>
   if pre [41] r then some ([e], r.drop 1)
   else if pre [44] r then (rA rd f (r.drop 1)).map fun x => (e :: x.1, x.2)
   else none
def nK (rd : List UInt8 → Option (Ex × List UInt8)) (s : List UInt8) : Option (List Ex × List UInt8) :=
 if pre [41] s then some ([], s.drop 1) else rA rd (s.length + 1) s
def rfE : Nat → List UInt8 → Option (Ex × List UInt8)
 | 0, _ => none
 | d + 1, s =>
  if pre [97, 108, 108] s then some (.mk 1 0 0 [], s.drop 3)
  else if pre [120, 60, 61] s then (rdNum (s.drop 3)).map fun x => (.mk 2 x.1 0 [], x.2)
  else if pre [118, 60, 61] s then (rdNum (s.drop 3)).map fun x => (.mk 3 x.1 0 [], x.2)
  else if pre [118, 37] s then
   match rdNum (s.drop 2) with
   | none => none
   | some (a, r) => if pre [61] r then (rdNum (r.drop 1)).map fun x => (.mk 4 a x.1 [], x.2) else none
  else if pre [33] s then (rfE d (s.drop 1)).map fun x => (.mk 5 0 0 [x.1], x.2)
  else if pre [38, 40] s then (nK (rfE d) (s.drop 2)).map fun x => (.mk 6 0 0 x.1, x.2)
  else if pre [124, 40] s then (nK (rfE d) (s.drop 2)).map fun x => (.mk 7 0 0 x.1, x.2)
  else none
def rC (s : List UInt8) : Option Ex := match rfE 8 s with
 | some (e, []) => if e.right then some e else none
 | _ => none
def code (o : Option Ex) : Int := if o.isSome then 0 else 40
theorem Ce {s r : List UInt8} {e : Ex} (h : rfE 8 s = some (e, r)) : rC s = if r = [] ∧ e.right = true then some e else none := by
 unfold rC;rw [h];cases r with
 | nil => simp
 | cons a r => simp
theorem bN {W : World} {S : Nat → Prop} {k : Int} {a b : Nat} (hk1 : -9223372036854775808 ≤ k) (hk2 : k ≤ 9223372036854775807) (ha : a < 18446744073709551616) (hb : b < 18446744073709551616) : aT W S true (.mk k a b []) (.agg #[.int .i64 k, .int .u64 a, .int .u64 b, .slice none 0 0]) := by
 simp only [aT];exact ⟨_, [], rfl, hk1, hk2, ha, hb, Sl.nil _ _ _ _, by simp [aX]⟩
def kP (o : Option Ex) (w : World) (e : Ending) (w' : World) : Prop :=
 ∃ v, e = .returned (.tuple #[v, .int .i64 (code o)]) ∧ aT w' (fun b => w.1.size ≤ b) true (o.getD .zero) v ∧ Below w.1.size w w'
theorem mr {w w' : World} {o : Option Ex} (h : o = none) (hb : Below w.1.size w w') : kP o w (.returned (.tuple #[.agg #[.int .i64 0, .int .u64 0, .int .u64 0, .slice none 0 0], .int .i64 40])) w' := by
 subst h;exact ⟨_, rfl, bN (by omega) (by omega) (by omega) (by omega), hb⟩
structure Lv (B : Nat) (w : World) : Prop where
 tab : Lib.TabIs Tryz.prog w "internal/strconv.uint64pow10" .u64 Lib.pow10Tab
 syn : ∃ tp p, w.var? Tryz.prog "strconv.ErrSyntax" = some #[.iface tp p]
 rng : ∃ tp p, w.var? Tryz.prog "strconv.ErrRange" = some #[.iface tp p]
 lo : 3 < B ∧ 1 < B ∧ 2 < B
theorem Gt : Tryz.prog.globalNamed "internal/strconv.uint64pow10" = some 3 := by kernel_rfl
theorem Gu : Tryz.prog.globalNamed "strconv.ErrSyntax" = some 1 := by kernel_rfl
theorem Gw : Tryz.prog.globalNamed "strconv.ErrRange" = some 2 := by kernel_rfl
theorem Lv.below {B : Nat} {w w' : World} (h : Lv B w) (hb : Below B w w') : Lv B w' := by
 obtain ⟨h1, ⟨a, b, h2⟩, ⟨c, d, h3⟩, h4⟩ := h;exact ⟨var?_below hb Gt h4.1 h1, ⟨a, b, var?_below hb Gu h4.2.1 h2⟩, ⟨c, d, var?_below hb Gw h4.2.2 h3⟩, h4⟩
theorem Lv.mono {B B' : Nat} {w : World} (h : Lv B w) (hB : B ≤ B') : Lv B' w := ⟨h.tab, h.syn, h.rng, by have := h.lo; omega⟩
structure Rg (rb : Nat) (w w' : World) : Prop where
 os : w'.os = w.os
 tape : w'.tape = w.tape
 output : w'.output = w.output
 size : w.1.size ≤ w'.1.size
 keep : ∀ b, b < w.1.size → b ≠ rb → w'.1[b]? = w.1[b]?
theorem Rg.refl (rb : Nat) (w : World) : Rg rb w w := ⟨rfl, rfl, rfl, Nat.le_refl _, fun _ _ _ => rfl⟩
theorem Rg.trans {rb : Nat} {a b c : World} (h : Rg rb a b) (k : Rg rb b c) : Rg rb a c :=
 ⟨k.os.trans h.os, k.tape.trans h.tape, k.output.trans h.output, Nat.le_trans h.size k.size, fun i hi hn => (k.keep i (by have := h.size; omega) hn).trans (h.keep i hi hn)⟩
theorem Rg.of_below {rb : Nat} {w w' : World} (h : Below w.1.size w w') : Rg rb w w' := ⟨h.os, h.tape, h.output, h.size, fun b hb _ => h.block b hb⟩
theorem Rg.setCell {rb : Nat} {w w' : World} (h : Rg rb w w') (o : Nat) (v : Value) : Rg rb w (w'.setCell ⟨rb, o, none⟩ v) :=
 h.trans ⟨rfl, rfl, rfl, by simp, fun b _ hn => ay _ _ _ _ (by simpa using hn)⟩
theorem Rg.below {rb : Nat} {w w' : World} (h : Rg rb w w') (hr : rb ≤ w.1.size) : Below rb w w' := ⟨h.os, h.tape, h.output, h.size, fun b hb => h.keep b (by omega) (by omega)⟩
def cut (t l : List UInt8) : List UInt8 := if pre t l then l.drop t.length else l
def commas (l : List (List UInt8)) : List UInt8 := Lib.join l [44]
def nL (k : Int) (a b : Nat) (l : List (List UInt8)) : List UInt8 :=
 if k = 1 then [97, 108, 108]
 else if k = 2 then [120, 60, 61] ++ Lib.decDigits a
 else if k = 3 then [118, 60, 61] ++ Lib.decDigits a
 else if k = 4 then [118, 37] ++ Lib.decDigits a ++ [61] ++ Lib.decDigits b
 else if k = 5 then [33] ++ commas l
 else if k = 6 then [38, 40] ++ commas l ++ [41]
 else [124, 40] ++ commas l ++ [41]
mutual
def Ex.told : Ex → List UInt8
 | .mk k a b ps => nL k a b (Ex.tolds ps)
def Ex.tolds : List Ex → List (List UInt8)
 | [] => []
 | e :: es => e.told :: Ex.tolds es
end
mutual
def Ex.nums : Ex → Prop
 | .mk _ a b ps => a < 18446744073709551616 ∧ b < 18446744073709551616 ∧ Ex.numss ps
def Ex.numss : List Ex → Prop
 | [] => True
 | e :: es => e.nums ∧ Ex.numss es
end
mutual
theorem aT.nums {w : World} {S : Nat → Prop} {own : Bool} : ∀ {e : Ex} {v : Value}, aT w S own e v → e.nums
 | .mk k a b ps, v, h => by
  simp only [aT] at h;obtain ⟨s, xs, _, _, _, ha, hb, _, h2⟩ := h;simp only [Ex.nums];exact ⟨ha, hb, aX.nums h2⟩
theorem aX.nums {w : World} {S : Nat → Prop} {own : Bool} : ∀ {es : List Ex} {xs : List Value}, aX w S own es xs → Ex.numss es
 | [], xs, _ => by simp [Ex.numss]
 | e :: es, xs, h => by
  simp only [aX] at h;obtain ⟨_, _, _, _, rest, _, h2, h3⟩ := h;simp only [Ex.numss];exact ⟨aT.nums h2, aX.nums h3⟩
end
theorem nM {k : Int} {a b n : Nat} (h : iR k a b n = true) :
  (k = 1 ∧ a = 0 ∧ b = 0 ∧ n = 0) ∨ ((k = 2 ∨ k = 3) ∧ b = 0 ∧ n = 0) ∨ (k = 4 ∧ b < a ∧ n = 0) ∨ (k = 5 ∧ a = 0 ∧ b = 0 ∧ n = 1) ∨ ((k = 6 ∨ k = 7) ∧ a = 0 ∧ b = 0) := by
 unfold iR at h;split at h
 ·simp at h; omega
 split at h
 ·simp at h; omega
 split at h
 ·simp at h; omega
 split at h
 ·simp at h; omega
 split at h
 ·simp at h; omega
 ·cases h
theorem qg {e : Ex} (h : e.right = true) : e.okR = true ∧ e.depth ≤ 8 ∧ e.size ≤ 32 := by
 simp only [Ex.right, aH, decide_eq_true_eq] at h;exact ⟨h.1.1, h.1.2, h.2⟩
theorem xV {k : Int} {a b n : Nat} (h : iR k a b n = true) : 1 ≤ k ∧ k ≤ 7 := by
 rcases nM h with h | h | h | h | h <;> omega
theorem uT : ∀ (e : Ex), e.okR = true → ∃ c t, e.told = c :: t ∧ c ≠ 41
 | .mk k a b ps, hok => by
  simp only [Ex.okR, aH] at hok;have hk := xV hok.2;simp only [Ex.told];have h7 : k = 1 ∨ k = 2 ∨ k = 3 ∨ k = 4 ∨ k = 5 ∨ k = 6 ∨ k = 7 := by omega
  rcases h7 with rfl | rfl | rfl | rfl | rfl | rfl | rfl
  ·exact ⟨97, _, rfl, by decide⟩
  ·exact ⟨120, _, rfl, by decide⟩
  ·exact ⟨118, _, rfl, by decide⟩
  ·exact ⟨118, _, rfl, by decide⟩
  ·exact ⟨33, _, rfl, by decide⟩
  ·exact ⟨38, _, rfl, by decide⟩
  ·exact ⟨124, _, rfl, by decide⟩
theorem iW (x : List UInt8) : commas [x] = x := by simp [commas, Lib.join_one]
theorem jS (x y : List UInt8) (l : List (List UInt8)) : commas (x :: y :: l) = x ++ 44 :: commas (y :: l) := by
 simp [commas, Lib.join_cons, Lib.joinTail, List.append_assoc]
theorem xW : ∀ (es : List Ex), Ex.okRs es = true → es.length ≤ (commas (Ex.tolds es)).length
 | [], _ => by simp
 | [e], h => by
  simp only [Ex.okRs, aH] at h;obtain ⟨c, t, h1, _⟩ := uT e h.1;simp only [Ex.tolds, iW, h1]; simp
 | e :: e2 :: es, h => by
  simp only [Ex.okRs, aH] at h;have h2 := xW (e2 :: es) (by simp only [Ex.okRs, aH]; exact h.2);simp only [Ex.tolds] at h2 ⊢;rw [jS];simp at h2 ⊢;omega
theorem oO (c : UInt8) (r : List UInt8) (h : isD c = false) : ∀ d, (c :: r).head? = some d → isD d = false := by
 intro d hd; simp at hd; subst hd; exact h
mutual
theorem nN : ∀ (e : Ex) (d : Nat) (r : List UInt8), e.okR = true → e.nums → e.depth ≤ d → (∀ c, r.head? = some c → isD c = false) → rfE d (e.told ++ r) = some (e, r)
 | .mk k a b ps, d, r, hok, hnu, hd, hr => by
  simp only [Ex.okR, aH] at hok;simp only [Ex.nums] at hnu;simp only [Ex.depth] at hd;obtain ⟨d, rfl⟩ : ∃ d', d = d' + 1 := ⟨d - 1, by omega⟩;have hparts := uu ps d r hok.1 hnu.2.2 (by omega);have hone : ∀ p, ps = [p] → rfE d (p.told ++ r) = some (p, r) := fun p hp => by
   subst hp;simp only [Ex.okRs, aH] at hok;simp only [Ex.numss] at hnu;simp only [Ex.depths] at hd;exact nN p d r hok.1.1 hnu.2.2.1 (by omega) hr
  obtain ⟨ha, hb, _⟩ := hnu;simp only [Ex.told];rcases nM hok.2 with ⟨rfl, rfl, rfl, hn⟩ | ⟨rfl | rfl, rfl, hn⟩ | ⟨rfl, hba, hn⟩ | ⟨rfl, rfl, rfl, hn⟩ | ⟨rfl | rfl, rfl, rfl⟩
  ·obtain rfl := List.eq_nil_of_length_eq_zero hn
   simp [nL, rfE, pre, List.isPrefixOf]
  ·obtain rfl := List.eq_nil_of_length_eq_zero hn
   have h1 := jQ a ha r hr;simp [nL, rfE, pre, List.isPrefixOf, h1]
  ·obtain rfl := List.eq_nil_of_length_eq_zero hn
   have h1 := jQ a ha r hr;simp [nL, rfE, pre, List.isPrefixOf, h1]
  ·obtain rfl := List.eq_nil_of_length_eq_zero hn
   have h1 := jQ a ha (61 :: (Lib.decDigits b ++ r)) (oO 61 _ (by decide));have h2 := jQ b hb r hr;simp [nL, rfE, pre, List.isPrefixOf, h1, h2]
  ·obtain ⟨p, rfl⟩ : ∃ p, ps = [p] := by
    match ps, hn with
    | [p], _ => exact ⟨p, rfl⟩
   have h1 := hone p rfl;simp [nL, Ex.tolds, iW, rfE, pre, List.isPrefixOf, h1]
  ·simp [nL, rfE, pre, List.isPrefixOf, hparts]
  ·simp [nL, rfE, pre, List.isPrefixOf, hparts]
theorem uu : ∀ (es : List Ex) (d : Nat) (r : List UInt8), Ex.okRs es = true → Ex.numss es → Ex.depths es ≤ d → nK (rfE d) (commas (Ex.tolds es) ++ 41 :: r) = some (es, r)
 | [], d, r, _, _, _ => by simp [Ex.tolds, commas, Lib.join_nil, nK, pre, List.isPrefixOf]
 | e :: es, d, r, hok, hnu, hd => by
  have hge := xW (e :: es) hok;have hl := nO (e :: es) ((commas (Ex.tolds (e :: es)) ++ 41 :: r).length + 1) d r (by simp) hok hnu hd (by simp at hge ⊢; omega);have hh : pre [41] (commas (Ex.tolds (e :: es)) ++ 41 :: r) = false := by
   simp only [Ex.okRs, aH] at hok;obtain ⟨c, t, h1, h2⟩ := uT e hok.1;cases es with
   | nil => simp only [Ex.tolds, iW, h1]; simp [pre, List.isPrefixOf]; exact fun h => h2 h.symm
   | cons e2 es => simp only [Ex.tolds, jS, h1]; simp [pre, List.isPrefixOf]; exact fun h => h2 h.symm
  unfold nK;rw [hh];exact hl
theorem nO : ∀ (es : List Ex) (f d : Nat) (r : List UInt8), es ≠ [] → Ex.okRs es = true → Ex.numss es → Ex.depths es ≤ d → es.length ≤ f → rA (rfE d) f (commas (Ex.tolds es) ++ 41 :: r) = some (es, r)
 | [], _, _, _, h, _, _, _, _ => absurd rfl h
 | [e], f, d, r, _, hok, hnu, hd, hf => by
  simp only [Ex.okRs, aH] at hok;simp only [Ex.numss] at hnu;simp only [Ex.depths] at hd;obtain ⟨f, rfl⟩ : ∃ f', f = f' + 1 := ⟨f - 1, by simp at hf; omega⟩;have h1 := nN e d (41 :: r) hok.1 hnu.1 (by omega) (oO 41 _ (by decide));simp only [Ex.tolds, iW, rA, h1];simp [pre, List.isPrefixOf]
 | e :: e2 :: es, f, d, r, _, hok, hnu, hd, hf => by
  simp only [Ex.okRs, aH] at hok;simp only [Ex.numss] at hnu;simp only [Ex.depths] at hd;obtain ⟨f, rfl⟩ : ∃ f', f = f' + 1 := ⟨f - 1, by simp at hf; omega⟩;have h2 := nO (e2 :: es) f d r (by simp) (by simp only [Ex.okRs, aH]; exact hok.2) (by simp only [Ex.numss]; exact hnu.2) (by simp only [Ex.depths]; omega) (by simp at hf ⊢; omega);have h1 := nN e d (44 :: (commas (Ex.tolds (e2 :: es)) ++ 41 :: r)) hok.1 hnu.1 (by omega) (oO 44 _ (by decide));simp only [Ex.tolds] at h1 h2 ⊢;rw [jS, List.append_assoc, List.cons_append, rA, h1];simp [pre, List.isPrefixOf, h2]
end
def Ex.text (e : Ex) : List UInt8 := if e.right then e.told else []
def strs (l : List (List UInt8)) : List Value := l.map fun x => .string ⟨x.toArray⟩
theorem ic (l : List (List UInt8)) : (strs l).length = l.length := by simp [strs]
end Go.Proofs.YtlpgokcapdjgjaaGreatDoor
