/- A part put behind the others. -/
import Derived.Test.YtlpgokcapdjgjaaGreatDoorY18
import Derived.Laws.OwnMore
namespace Go.Proofs.YtlpgokcapdjgjaaGreatDoor
open Go.RowKit Go
set_option linter.unusedVariables false
set_option linter.unusedSimpArgs false
def fE (c : UInt8) : Bool := decide (128 ≤ c.toNat)
def bz (l : List UInt8) : Nat := ((l.take 10).takeWhile fE).length
def valOf : List UInt8 → Nat
 | [] => 0
 | c :: l => (valOf l * 128 + c.toNat % 128) % 18446744073709551616
def bf (l : List UInt8) : Option (Nat × List UInt8) :=
 if bz l < 10 ∧ bz l < l.length ∧ dw (valOf (l.take (bz l + 1))) = l.take (bz l + 1) then some (valOf (l.take (bz l + 1)), l.drop (bz l + 1)) else none
theorem qQ (l : List UInt8) : valOf l < 18446744073709551616 := by
 cases l with
 | nil => simp [valOf]
 | cons c l => rw [valOf]; exact Nat.mod_lt _ (by omega)
theorem bF {l r : List UInt8} {n : Nat} (h : bf l = some (n, r)) : l = dw n ++ r ∧ n < 18446744073709551616 := by
 unfold bf at h;split at h
 ·rename_i hc
  injection h with h
  injection h with h1 h2
  subst h1 h2;exact ⟨by rw [hc.2.2, List.take_append_drop], qQ _⟩
 ·cases h
def bi (tk : List UInt8 → Option (Ex × List UInt8)) : Nat → List UInt8 → Option (List Ex × List UInt8)
 | 0, l => some ([], l)
 | n + 1, l => match tk l with
  | none => none
  | some (e, r) => (bi tk n r).map fun x => (e :: x.1, x.2)
def iT (o : Option (List UInt8)) : Nat := match o.bind bf with
 | some x => x.1
 | none => 0
def dV (o : Option (List UInt8)) : Option (List UInt8) := (o.bind bf).map fun x => x.2
def bK (c : Nat) (l : List UInt8) : Nat × Nat × Nat × Option (List UInt8) :=
 if c = 2 ∨ c = 3 then (iT (some l), 0, 0, dV (some l))
 else if c = 4 then (iT (some l), iT (dV (some l)), 0, dV (dV (some l)))
 else if c = 5 then (0, 0, 1, some l)
 else if c = 6 ∨ c = 7 then (0, 0, iT (some l), dV (some l))
 else (0, 0, 0, some l)
def iU (tk : List UInt8 → Option (Ex × List UInt8)) (h : Nat × Nat × Nat × Option (List UInt8)) : Option (List Ex × List UInt8) := h.2.2.2.bind (bi tk h.2.2.1)
def tkE : Nat → List UInt8 → Option (Ex × List UInt8)
 | 0, _ => none
 | _ + 1, [] => none
 | d + 1, c :: l =>
  if 1 ≤ c.toNat ∧ c.toNat ≤ 7 then (iU (tkE d) (bK c.toNat l)).map fun x => (.mk c.toNat (bK c.toNat l).1 (bK c.toNat l).2.1 x.1, x.2)
  else none
theorem Dt (n : Nat) : 0 < (dw n).length := (cB n).2
theorem dX {l r : List UInt8} {n : Nat} (h : bf l = some (n, r)) : r.length < l.length := by
 obtain ⟨h1, _⟩ := bF h;have := Dt n;rw [h1]; simp; omega
theorem nJ {l r : List UInt8} {n : Nat} (h : bf l = some (n, r)) : n < 18446744073709551616 := (bF h).2
theorem kI {l r : List UInt8} {n : Nat} (h : bf l = some (n, r)) : r <:+ l := by
 obtain ⟨h1, _⟩ := bF h;exact ⟨_, h1.symm⟩
theorem jk (tk : List UInt8 → Option (Ex × List UInt8)) : ∀ (n : Nat) (l : List UInt8), bi tk (n + 1) l = match bi tk n l with
  | none => none
  | some (es, r) => (tk r).map fun x => (es ++ [x.1], x.2) := by
 intro n
 induction n with
 | zero =>
  intro l;simp only [bi];cases h : tk l with
  | none => rfl
  | some x => obtain ⟨e, r⟩ := x; simp
 | succ n ih =>
  intro l;rw [bi];cases h : tk l with
  | none => simp [bi, h]
  | some x =>
   obtain ⟨e, r⟩ := x;have e1 : bi tk (n + 1) l = (bi tk n r).map fun x => (e :: x.1, x.2) := by rw [bi, h]
   show (bi tk (n + 1) r).map (fun x => (e :: x.1, x.2)) = _;rw [ih r, e1];cases h2 : bi tk n r with
   | none => rfl
   | some y =>
    obtain ⟨es, q⟩ := y;simp only [Option.map_some];cases tk q with
    | none => rfl
    | some z => simp
theorem qR (tk : List UInt8 → Option (Ex × List UInt8)) : ∀ (k n : Nat) (l : List UInt8), k ≤ n → bi tk k l = none → bi tk n l = none := by
 intro k n l hk h
 induction n with
 | zero => obtain rfl : k = 0 := by omega
           exact h
 | succ n ih =>
  by_cases e : k = n + 1
  ·rw [← e]; exact h
  ·rw [jk, ih (by omega)]
theorem qa (tk : List UInt8 → Option (Ex × List UInt8)) (htk : ∀ s e r, tk s = some (e, r) → e.size + r.length ≤ s.length) : ∀ n s es r, bi tk n s = some (es, r) → Ex.sizes es + r.length ≤ s.length ∧ es.length = n := by
 intro n
 induction n with
 | zero => intro s es r h; simp [bi] at h; obtain ⟨rfl, rfl⟩ := h; simp [Ex.sizes]
 | succ n ih =>
  intro s es r h;rw [bi] at h;split at h
  ·cases h
  ·rename_i e q hq
   have h1 := htk _ _ _ hq;simp only [Option.map_eq_some_iff] at h;obtain ⟨⟨a, b⟩, h3, h4⟩ := h;injection h4 with ha h4; subst h4; subst ha
   have := ih _ _ _ h3;simp [Ex.sizes] at this ⊢; omega
theorem fV (o : Option (List UInt8)) : iT o < 18446744073709551616 := by
 unfold iT;split
 ·rename_i x hx
  obtain ⟨l, h1, h2⟩ := ae hx;exact nJ (n := x.1) (r := x.2) h2
 ·omega
theorem iF (o : Option (List UInt8)) (r : List UInt8) (h : dV o = some r) : ∃ l, o = some l ∧ r <:+ l ∧ r.length < l.length := by
 unfold dV at h;obtain ⟨x, h1, h2⟩ := aa h;obtain ⟨l, h3, h4⟩ := ae h1;subst h2;exact ⟨l, h3, kI (n := x.1) h4, dX (n := x.1) h4⟩
theorem zH (c : Nat) (l r : List UInt8) (h : (bK c l).2.2.2 = some r) : r <:+ l := by
 unfold bK at h;split at h
 ·obtain ⟨l', h1, h2, _⟩ := iF _ _ h; injection h1 with h1; subst h1; exact h2
 split at h
 ·obtain ⟨l', h1, h2, _⟩ := iF _ _ h; obtain ⟨l2, h3, h4, _⟩ := iF _ _ h1; injection h3 with h3; subst h3; exact h2.trans h4
 split at h
 ·injection h with h; subst h; exact List.suffix_refl _
 split at h
 ·obtain ⟨l', h1, h2, _⟩ := iF _ _ h; injection h1 with h1; subst h1; exact h2
 ·injection h with h; subst h; exact List.suffix_refl _
theorem BV (c : Nat) (l : List UInt8) : (bK c l).1 < 18446744073709551616 ∧ (bK c l).2.1 < 18446744073709551616 ∧ (bK c l).2.2.1 < 18446744073709551616 := by
 unfold bK
 repeat' split
 all_goals (simp only; refine ⟨?_, ?_, ?_⟩ <;> first | exact fV _ | omega)
theorem qU (d : Nat) : ∀ s e r, tkE d s = some (e, r) → e.size + r.length ≤ s.length := by
 induction d with
 | zero => intro s e r h; simp [tkE] at h
 | succ d ih =>
  intro s e r h;cases s with
  | nil => simp [tkE] at h
  | cons c l =>
   rw [tkE] at h;split at h
   ·simp only [Option.map_eq_some_iff] at h
    obtain ⟨⟨a, b⟩, h3, h4⟩ := h;injection h4 with ha h4; subst h4; subst ha
    unfold iU at h3;obtain ⟨q, h5, h6⟩ := ae h3;have h7 := (zH _ _ _ h5).length_le;have h8 := (qa _ ih _ _ _ _ h6).1;simp [Ex.size] at h8 ⊢; omega
   ·cases h
theorem qV {r l : List UInt8} (h : r <:+ l) : r = l.drop (l.length - r.length) := by
 obtain ⟨p, rfl⟩ := h; simp
def dJ (l : List UInt8) : Int := if bz l = 10 then 10 else if l.length ≤ bz l then 4 else if (bf l).isSome then 0 else 10
theorem kJ (l : List UInt8) : bz l ≤ 10 ∧ bz l ≤ l.length := by
 unfold bz;have h := (List.takeWhile_prefix (p := fE) (l := l.take 10)).length_le;simp at h; omega
theorem dG (l : List UInt8) : (dJ l = 0) ↔ (bf l).isSome = true := by
 unfold dJ;have := kJ l;constructor
 ·intro h
  split at h
  ·omega
  ·split at h
   ·omega
   ·split at h
    ·assumption
    ·omega
 ·intro h
  have h2 : bz l < 10 ∧ bz l < l.length := by
   unfold bf at h;split at h
   ·rename_i hc; exact ⟨hc.1, hc.2.1⟩
   ·cases h
  rw [if_neg (by omega), if_neg (by omega), if_pos h]
theorem jR {p : UInt8 → Bool} : ∀ (l : List UInt8) (j : Nat) (h : j < (l.takeWhile p).length) (hl : j < l.length), p l[j] = true
 | [], j, h, hl => by simp at hl
 | c :: l, j, h, hl => by
  rw [List.takeWhile_cons] at h;split at h
  ·cases j with
   | zero => simpa
   | succ j => simp at h hl ⊢; exact jR l j h hl
  ·simp at h
theorem iV {p : UInt8 → Bool} : ∀ (l : List UInt8) (hl : (l.takeWhile p).length < l.length), p (l[(l.takeWhile p).length]'hl) = false
 | [], hl => by simp at hl
 | c :: l, hl => by
  by_cases hp : p c = true
  ·have h : ((c :: l).takeWhile p).length = (l.takeWhile p).length + 1 := by rw [List.takeWhile_cons, if_pos hp]; simp
   have hl' : (l.takeWhile p).length < l.length := (by rw [h] at hl; simpa using hl);have := iV l hl';simp only [h, List.getElem_cons_succ];exact this
  ·have h : ((c :: l).takeWhile p).length = 0 := by rw [List.takeWhile_cons, if_neg hp]; rfl
   simp only [h, List.getElem_cons_zero];exact Bool.eq_false_iff.2 hp
theorem Du (l : List UInt8) (j : Nat) (h : j < bz l) (hl : j < l.length) : 128 ≤ l[j].toNat := by
 have hm := kJ l;have hj : j < (l.take 10).length := by simp; omega
 have := jR (l.take 10) j h hj;simpa [fE] using this
theorem zI (l : List UInt8) (h : bz l < 10) (hl : bz l < l.length) : l[bz l].toNat < 128 := by
 have hj : ((l.take 10).takeWhile fE).length < (l.take 10).length := by unfold bz at h hl; simp; omega
 have := iV (l.take 10) hj;simp only [List.getElem_take] at this;have h2 : fE (l[bz l]) = false := this;simpa [fE] using h2
theorem zJ (l : List UInt8) (k : Nat) (h : k < l.length) : valOf (l.drop k) = (valOf (l.drop (k + 1)) * 128 + l[k].toNat % 128) % 18446744073709551616 := by
 rw [List.drop_eq_getElem_cons h, valOf]
def kK (l : List UInt8) : Nat := match bf l with
 | some x => x.1
 | none => 0
def fI (a : Nat) (l : List UInt8) : Nat := match bf l with
 | some x => a + (l.length - x.2.length)
 | none => 0
theorem Dw {l : List UInt8} (h1 : bz l < 10) (h2 : bz l < l.length) (h3 : dw (valOf (l.take (bz l + 1))) = l.take (bz l + 1)) :
  bf l = some (valOf (l.take (bz l + 1)), l.drop (bz l + 1)) := by unfold bf; rw [if_pos ⟨h1, h2, h3⟩]
theorem wh {l : List UInt8} (h : ¬ (bz l < 10 ∧ bz l < l.length ∧ dw (valOf (l.take (bz l + 1))) = l.take (bz l + 1))) : bf l = none := by unfold bf; rw [if_neg h]
theorem Fe {l : List UInt8} (a : Nat) (h1 : bz l < 10) (h2 : bz l < l.length) (h3 : dw (valOf (l.take (bz l + 1))) = l.take (bz l + 1)) :
  kK l = valOf (l.take (bz l + 1)) ∧ fI a l = a + bz l + 1 ∧ dJ l = 0 := by
 have h := Dw h1 h2 h3;refine ⟨by unfold kK; rw [h], by unfold fI; rw [h]; simp; omega, ?_⟩;unfold dJ;rw [h, if_neg (by omega), if_neg (by omega)]; rfl
theorem wm {l : List UInt8} (a : Nat) (h : bf l = none) : kK l = 0 ∧ fI a l = 0 := ⟨by unfold kK; rw [h], by unfold fI; rw [h]⟩
theorem xK {l : List UInt8} (h : bz l = 10) : dJ l = 10 ∧ bf l = none := ⟨by unfold dJ; rw [if_pos h], wh (fun hh => by omega)⟩
theorem qW {l : List UInt8} (h : bz l < 10) (h2 : l.length ≤ bz l) : dJ l = 4 ∧ bf l = none := ⟨by unfold dJ; rw [if_neg (by omega), if_pos h2], wh (fun hh => by omega)⟩
theorem qX {l : List UInt8} (h : bz l < 10) (h2 : bz l < l.length) (h3 : dw (valOf (l.take (bz l + 1))) ≠ l.take (bz l + 1)) : dJ l = 10 ∧ bf l = none := by
 have hn : bf l = none := wh (fun hh => h3 hh.2.2);refine ⟨?_, hn⟩;unfold dJ;rw [if_neg (by omega), if_neg (by omega), hn]; rfl
def at8 (l : List UInt8) (j : Nat) : Nat := ((l[j]?).getD 0).toNat
theorem zK (l : List UInt8) (j : Nat) : at8 l j < 256 := UInt8.toNat_lt _
theorem dB (l : List UInt8) (j : Nat) (h : j < l.length) : at8 l j = l[j].toNat := by unfold at8; rw [af h]; rfl
theorem xL (l : List UInt8) (a j : Nat) : at8 (l.drop a) j = at8 l (a + j) := by unfold at8; rw [List.getElem?_drop]
theorem kL (l : List UInt8) (n j : Nat) (h : j < n) : at8 (l.take n) j = at8 l j := by unfold at8; rw [List.getElem?_take, if_pos h]
theorem Bn {p q : List UInt8} (n : Nat) (hp : n < p.length) (hq : n < q.length) (h : p.take n = q.take n) (h1 : at8 p n = at8 q n) : p.take (n + 1) = q.take (n + 1) := by
 rw [dB p n hp, dB q n hq] at h1;rw [List.take_succ_eq_append_getElem hp, List.take_succ_eq_append_getElem hq, h, UInt8.toNat_inj.1 h1]
theorem Dx {p q : List UInt8} (n : Nat) (hp : n < p.length) (hq : n < q.length) (h1 : at8 p n ≠ at8 q n) : p ≠ q := by
 intro e; subst e; exact h1 rfl
theorem BX (l : List UInt8) (j : Nat) (h : j < bz l) : 128 ≤ at8 l j := by
 have := kJ l;rw [dB l j (by omega)]; exact Du l j h (by omega)
theorem xM (l : List UInt8) (h : bz l < 10) (hl : bz l < l.length) : at8 l (bz l) < 128 := by rw [dB l _ hl]; exact zI l h hl
theorem qb (l : List UInt8) (k : Nat) (h : k < l.length) : valOf (l.drop k) = (valOf (l.drop (k + 1)) * 128 + at8 l k % 128) % 18446744073709551616 := by rw [dB l k h]; exact zJ l k h
theorem aO.at8 {w : World} {S : Nat → Prop} {own : Bool} {l : List UInt8} {ad : Option Addr} {cap j : Nat} (h : aO w S own l (.slice ad l.length cap)) (hj : j < l.length) :
  ∃ bl off, ad = some ⟨bl, off, none⟩ ∧ S bl ∧ w.cell? ⟨bl, off + j, none⟩ = some (.int .u8 (at8 l j : Nat)) := by
 obtain ⟨bl, off, h1, h2, h3⟩ := aO.cell h (by omega);exact ⟨bl, off, h1, h2, by rw [(h3 j hj).1, dB l j hj]⟩
theorem Dy (V c n : Nat) (h : n = (V * 128 + c % 128) % 18446744073709551616) : Value.int .u64 (IntKind.u64.wrap (IntKind.u64.wrap ((V : Int) * 128) + (c : Int) % 128)) = .int .u64 (n : Int) := by
 subst h
 congr 1
 simp only [IntKind.wrap, IntKind.signed, IntKind.bits];simp
theorem aO.cut {w : World} {S : Nat → Prop} {own : Bool} {l : List UInt8} {ad : Option Addr} {cap : Nat} (h : aO w S own l (.slice ad l.length cap)) (a m cap' : Nat) (ham : a + m ≤ l.length) (hcap : m ≤ cap') :
  aO w S own ((l.drop a).take m) (.slice (ad.map fun x => x.add a) m cap') := by
 have h63 := h.2.1;have hlen : ((l.drop a).take m).length = m := by simp; omega
 refine ⟨by simp, by omega, _, cap', by rw [hlen], by omega, fun hn => ?_⟩;obtain ⟨bl, off, h1, h2, h3⟩ := aO.cell h (by omega);refine ⟨bl, off + a, ?_, h2, fun j hj => ?_⟩
 ·rw [h1]; simp [Addr.add]
 ·have hj' : j < m := by rw [bytes_length, hlen] at hj; exact hj
  obtain ⟨c1, c2⟩ := h3 (a + j) (by omega);rw [Nat.add_assoc];refine ⟨?_, c2⟩;rw [c1]; simp [bytes]
theorem aO.head {w : World} {S : Nat → Prop} {own : Bool} {l : List UInt8} {ad : Option Addr} {cap : Nat} (h : aO w S own l (.slice ad l.length cap)) (m cap' : Nat) (ham : m ≤ l.length) (hcap : m ≤ cap') :
  aO w S own (l.take m) (.slice ad m cap') := by
 have h63 := h.2.1;have hlen : (l.take m).length = m := by simp; omega
 refine ⟨by simp, by omega, _, cap', by rw [hlen], by omega, fun hn => ?_⟩;obtain ⟨bl, off, h1, h2, h3⟩ := aO.cell h (by omega);refine ⟨bl, off, h1, h2, fun j hj => ?_⟩;have hj' : j < m := by rw [bytes_length, hlen] at hj; exact hj
 obtain ⟨c1, c2⟩ := h3 j (by omega);exact ⟨by rw [c1]; simp [bytes], c2⟩
theorem aO.none {w : World} {S : Nat → Prop} {own : Bool} {ad : Option Addr} {cap : Nat} : aO w S own [] (.slice ad 0 cap) :=
 ⟨by simp, by simp, ad, cap, rfl, by simp, fun h => by simp at h⟩
def mQ (b : List UInt8) (i : Int) : Option (Ex × Nat) :=
 if 0 ≤ i ∧ i ≤ b.length then
  match tkE 8 (b.drop i.toNat) with
  | some (e, r) => if e.right then some (e, b.length - r.length) else none
  | none => none
 else none
def bM (b : List UInt8) : Option Ex := match mQ b 0 with
 | some (e, n) => if n = b.length then some e else none
 | none => none
def xN {α : Type} (o : Option α) : Int := if o.isSome then 0 else 40
theorem xO {b : List UInt8} {i : Int} (h : i < 0 ∨ (b.length : Int) < i) : mQ b i = none := by unfold mQ; rw [if_neg (by omega)]
theorem uR {b : List UInt8} {q : Nat} (hq : q ≤ b.length) (h : tkE 8 (b.drop q) = none) : mQ b q = none := by
 unfold mQ; rw [if_pos (by omega)]; simp [h]
theorem oN {b r : List UInt8} {q : Nat} {e : Ex} (hq : q ≤ b.length) (h : tkE 8 (b.drop q) = some (e, r)) : mQ b q = if e.right then some (e, b.length - r.length) else none := by
 unfold mQ; rw [if_pos (by omega)]; simp [h]
theorem fZ {W W' : World} {base : Nat} {T : TypeId} {sv : Value} {es : List Ex} {S : Nat → Prop} {k : Int} {A B : Nat} (hm : Making W base T sv es) (hK : cz (fun b => base ≤ b) W W') (hS : ∀ b, base ≤ b → S b)
  (hk1 : -9223372036854775808 ≤ k) (hk2 : k ≤ 9223372036854775807) (hA : A < 18446744073709551616) (hB : B < 18446744073709551616) : aT W' S true (.mk k A B es) (.agg #[.int .i64 k, .int .u64 A, .int .u64 B, sv]) := by
 obtain ⟨zs, h1, h2⟩ := hm.sl;simp only [aT];exact ⟨_, zs, rfl, hk1, hk2, hA, hB, h1.keep (by omega) hK (fun b _ h => hS b h), aX.keep hK (fun b _ h => hS b h) h2⟩
theorem qY {wr w1 w2 : World} {T : TypeId} {sa : Option Addr} {sc gg gcap base pb : Nat} {es : List Ex} {t : Ex} {c0 c1 c2 : Value} {q0 : Int} {q1 q2 : Nat} {q3 : Option Addr} {q4 q5 : Nat} {o o' : Obj} {ys : List Value}
  (hm : wr.ownsRow base T 4 (.slice sa es.length sc) es.length ys ∧ aX wr (fun b => base ≤ b ∧ (Value.slice sa es.length sc).ownBlock ≠ some b) true es ys)
  (hbase : base ≤ wr.1.size) (hpb : pb < base) (hh : wr.1[pb]? = some (.cells #[c0, c1, c2, .slice sa es.length sc] T (0, 0)))
  (hv : aT w1 (fun b => wr.1.size ≤ b) true t (.agg #[.int .i64 q0, .int .u64 q1, .int .u64 q2, .slice q3 q4 q5])) (hb1 : Below wr.1.size wr w1)
  (hgrow : ((w1.alloc o).alloc o').grownBy w2 (Value.slice sa es.length sc).ownBlock)
  (hown2 : w2.ownsRow base T 4 (.slice (some ⟨gg, 0, none⟩) (es.length + 1) gcap) (es.length + 1) (ys ++ [.int .i64 q0, .int .u64 q1, .int .u64 q2, .slice q3 q4 q5]))
  (hat : (Value.slice sa es.length sc).ownBlock = some gg ∨ gg = w1.1.size + 1 + 1) :
  Making (w2.setCell ⟨pb, 3, none⟩ (.slice (some ⟨gg, 0, none⟩) (es.length + 1) gcap)) base T (.slice (some ⟨gg, 0, none⟩) (es.length + 1) gcap) (es ++ [t]) ∧
  (w2.setCell ⟨pb, 3, none⟩ (.slice (some ⟨gg, 0, none⟩) (es.length + 1) gcap)).1[pb]? = some (.cells #[c0, c1, c2, .slice (some ⟨gg, 0, none⟩) (es.length + 1) gcap] T (0, 0)) ∧
  (∀ b, b < base → b ≠ pb → (w2.setCell ⟨pb, 3, none⟩ (.slice (some ⟨gg, 0, none⟩) (es.length + 1) gcap)).1[b]? = wr.1[b]?) ∧
  Below pb wr (w2.setCell ⟨pb, 3, none⟩ (.slice (some ⟨gg, 0, none⟩) (es.length + 1) gcap)) := by
 have hob := hm.1.lt;have hba : Below wr.1.size wr (w1.alloc o) := hb1.alloc (by have := hb1.size; omega) _;have hvv : aT (w1.alloc o) (fun b => wr.1.size ≤ b) true t (.agg #[.int .i64 q0, .int .u64 q1, .int .u64 q2, .slice q3 q4 q5]) := hv.below ((Below.refl w1.1.size w1).alloc nl _) nl;have hs1 := hb1.size;have far : ∀ b, b < base → w2.1[b]? = wr.1[b]? := fun b hb => nD hba (by omega) (by omega) hgrow (fun e => by have := (hob _ e.symm).1; omega)
 refine ⟨(Making.push hm.1 hm.2 hbase hba nl hvv hgrow hown2 (by simpa using hat)).setCell _ hpb _, ?_, ?_, ?_⟩
 ·exact aM ((far _ hpb).trans hh) (by simp)
 ·intro b hb hne
  rw [ay _ _ _ _ (by simpa using hne)]; exact far b hb
 ·exact (Below.grown' (base := base) (hba.mono (by omega)) hgrow (fun k hk => ⟨(hob k hk).1, by have := (hob k hk).2; simp; omega⟩) (by simp; omega) (by omega)).setCell (by simp) _
structure Rk (P : Nat → Prop) (w w' : World) : Prop where
 os : w'.os = w.os
 tape : w'.tape = w.tape
 output : w'.output = w.output
 size : w.1.size ≤ w'.1.size
 keep : ∀ b, b < w.1.size → ¬ P b → w'.1[b]? = w.1[b]?
theorem Rk.refl (P : Nat → Prop) (w : World) : Rk P w w := ⟨rfl, rfl, rfl, Nat.le_refl _, fun _ _ _ => rfl⟩
theorem Rk.trans {P : Nat → Prop} {a b c : World} (h : Rk P a b) (k : Rk P b c) : Rk P a c :=
 ⟨k.os.trans h.os, k.tape.trans h.tape, k.output.trans h.output, Nat.le_trans h.size k.size, fun i hi hn => (k.keep i (by have := h.size; omega) hn).trans (h.keep i hi hn)⟩
theorem Rk.trans' {P Q : Nat → Prop} {a b c : World} (h : Rk P a b) (k : Rk Q b c) (hQ : ∀ i, i < a.1.size → Q i → P i) : Rk P a c :=
 ⟨k.os.trans h.os, k.tape.trans h.tape, k.output.trans h.output, Nat.le_trans h.size k.size, fun i hi hn => (k.keep i (by have := h.size; omega) (fun q => hn (hQ i hi q))).trans (h.keep i hi hn)⟩
theorem Rk.mono {P Q : Nat → Prop} {w w' : World} (h : Rk P w w') (hPQ : ∀ b, P b → Q b) : Rk Q w w' := ⟨h.os, h.tape, h.output, h.size, fun b hb hn => h.keep b hb (fun p => hn (hPQ b p))⟩
theorem Rk.of_below {P : Nat → Prop} {w w' : World} (h : Below w.1.size w w') : Rk P w w' := ⟨h.os, h.tape, h.output, h.size, fun b hb _ => h.block b hb⟩
theorem Rk.setCell {P : Nat → Prop} {w w' : World} (h : Rk P w w') (g : Nat) (hg : w.1.size ≤ g ∨ P g) (o : Nat) (v : Value) : Rk P w (w'.setCell ⟨g, o, none⟩ v) :=
 ⟨h.os, h.tape, h.output, by simpa using h.size, fun b hb hn => (ay _ _ _ _ (fun e => by simp only at e; subst e; rcases hg with hg | hg; omega; exact hn hg)).trans (h.keep b hb hn)⟩
theorem Rk.setRow {P : Nat → Prop} {w w' : World} (h : Rk P w w') (g : Nat) (hg : w.1.size ≤ g ∨ P g) (cs : Array Value) : Rk P w (w'.setRow g cs) :=
 ⟨h.os, h.tape, h.output, by simpa [World.setRow] using h.size, fun b hb hn => (setRow_other _ _ _ _ (fun e => by subst e; rcases hg with hg | hg; omega; exact hn hg)).trans (h.keep b hb hn)⟩
theorem Rk.below {P : Nat → Prop} {w w' : World} {B : Nat} (h : Rk P w w') (hB : B ≤ w.1.size) (hP : ∀ b, P b → B ≤ b) : Below B w w' :=
 ⟨h.os, h.tape, h.output, h.size, fun b hb => h.keep b (by omega) (fun p => by have := hP b p; omega)⟩
theorem Ca (ys : List Value) (n : Nat) (hy : ys.length = n * 4) (z0 z1 z2 z3 v0 v1 v2 v3 : Value) :
  ((((ys ++ [z0, z1, z2, z3]).set (n * 4) v0).set (n * 4 + 1) v1).set (n * 4 + 2) v2).set (n * 4 + 3) v3 = ys ++ [v0, v1, v2, v3] := by
 rw [← hy];rw [List.set_append_right _ _ (by omega), List.set_append_right _ _ (by omega), List.set_append_right _ _ (by omega), List.set_append_right _ _ (by omega)];simp
def kM (w : World) (g o : Nat) (v0 v1 v2 v3 : Value) : World := (((w.setCell ⟨g, o, none⟩ v0).setCell ⟨g, o + 1, none⟩ v1).setCell ⟨g, o + 2, none⟩ v2).setCell ⟨g, o + 3, none⟩ v3
theorem qf {w : World} {base : Nat} {T : TypeId} {g n cap : Nat} {ys : List Value} {z0 z1 z2 z3 v0 v1 v2 v3 : Value} (h : w.ownsRow base T 4 (.slice (some ⟨g, 0, none⟩) (n + 1) cap) (n + 1) (ys ++ [z0, z1, z2, z3])) (hy : ys.length = n * 4) :
  (kM w g (n * 4) v0 v1 v2 v3).ownsRow base T 4 (.slice (some ⟨g, 0, none⟩) (n + 1) cap) (n + 1) (ys ++ [v0, v1, v2, v3]) := by
 have h4 := ((((h.stored (n * 4) v0).1.stored (n * 4 + 1) v1).1.stored (n * 4 + 2) v2).1.stored (n * 4 + 3) v3).1;rw [Ca ys n hy] at h4;exact h4
theorem jl {w : World} {g o b : Nat} {v0 v1 v2 v3 : Value} (h : b ≠ g) : (kM w g o v0 v1 v2 v3).1[b]? = w.1[b]? := by
 unfold kM;rw [ay _ _ _ _ h, ay _ _ _ _ h, ay _ _ _ _ h, ay _ _ _ _ h]
theorem Gh {w : World} {base : Nat} {T : TypeId} {g n cap : Nat} {ys : List Value} {z0 z1 z2 z3 : Value} (h : w.ownsRow base T 4 (.slice (some ⟨g, 0, none⟩) (n + 1) cap) (n + 1) (ys ++ [z0, z1, z2, z3])) (hy : ys.length = n * 4) :
  w.cell? ⟨g, n * 4, none⟩ = some z0 ∧ w.cell? ⟨g, n * 4 + 1, none⟩ = some z1 ∧ w.cell? ⟨g, n * 4 + 2, none⟩ = some z2 ∧ w.cell? ⟨g, n * 4 + 3, none⟩ = some z3 ∧ (∀ j, w.frozen? ⟨g, j, none⟩ = false) := by
 refine ⟨?_, ?_, ?_, ?_, fun j => h.frozenAt j⟩
 all_goals (rw [h.cellAt _ (by omega), ← hy, List.getElem?_append_right (by omega)]; simp)
theorem Cb {W X w2 F : World} {T : TypeId} {sa : Option Addr} {sc gg gcap base pb lo : Nat} {es : List Ex} {t : Ex} {q0 : Int} {q1 q2 : Nat} {q3 : Option Addr} {q4 q5 : Nat} {ys : List Value}
  (hown : W.ownsRow base T 4 (.slice sa es.length sc) es.length ys) (hey : aX W (fun b => base ≤ b ∧ (Value.slice sa es.length sc).ownBlock ≠ some b) true es ys) (hbase : base ≤ lo) (hpb : pb < base) (hlo : ∀ k, (Value.slice sa es.length sc).ownBlock = some k → k < lo)
  (hv : aT W (fun b => lo ≤ b) true t (.agg #[.int .i64 q0, .int .u64 q1, .int .u64 q2, .slice q3 q4 q5]))
  (hX : Below W.1.size W X) (hXs : X.1.size = W.1.size + 1) (hgrow : X.grownBy w2 (Value.slice sa es.length sc).ownBlock) (hat : (Value.slice sa es.length sc).ownBlock = some gg ∨ gg = W.1.size + 1)
  (hF0 : F.os = w2.os ∧ F.tape = w2.tape ∧ F.output = w2.output ∧ F.1.size = w2.1.size) (hF1 : F.ownsRow base T 4 (.slice (some ⟨gg, 0, none⟩) (es.length + 1) gcap) (es.length + 1) (ys ++ [.int .i64 q0, .int .u64 q1, .int .u64 q2, .slice q3 q4 q5]))
  (hF2 : ∀ b, b ≠ gg → b ≠ pb → F.1[b]? = w2.1[b]?) :
  Making F base T (.slice (some ⟨gg, 0, none⟩) (es.length + 1) gcap) (es ++ [t]) ∧ (∀ b, b < base → b ≠ pb → b < W.1.size → F.1[b]? = W.1[b]?) ∧ W.1.size ≤ F.1.size ∧ (pb ≤ W.1.size → Below pb W F) := by
 have hlt := hown.lt;have hgs := hgrow.size;have hsame : ∀ b, b < W.1.size → b ≠ pb → (Value.slice sa es.length sc).ownBlock ≠ some b → F.1[b]? = W.1[b]? := by
  intro b hb hp hn;have hg : b ≠ gg := by
   intro e; subst e;rcases hat with h | h
   ·exact hn h
   ·omega
  rw [hF2 b hg hp, hgrow.block b (by omega) (fun e => hn e.symm), hX.block b hb]
 refine ⟨⟨ys ++ [.int .i64 q0, .int .u64 q1, .int .u64 q2, .slice q3 q4 q5], by simpa using hF1, aX.append ?_ (aX.one ?_)⟩, ?_, ?_, ?_⟩
 ·refine aX.keep (w := W) ?_ ?_ hey
  ·rintro b ⟨hb, hne⟩ hbl
   exact hsame b hbl (by omega) hne
  ·rintro b hbl ⟨hb, hne⟩
   refine ⟨hb, ?_⟩;simp only [Value.ownBlock, ne_eq, Option.some.injEq];intro h;subst h;rcases hat with h | h
   ·exact hne h
   ·omega
 ·refine aT.keep (w := W) ?_ ?_ hv
  ·rintro b hb hbl
   exact hsame b hbl (by omega) (fun e => by have := hlo b e; omega)
  ·rintro b hbl hb
   refine ⟨by omega, ?_⟩;simp only [Value.ownBlock, ne_eq, Option.some.injEq];intro h;subst h;rcases hat with h | h
   ·have := hlo _ h; omega
   ·omega
 ·intro b hb hp hbl
  exact hsame b hbl hp (fun e => by have := (hlt b e).1; omega)
 ·rw [hF0.2.2.2]; omega
 ·intro hp
  exact ⟨hF0.1.trans (hgrow.os.trans hX.os), hF0.2.1.trans (hgrow.tape.trans hX.tape), hF0.2.2.1.trans (hgrow.output.trans hX.output), by rw [hF0.2.2.2]; omega, fun b hb => hsame b (by omega) (by omega) (fun e => by have := (hlt b e).1; omega)⟩
end Go.Proofs.YtlpgokcapdjgjaaGreatDoor
