/- A part put behind the others: a zero appended, then written over. Plain lemmas. Ahead of it: The number that bytes begin with: plain Lean. The tree that bytes begin with: plain Lean. Steps of taking a number from bytes: plain Lean. The predicate that stands at a place, and the one as which bytes stand: plain Lean. A part put behind the others of a node that is being made. Plain lemmas. -/
import Derived.Test.YtjedgiiplebofaaGreatDoorU14
import Derived.Test.YtjedgiiplebofaaGreatDoorU35
import Derived.Test.YtjedgiiplebofaaGreatDoorU18
import Derived.Laws.OwnMore
namespace Go.Proofs.YtjedgiiplebofaaGreatDoor
open Go.RowKit Go
set_option linter.unusedVariables false
set_option linter.unusedSimpArgs false
def isMore (c : UInt8) : Bool := decide (128 ≤ c.toNat)
def moreN (l : List UInt8) : Nat := ((l.take 10).takeWhile isMore).length
def valOf : List UInt8 → Nat
  | [] => 0
  | c :: l => (valOf l * 128 + c.toNat % 128) % 18446744073709551616
def getV (l : List UInt8) : Option (Nat × List UInt8) :=
  if moreN l < 10 ∧ moreN l < l.length ∧ putV (valOf (l.take (moreN l + 1))) = l.take (moreN l + 1) then some (valOf (l.take (moreN l + 1)), l.drop (moreN l + 1)) else none
theorem valOf_lt (l : List UInt8) : valOf l < 18446744073709551616 := by
  cases l with
  | nil => simp [valOf]
  | cons c l => rw [valOf]; exact Nat.mod_lt _ (by omega)
theorem putF_bytes (f : Nat) : ∀ n, n < 128 ^ (f + 1) → ∃ a z, putF f n = a ++ [z] ∧ (∀ c ∈ a, isMore c = true) ∧ isMore z = false := by
  induction f with
  | zero => intro n h; refine ⟨[], n.toUInt8, by simp [putF], by simp, ?_⟩; simp at h; simp [isMore]; omega
  | succ f ih =>
    intro n h
    rw [putF]
    split
    · rename_i hn; refine ⟨[], n.toUInt8, by simp, by simp, ?_⟩; simp [isMore]; omega
    · obtain ⟨a, z, h1, h2, h3⟩ := ih (n / 128) (by rw [Nat.pow_succ] at h; omega)
      refine ⟨(n % 128 + 128).toUInt8 :: a, z, by rw [h1]; simp, ?_, h3⟩
      intro c hc
      rcases List.mem_cons.1 hc with rfl | hc
      · simp [isMore]; omega
      · exact h2 c hc
theorem putV_bytes (n : Nat) (h : n < 18446744073709551616) : ∃ a z, putV n = a ++ [z] ∧ (∀ c ∈ a, isMore c = true) ∧ isMore z = false := putF_bytes 9 n (Nat.lt_of_lt_of_le h (by decide))
theorem valOf_putF (f : Nat) : ∀ n, n < 128 ^ (f + 1) → n < 18446744073709551616 → valOf (putF f n) = n := by
  induction f with
  | zero => intro n h h64; simp at h; simp [putF, valOf]; omega
  | succ f ih =>
    intro n h h64
    rw [putF]
    split
    · rename_i hn; simp [valOf]; omega
    · rw [valOf, ih (n / 128) (by rw [Nat.pow_succ] at h; omega) (by omega)]
      simp; omega
theorem valOf_putV (n : Nat) (h : n < 18446744073709551616) : valOf (putV n) = n := valOf_putF 9 n (Nat.lt_of_lt_of_le h (by decide)) h
theorem takeWhile_more (a : List UInt8) (z : UInt8) (r : List UInt8) (ha : ∀ c ∈ a, isMore c = true) (hz : isMore z = false) : (a ++ z :: r).takeWhile isMore = a := by
  induction a with
  | nil => simp [hz]
  | cons c a ih => simp [ha c (by simp), ih (fun d hd => ha d (by simp [hd]))]
theorem getV_put (n : Nat) (r : List UInt8) (h : n < 18446744073709551616) : getV (putV n ++ r) = some (n, r) := by
  obtain ⟨a, z, h1, h2, h3⟩ := putV_bytes n h
  have hl := (putV_length n).1
  rw [h1] at hl
  simp at hl
  have hm : moreN (putV n ++ r) = a.length := by
    unfold moreN
    rw [h1, List.append_assoc, List.singleton_append, List.take_append]
    rw [List.take_of_length_le (by omega), show 10 - a.length = (9 - a.length) + 1 from by omega, List.take_succ_cons, takeWhile_more a z _ h2 h3]
  have ht : (putV n ++ r).take (a.length + 1) = putV n := by rw [List.take_append_of_le_length (by rw [h1]; simp), List.take_of_length_le (by rw [h1]; simp)]
  have hd : (putV n ++ r).drop (a.length + 1) = r := by
    have : (putV n).length = a.length + 1 := by rw [h1]; simp
    rw [← this, List.drop_left]
  unfold getV
  rw [hm, ht, hd, valOf_putV n h, if_pos ⟨by omega, by rw [h1]; simp, rfl⟩]
theorem getV_some {l r : List UInt8} {n : Nat} (h : getV l = some (n, r)) : l = putV n ++ r ∧ n < 18446744073709551616 := by
  unfold getV at h
  split at h
  · rename_i hc
    injection h with h
    injection h with h1 h2
    subst h1 h2
    exact ⟨by rw [hc.2.2, List.take_append_drop], valOf_lt _⟩
  · cases h
end Go.Proofs.YtjedgiiplebofaaGreatDoor
namespace Go.Proofs.YtjedgiiplebofaaGreatDoor
open Go.RowKit Go
set_option linter.unusedVariables false
set_option linter.unusedSimpArgs false
def tkLoop (tk : List UInt8 → Option (Ex × List UInt8)) : Nat → List UInt8 → Option (List Ex × List UInt8)
  | 0, l => some ([], l)
  | n + 1, l => match tk l with
    | none => none
    | some (e, r) => (tkLoop tk n r).map fun x => (e :: x.1, x.2)
def getON (o : Option (List UInt8)) : Nat := match o.bind getV with
  | some x => x.1
  | none => 0
def getOR (o : Option (List UInt8)) : Option (List UInt8) := (o.bind getV).map fun x => x.2
def tkHead (c : Nat) (l : List UInt8) : Nat × Nat × Nat × Option (List UInt8) :=
  if c = 2 ∨ c = 3 then (getON (some l), 0, 0, getOR (some l))
  else if c = 4 then (getON (some l), getON (getOR (some l)), 0, getOR (getOR (some l)))
  else if c = 5 then (0, 0, 1, some l)
  else if c = 6 ∨ c = 7 then (0, 0, getON (some l), getOR (some l))
  else (0, 0, 0, some l)
def tkTail (tk : List UInt8 → Option (Ex × List UInt8)) (h : Nat × Nat × Nat × Option (List UInt8)) : Option (List Ex × List UInt8) := h.2.2.2.bind (tkLoop tk h.2.2.1)
def tkE : Nat → List UInt8 → Option (Ex × List UInt8)
  | 0, _ => none
  | _ + 1, [] => none
  | d + 1, c :: l =>
    if 1 ≤ c.toNat ∧ c.toNat ≤ 7 then (tkTail (tkE d) (tkHead c.toNat l)).map fun x => (.mk c.toNat (tkHead c.toNat l).1 (tkHead c.toNat l).2.1 x.1, x.2)
    else none
theorem putV_pos (n : Nat) : 0 < (putV n).length := (putV_length n).2
theorem getV_len {l r : List UInt8} {n : Nat} (h : getV l = some (n, r)) : r.length < l.length := by
  obtain ⟨h1, _⟩ := getV_some h
  have := putV_pos n
  rw [h1]; simp; omega
theorem getV_lt {l r : List UInt8} {n : Nat} (h : getV l = some (n, r)) : n < 18446744073709551616 := (getV_some h).2
theorem getV_suffix {l r : List UInt8} {n : Nat} (h : getV l = some (n, r)) : r <:+ l := by
  obtain ⟨h1, _⟩ := getV_some h
  exact ⟨_, h1.symm⟩
theorem tkLoop_snoc (tk : List UInt8 → Option (Ex × List UInt8)) : ∀ (n : Nat) (l : List UInt8), tkLoop tk (n + 1) l = match tkLoop tk n l with
    | none => none
    | some (es, r) => (tk r).map fun x => (es ++ [x.1], x.2) := by
  intro n
  induction n with
  | zero =>
    intro l
    simp only [tkLoop]
    cases h : tk l with
    | none => rfl
    | some x => obtain ⟨e, r⟩ := x; simp
  | succ n ih =>
    intro l
    rw [tkLoop]
    cases h : tk l with
    | none => simp [tkLoop, h]
    | some x =>
      obtain ⟨e, r⟩ := x
      have e1 : tkLoop tk (n + 1) l = (tkLoop tk n r).map fun x => (e :: x.1, x.2) := by rw [tkLoop, h]
      show (tkLoop tk (n + 1) r).map (fun x => (e :: x.1, x.2)) = _
      rw [ih r, e1]
      cases h2 : tkLoop tk n r with
      | none => rfl
      | some y =>
        obtain ⟨es, q⟩ := y
        simp only [Option.map_some]
        cases tk q with
        | none => rfl
        | some z => simp
theorem getON_lt (o : Option (List UInt8)) : getON o < 18446744073709551616 := by
  unfold getON
  split
  · rename_i x hx
    obtain ⟨l, h1, h2⟩ := Option.bind_eq_some_iff.1 hx
    exact getV_lt (n := x.1) (r := x.2) h2
  · omega
theorem getOR_suffix (o : Option (List UInt8)) (r : List UInt8) (h : getOR o = some r) : ∃ l, o = some l ∧ r <:+ l ∧ r.length < l.length := by
  unfold getOR at h
  obtain ⟨x, h1, h2⟩ := Option.map_eq_some_iff.1 h
  obtain ⟨l, h3, h4⟩ := Option.bind_eq_some_iff.1 h1
  subst h2
  exact ⟨l, h3, getV_suffix (n := x.1) h4, getV_len (n := x.1) h4⟩
theorem tkHead_lt (c : Nat) (l : List UInt8) : (tkHead c l).1 < 18446744073709551616 ∧ (tkHead c l).2.1 < 18446744073709551616 ∧ (tkHead c l).2.2.1 < 18446744073709551616 := by
  unfold tkHead
  repeat' split
  all_goals (simp only; refine ⟨?_, ?_, ?_⟩ <;> first | exact getON_lt _ | omega)
def getC (l : List UInt8) : Int := if moreN l = 10 then 10 else if l.length ≤ moreN l then 4 else if (getV l).isSome then 0 else 10
theorem moreN_le (l : List UInt8) : moreN l ≤ 10 ∧ moreN l ≤ l.length := by
  unfold moreN
  have h := (List.takeWhile_prefix (p := isMore) (l := l.take 10)).length_le
  simp at h; omega
theorem getC_zero (l : List UInt8) : (getC l = 0) ↔ (getV l).isSome = true := by
  unfold getC
  have := moreN_le l
  constructor
  · intro h
    split at h
    · omega
    · split at h
      · omega
      · split at h
        · assumption
        · omega
  · intro h
    have h2 : moreN l < 10 ∧ moreN l < l.length := by
      unfold getV at h
      split at h
      · rename_i hc; exact ⟨hc.1, hc.2.1⟩
      · cases h
    rw [if_neg (by omega), if_neg (by omega), if_pos h]
end Go.Proofs.YtjedgiiplebofaaGreatDoor
namespace Go.Proofs.YtjedgiiplebofaaGreatDoor
open Go.RowKit Go
set_option linter.unusedVariables false
set_option linter.unusedSimpArgs false
theorem takeWhile_at {p : UInt8 → Bool} : ∀ (l : List UInt8) (j : Nat) (h : j < (l.takeWhile p).length) (hl : j < l.length), p l[j] = true
  | [], j, h, hl => by simp at hl
  | c :: l, j, h, hl => by
    rw [List.takeWhile_cons] at h
    split at h
    · cases j with
      | zero => simpa
      | succ j => simp at h hl ⊢; exact takeWhile_at l j h hl
    · simp at h
theorem takeWhile_stop {p : UInt8 → Bool} : ∀ (l : List UInt8) (hl : (l.takeWhile p).length < l.length), p (l[(l.takeWhile p).length]'hl) = false
  | [], hl => by simp at hl
  | c :: l, hl => by
    by_cases hp : p c = true
    · have h : ((c :: l).takeWhile p).length = (l.takeWhile p).length + 1 := by rw [List.takeWhile_cons, if_pos hp]; simp
      have hl' : (l.takeWhile p).length < l.length := by rw [h] at hl; simpa using hl
      have := takeWhile_stop l hl'
      simp only [h, List.getElem_cons_succ]
      exact this
    · have h : ((c :: l).takeWhile p).length = 0 := by rw [List.takeWhile_cons, if_neg hp]; rfl
      simp only [h, List.getElem_cons_zero]
      exact Bool.eq_false_iff.2 hp
theorem valOf_drop (l : List UInt8) (k : Nat) (h : k < l.length) : valOf (l.drop k) = (valOf (l.drop (k + 1)) * 128 + l[k].toNat % 128) % 18446744073709551616 := by
  rw [List.drop_eq_getElem_cons h, valOf]
def getN (l : List UInt8) : Nat := match getV l with
  | some x => x.1
  | none => 0
def getAt (a : Nat) (l : List UInt8) : Nat := match getV l with
  | some x => a + (l.length - x.2.length)
  | none => 0
theorem getV_yes {l : List UInt8} (h1 : moreN l < 10) (h2 : moreN l < l.length) (h3 : putV (valOf (l.take (moreN l + 1))) = l.take (moreN l + 1)) :
    getV l = some (valOf (l.take (moreN l + 1)), l.drop (moreN l + 1)) := by unfold getV; rw [if_pos ⟨h1, h2, h3⟩]
theorem getV_no {l : List UInt8} (h : ¬ (moreN l < 10 ∧ moreN l < l.length ∧ putV (valOf (l.take (moreN l + 1))) = l.take (moreN l + 1))) : getV l = none := by unfold getV; rw [if_neg h]
theorem get_yes {l : List UInt8} (a : Nat) (h1 : moreN l < 10) (h2 : moreN l < l.length) (h3 : putV (valOf (l.take (moreN l + 1))) = l.take (moreN l + 1)) :
    getN l = valOf (l.take (moreN l + 1)) ∧ getAt a l = a + moreN l + 1 ∧ getC l = 0 := by
  have h := getV_yes h1 h2 h3
  refine ⟨by unfold getN; rw [h], by unfold getAt; rw [h]; simp; omega, ?_⟩
  unfold getC
  rw [h, if_neg (by omega), if_neg (by omega)]; rfl
theorem get_no {l : List UInt8} (a : Nat) (h : getV l = none) : getN l = 0 ∧ getAt a l = 0 := ⟨by unfold getN; rw [h], by unfold getAt; rw [h]⟩
theorem getC_ten {l : List UInt8} (h : moreN l = 10) : getC l = 10 ∧ getV l = none := ⟨by unfold getC; rw [if_pos h], getV_no (fun hh => by omega)⟩
theorem getC_short {l : List UInt8} (h : moreN l < 10) (h2 : l.length ≤ moreN l) : getC l = 4 ∧ getV l = none := ⟨by unfold getC; rw [if_neg (by omega), if_pos h2], getV_no (fun hh => by omega)⟩
theorem getC_odd {l : List UInt8} (h : moreN l < 10) (h2 : moreN l < l.length) (h3 : putV (valOf (l.take (moreN l + 1))) ≠ l.take (moreN l + 1)) : getC l = 10 ∧ getV l = none := by
  have hn : getV l = none := getV_no (fun hh => h3 hh.2.2)
  refine ⟨?_, hn⟩
  unfold getC
  rw [if_neg (by omega), if_neg (by omega), hn]; rfl
def at8 (l : List UInt8) (j : Nat) : Nat := ((l[j]?).getD 0).toNat
theorem at8_lt (l : List UInt8) (j : Nat) : at8 l j < 256 := UInt8.toNat_lt _
theorem at8_eq (l : List UInt8) (j : Nat) (h : j < l.length) : at8 l j = l[j].toNat := by unfold at8; rw [List.getElem?_eq_getElem h]; rfl
theorem at8_take (l : List UInt8) (n j : Nat) (h : j < n) : at8 (l.take n) j = at8 l j := by unfold at8; rw [List.getElem?_take, if_pos h]
theorem at8_ext {p q : List UInt8} (n : Nat) (hp : n < p.length) (hq : n < q.length) (h : p.take n = q.take n) (h1 : at8 p n = at8 q n) : p.take (n + 1) = q.take (n + 1) := by
  rw [at8_eq p n hp, at8_eq q n hq] at h1
  rw [List.take_succ_eq_append_getElem hp, List.take_succ_eq_append_getElem hq, h, UInt8.toNat_inj.1 h1]
theorem at8_ne {p q : List UInt8} (n : Nat) (hp : n < p.length) (hq : n < q.length) (h1 : at8 p n ≠ at8 q n) : p ≠ q := by
  intro e; subst e; exact h1 rfl
theorem valOf_drop8 (l : List UInt8) (k : Nat) (h : k < l.length) : valOf (l.drop k) = (valOf (l.drop (k + 1)) * 128 + at8 l k % 128) % 18446744073709551616 := by rw [at8_eq l k h]; exact valOf_drop l k h
theorem RepB.at8 {w : World} {S : Nat → Prop} {own : Bool} {l : List UInt8} {ad : Option Addr} {cap j : Nat} (h : RepB w S own l (.slice ad l.length cap)) (hj : j < l.length) :
    ∃ bl off, ad = some ⟨bl, off, none⟩ ∧ S bl ∧ w.cell? ⟨bl, off + j, none⟩ = some (.int .u8 (at8 l j : Nat)) := by
  obtain ⟨bl, off, h1, h2, h3⟩ := RepB.cell h (by omega)
  exact ⟨bl, off, h1, h2, by rw [(h3 j hj).1, at8_eq l j hj]⟩
theorem RepB.cut {w : World} {S : Nat → Prop} {own : Bool} {l : List UInt8} {ad : Option Addr} {cap : Nat} (h : RepB w S own l (.slice ad l.length cap)) (a m cap' : Nat) (ham : a + m ≤ l.length) (hcap : m ≤ cap') :
    RepB w S own ((l.drop a).take m) (.slice (ad.map fun x => x.add a) m cap') := by
  have h63 := h.2.1
  have hlen : ((l.drop a).take m).length = m := by simp; omega
  refine ⟨by simp, by omega, _, cap', by rw [hlen], by omega, fun hn => ?_⟩
  obtain ⟨bl, off, h1, h2, h3⟩ := RepB.cell h (by omega)
  refine ⟨bl, off + a, ?_, h2, fun j hj => ?_⟩
  · rw [h1]; simp [Addr.add]
  · have hj' : j < m := by rw [bytes_length, hlen] at hj; exact hj
    obtain ⟨c1, c2⟩ := h3 (a + j) (by omega)
    rw [Nat.add_assoc]
    refine ⟨?_, c2⟩
    rw [c1]; simp [bytes]
theorem RepB.head {w : World} {S : Nat → Prop} {own : Bool} {l : List UInt8} {ad : Option Addr} {cap : Nat} (h : RepB w S own l (.slice ad l.length cap)) (m cap' : Nat) (ham : m ≤ l.length) (hcap : m ≤ cap') :
    RepB w S own (l.take m) (.slice ad m cap') := by
  have h63 := h.2.1
  have hlen : (l.take m).length = m := by simp; omega
  refine ⟨by simp, by omega, _, cap', by rw [hlen], by omega, fun hn => ?_⟩
  obtain ⟨bl, off, h1, h2, h3⟩ := RepB.cell h (by omega)
  refine ⟨bl, off, h1, h2, fun j hj => ?_⟩
  have hj' : j < m := by rw [bytes_length, hlen] at hj; exact hj
  obtain ⟨c1, c2⟩ := h3 j (by omega)
  exact ⟨by rw [c1]; simp [bytes], c2⟩
theorem RepB.none {w : World} {S : Nat → Prop} {own : Bool} {ad : Option Addr} {cap : Nat} : RepB w S own [] (.slice ad 0 cap) :=
  ⟨by simp, by simp, ad, cap, rfl, by simp, fun h => by simp at h⟩
end Go.Proofs.YtjedgiiplebofaaGreatDoor
namespace Go.Proofs.YtjedgiiplebofaaGreatDoor
open Go.RowKit Go
set_option linter.unusedVariables false
set_option linter.unusedSimpArgs false
def tkAt (b : List UInt8) (i : Int) : Option (Ex × Nat) :=
  if 0 ≤ i ∧ i ≤ b.length then
    match tkE 8 (b.drop i.toNat) with
    | some (e, r) => if e.right then some (e, b.length - r.length) else none
    | none => none
  else none
def tkAll (b : List UInt8) : Option Ex := match tkAt b 0 with
  | some (e, n) => if n = b.length then some e else none
  | none => none
def codeT {α : Type} (o : Option α) : Int := if o.isSome then 0 else 40
theorem tkAt_out {b : List UInt8} {i : Int} (h : i < 0 ∨ (b.length : Int) < i) : tkAt b i = none := by unfold tkAt; rw [if_neg (by omega)]
theorem tkAt_none {b : List UInt8} {q : Nat} (hq : q ≤ b.length) (h : tkE 8 (b.drop q) = none) : tkAt b q = none := by
  unfold tkAt; rw [if_pos (by omega)]; simp [h]
theorem tkAt_some {b r : List UInt8} {q : Nat} {e : Ex} (hq : q ≤ b.length) (h : tkE 8 (b.drop q) = some (e, r)) : tkAt b q = if e.right then some (e, b.length - r.length) else none := by
  unfold tkAt; rw [if_pos (by omega)]; simp [h]
end Go.Proofs.YtjedgiiplebofaaGreatDoor
namespace Go.Proofs.YtjedgiiplebofaaGreatDoor
open Go.RowKit Go
set_option linter.unusedVariables false
set_option linter.unusedSimpArgs false
theorem rep_of_making2 {W W' : World} {base : Nat} {T : TypeId} {sv : Value} {es : List Ex} {S : Nat → Prop} {k : Int} {A B : Nat} (hm : Making W base T sv es) (hK : Keeps (fun b => base ≤ b) W W') (hS : ∀ b, base ≤ b → S b)
    (hk1 : -9223372036854775808 ≤ k) (hk2 : k ≤ 9223372036854775807) (hA : A < 18446744073709551616) (hB : B < 18446744073709551616) : RepE W' S true (.mk k A B es) (.agg #[.int .i64 k, .int .u64 A, .int .u64 B, sv]) := by
  obtain ⟨zs, h1, h2⟩ := hm.sl
  simp only [RepE]
  exact ⟨_, zs, rfl, hk1, hk2, hA, hB, h1.keep (by omega) hK (fun b _ h => hS b h), RepEs.keep hK (fun b _ h => hS b h) h2⟩
structure Rk (P : Nat → Prop) (w w' : World) : Prop where
  os : w'.os = w.os
  tape : w'.tape = w.tape
  output : w'.output = w.output
  size : w.heap.size ≤ w'.heap.size
  keep : ∀ b, b < w.heap.size → ¬ P b → w'.heap[b]? = w.heap[b]?
theorem Rk.refl (P : Nat → Prop) (w : World) : Rk P w w := ⟨rfl, rfl, rfl, Nat.le_refl _, fun _ _ _ => rfl⟩
theorem Rk.trans {P : Nat → Prop} {a b c : World} (h : Rk P a b) (k : Rk P b c) : Rk P a c :=
  ⟨k.os.trans h.os, k.tape.trans h.tape, k.output.trans h.output, Nat.le_trans h.size k.size, fun i hi hn => (k.keep i (by have := h.size; omega) hn).trans (h.keep i hi hn)⟩
theorem Rk.trans' {P Q : Nat → Prop} {a b c : World} (h : Rk P a b) (k : Rk Q b c) (hQ : ∀ i, i < a.heap.size → Q i → P i) : Rk P a c :=
  ⟨k.os.trans h.os, k.tape.trans h.tape, k.output.trans h.output, Nat.le_trans h.size k.size, fun i hi hn => (k.keep i (by have := h.size; omega) (fun q => hn (hQ i hi q))).trans (h.keep i hi hn)⟩
theorem Rk.mono {P Q : Nat → Prop} {w w' : World} (h : Rk P w w') (hPQ : ∀ b, P b → Q b) : Rk Q w w' := ⟨h.os, h.tape, h.output, h.size, fun b hb hn => h.keep b hb (fun p => hn (hPQ b p))⟩
theorem Rk.of_below {P : Nat → Prop} {w w' : World} (h : Below w.heap.size w w') : Rk P w w' := ⟨h.os, h.tape, h.output, h.size, fun b hb _ => h.block b hb⟩
theorem Rk.setCell {P : Nat → Prop} {w w' : World} (h : Rk P w w') (g : Nat) (hg : w.heap.size ≤ g ∨ P g) (o : Nat) (v : Value) : Rk P w (w'.setCell ⟨g, o, none⟩ v) :=
  ⟨h.os, h.tape, h.output, by simpa using h.size, fun b hb hn => (Below.heap_setCell _ _ _ _ (fun e => by simp only at e; subst e; rcases hg with hg | hg; omega; exact hn hg)).trans (h.keep b hb hn)⟩
theorem Rk.setRow {P : Nat → Prop} {w w' : World} (h : Rk P w w') (g : Nat) (hg : w.heap.size ≤ g ∨ P g) (cs : Array Value) : Rk P w (w'.setRow g cs) :=
  ⟨h.os, h.tape, h.output, by simpa [World.setRow] using h.size, fun b hb hn => (setRow_other _ _ _ _ (fun e => by subst e; rcases hg with hg | hg; omega; exact hn hg)).trans (h.keep b hb hn)⟩
theorem Rk.below {P : Nat → Prop} {w w' : World} {B : Nat} (h : Rk P w w') (hB : B ≤ w.heap.size) (hP : ∀ b, P b → B ≤ b) : Below B w w' :=
  ⟨h.os, h.tape, h.output, h.size, fun b hb => h.keep b (by omega) (fun p => by have := hP b p; omega)⟩
end Go.Proofs.YtjedgiiplebofaaGreatDoor
namespace Go.Proofs.YtjedgiiplebofaaGreatDoor
open Go.RowKit Go
set_option linter.unusedVariables false
set_option linter.unusedSimpArgs false
theorem set4_list (ys : List Value) (n : Nat) (hy : ys.length = n * 4) (z0 z1 z2 z3 v0 v1 v2 v3 : Value) :
    ((((ys ++ [z0, z1, z2, z3]).set (n * 4) v0).set (n * 4 + 1) v1).set (n * 4 + 2) v2).set (n * 4 + 3) v3 = ys ++ [v0, v1, v2, v3] := by
  rw [← hy]
  rw [List.set_append_right _ _ (by omega), List.set_append_right _ _ (by omega), List.set_append_right _ _ (by omega), List.set_append_right _ _ (by omega)]
  simp
def put4at (w : World) (g o : Nat) (v0 v1 v2 v3 : Value) : World := (((w.setCell ⟨g, o, none⟩ v0).setCell ⟨g, o + 1, none⟩ v1).setCell ⟨g, o + 2, none⟩ v2).setCell ⟨g, o + 3, none⟩ v3
theorem put4at_owns {w : World} {base : Nat} {T : TypeId} {g n cap : Nat} {ys : List Value} {z0 z1 z2 z3 v0 v1 v2 v3 : Value} (h : w.ownsRow base T 4 (.slice (some ⟨g, 0, none⟩) (n + 1) cap) (n + 1) (ys ++ [z0, z1, z2, z3])) (hy : ys.length = n * 4) :
    (put4at w g (n * 4) v0 v1 v2 v3).ownsRow base T 4 (.slice (some ⟨g, 0, none⟩) (n + 1) cap) (n + 1) (ys ++ [v0, v1, v2, v3]) := by
  have h4 := ((((h.stored (n * 4) v0).1.stored (n * 4 + 1) v1).1.stored (n * 4 + 2) v2).1.stored (n * 4 + 3) v3).1
  rw [set4_list ys n hy] at h4
  exact h4
theorem put4at_heap {w : World} {g o b : Nat} {v0 v1 v2 v3 : Value} (h : b ≠ g) : (put4at w g o v0 v1 v2 v3).heap[b]? = w.heap[b]? := by
  unfold put4at
  rw [Below.heap_setCell _ _ _ _ h, Below.heap_setCell _ _ _ _ h, Below.heap_setCell _ _ _ _ h, Below.heap_setCell _ _ _ _ h]
theorem last4 {w : World} {base : Nat} {T : TypeId} {g n cap : Nat} {ys : List Value} {z0 z1 z2 z3 : Value} (h : w.ownsRow base T 4 (.slice (some ⟨g, 0, none⟩) (n + 1) cap) (n + 1) (ys ++ [z0, z1, z2, z3])) (hy : ys.length = n * 4) :
    w.cell? ⟨g, n * 4, none⟩ = some z0 ∧ w.cell? ⟨g, n * 4 + 1, none⟩ = some z1 ∧ w.cell? ⟨g, n * 4 + 2, none⟩ = some z2 ∧ w.cell? ⟨g, n * 4 + 3, none⟩ = some z3 ∧ (∀ j, w.frozen? ⟨g, j, none⟩ = false) := by
  refine ⟨?_, ?_, ?_, ?_, fun j => h.frozenAt j⟩
  all_goals (rw [h.cellAt _ (by omega), ← hy, List.getElem?_append_right (by omega)]; simp)
theorem parts_put {W X w2 F : World} {T : TypeId} {sa : Option Addr} {sc gg gcap base pb lo : Nat} {es : List Ex} {t : Ex} {q0 : Int} {q1 q2 : Nat} {q3 : Option Addr} {q4 q5 : Nat} {ys : List Value}
    (hown : W.ownsRow base T 4 (.slice sa es.length sc) es.length ys) (hey : RepEs W (fun b => base ≤ b ∧ (Value.slice sa es.length sc).ownBlock ≠ some b) true es ys) (hbase : base ≤ lo) (hpb : pb < base) (hlo : ∀ k, (Value.slice sa es.length sc).ownBlock = some k → k < lo)
    (hv : RepE W (fun b => lo ≤ b) true t (.agg #[.int .i64 q0, .int .u64 q1, .int .u64 q2, .slice q3 q4 q5]))
    (hX : Below W.heap.size W X) (hXs : X.heap.size = W.heap.size + 1) (hgrow : X.grownBy w2 (Value.slice sa es.length sc).ownBlock) (hat : (Value.slice sa es.length sc).ownBlock = some gg ∨ gg = W.heap.size + 1)
    (hF0 : F.os = w2.os ∧ F.tape = w2.tape ∧ F.output = w2.output ∧ F.heap.size = w2.heap.size) (hF1 : F.ownsRow base T 4 (.slice (some ⟨gg, 0, none⟩) (es.length + 1) gcap) (es.length + 1) (ys ++ [.int .i64 q0, .int .u64 q1, .int .u64 q2, .slice q3 q4 q5]))
    (hF2 : ∀ b, b ≠ gg → b ≠ pb → F.heap[b]? = w2.heap[b]?) :
    Making F base T (.slice (some ⟨gg, 0, none⟩) (es.length + 1) gcap) (es ++ [t]) ∧ (∀ b, b < base → b ≠ pb → b < W.heap.size → F.heap[b]? = W.heap[b]?) ∧ W.heap.size ≤ F.heap.size ∧ (pb ≤ W.heap.size → Below pb W F) := by
  have hlt := hown.lt
  have hgs := hgrow.size
  have hsame : ∀ b, b < W.heap.size → b ≠ pb → (Value.slice sa es.length sc).ownBlock ≠ some b → F.heap[b]? = W.heap[b]? := by
    intro b hb hp hn
    have hg : b ≠ gg := by
      intro e; subst e
      rcases hat with h | h
      · exact hn h
      · omega
    rw [hF2 b hg hp, hgrow.block b (by omega) (fun e => hn e.symm), hX.block b hb]
  refine ⟨⟨ys ++ [.int .i64 q0, .int .u64 q1, .int .u64 q2, .slice q3 q4 q5], by simpa using hF1, RepEs.append ?_ (RepEs.one ?_)⟩, ?_, ?_, ?_⟩
  · refine RepEs.keep (w := W) ?_ ?_ hey
    · rintro b ⟨hb, hne⟩ hbl
      exact hsame b hbl (by omega) hne
    · rintro b hbl ⟨hb, hne⟩
      refine ⟨hb, ?_⟩
      simp only [Value.ownBlock, ne_eq, Option.some.injEq]
      intro h
      subst h
      rcases hat with h | h
      · exact hne h
      · omega
  · refine RepE.keep (w := W) ?_ ?_ hv
    · rintro b hb hbl
      exact hsame b hbl (by omega) (fun e => by have := hlo b e; omega)
    · rintro b hbl hb
      refine ⟨by omega, ?_⟩
      simp only [Value.ownBlock, ne_eq, Option.some.injEq]
      intro h
      subst h
      rcases hat with h | h
      · have := hlo _ h; omega
      · omega
  · intro b hb hp hbl
    exact hsame b hbl hp (fun e => by have := (hlt b e).1; omega)
  · rw [hF0.2.2.2]; omega
  · intro hp
    exact ⟨hF0.1.trans (hgrow.os.trans hX.os), hF0.2.1.trans (hgrow.tape.trans hX.tape), hF0.2.2.1.trans (hgrow.output.trans hX.output), by rw [hF0.2.2.2]; omega, fun b hb => hsame b (by omega) (by omega) (fun e => by have := (hlt b e).1; omega)⟩
end Go.Proofs.YtjedgiiplebofaaGreatDoor
