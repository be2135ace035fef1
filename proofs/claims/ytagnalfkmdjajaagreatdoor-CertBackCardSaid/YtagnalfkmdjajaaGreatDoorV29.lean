/- cert's reader's calls into a row of the call's own. Ahead of it: The numbers that cert's reader takes, and what certificate these make: plain Lean. cert's reader's calls, told by what stays. -/
import Derived.Test.YtagnalfkmdjajaaGreatDoorV28
import Derived.Test.YtagnalfkmdjajaaGreatDoorVD06
import Derived.Test.YtagnalfkmdjajaaGreatDoorV21
import Derived.Test.YtagnalfkmdjajaaGreatDoorVC88
namespace Go.Proofs.YtagnalfkmdjajaaGreatDoor
open Go.RowKit Go
set_option linter.unusedVariables false
set_option linter.unusedSimpArgs false
/-- As many numbers, one behind the other. -/
def takeS (s : Option (List UInt8)) : Nat → List Nat × Option (List UInt8)
  | 0 => ([], s)
  | n + 1 => ((takeS s n).1 ++ [(numS (takeS s n).2).1], (numS (takeS s n).2).2)
theorem takeS_succ (s : Option (List UInt8)) (n : Nat) : takeS s (n + 1) = ((takeS s n).1 ++ [(numS (takeS s n).2).1], (numS (takeS s n).2).2) := rfl
theorem takeS_len (s : Option (List UInt8)) : ∀ n, (takeS s n).1.length = n
  | 0 => rfl
  | n + 1 => by rw [takeS_succ]; simp [takeS_len s n]
theorem takeS_lt (s : Option (List UInt8)) : ∀ n, ∀ x ∈ (takeS s n).1, x < 18446744073709551616
  | 0, x, h => by simp [takeS] at h
  | n + 1, x, h => by
    rw [takeS_succ] at h
    rcases List.mem_append.1 h with h | h
    · exact takeS_lt s n x h
    · simp only [List.mem_cons, List.not_mem_nil, or_false] at h
      subst h
      exact numS_lt _
theorem numS_back {s : Option (List UInt8)} {r : List UInt8} (h : (numS s).2 = some r) : ∃ l, s = some l ∧ l = putV (numS s).1 ++ r := by
  cases s with
  | none => simp [numS] at h
  | some l =>
    cases hv : getV l with
    | none => rw [numS_no hv] at h; cases h
    | some x =>
      obtain ⟨n, q⟩ := x
      rw [numS_some hv] at h ⊢
      simp only [Option.some.injEq] at h
      subst h
      exact ⟨l, rfl, (getV_some hv).1⟩
theorem takeS_back (s : Option (List UInt8)) : ∀ n r, (takeS s n).2 = some r → ∃ l, s = some l ∧ l = putVs (takeS s n).1 ++ r
  | 0, r, h => ⟨r, h, by simp [takeS, putVs]⟩
  | n + 1, r, h => by
    rw [takeS_succ] at h
    obtain ⟨l1, h1, h2⟩ := numS_back (s := (takeS s n).2) h
    obtain ⟨l, h3, h4⟩ := takeS_back s n l1 h1
    refine ⟨l, h3, ?_⟩
    rw [h4, h2, takeS_succ]
    simp [putVs]
theorem takeS_put (ns : List Nat) (hb : ∀ n ∈ ns, n < 18446744073709551616) : ∀ n, n ≤ ns.length → takeS (some (putVs ns)) n = (ns.take n, some (putVs (ns.drop n)))
  | 0, _ => by simp [takeS]
  | n + 1, h => by
    rw [takeS_succ, takeS_put ns hb n (by omega)]
    have hd : ns.drop n = ns[n] :: ns.drop (n + 1) := List.drop_eq_getElem_cons (by omega)
    have hv : getV (putVs (ns.drop n)) = some (ns[n], putVs (ns.drop (n + 1))) := by
      rw [hd]
      have : ∀ (a : Nat) (t : List Nat), putVs (a :: t) = putV a ++ putVs t := fun a t => by simp [putVs]
      rw [this]
      exact getV_put _ _ (hb _ (List.getElem_mem _))
    simp only [numS_some hv]
    rw [List.take_succ_eq_append_getElem (by omega)]
/-- Whether one of them, by its place, may not be. -/
def badS (B : Nat → Nat → Bool) (b0 : Bool) (s : Option (List UInt8)) : Nat → Bool
  | 0 => b0
  | n + 1 => badS B b0 s n || B n (numS (takeS s n).2).1
theorem badS_succ (B : Nat → Nat → Bool) (b0 : Bool) (s : Option (List UInt8)) (n : Nat) : badS B b0 s (n + 1) = (badS B b0 s n || B n (numS (takeS s n).2).1) := rfl
theorem badS_iff (B : Nat → Nat → Bool) (b0 : Bool) (s : Option (List UInt8)) : ∀ n, badS B b0 s n = false ↔ b0 = false ∧ ∀ i x, (takeS s n).1[i]? = some x → B i x = false
  | 0 => by simp [badS, takeS]
  | n + 1 => by
    rw [badS_succ, Bool.or_eq_false_iff, badS_iff B b0 s n, takeS_succ]
    have hl := takeS_len s n
    constructor
    · rintro ⟨⟨h1, h2⟩, h3⟩
      refine ⟨h1, fun i x hx => ?_⟩
      by_cases hi : i < n
      · rw [List.getElem?_append_left (by omega)] at hx; exact h2 i x hx
      · by_cases he : i = n
        · subst he
          rw [List.getElem?_append_right (by omega), hl, Nat.sub_self] at hx
          simp at hx
          subst hx; exact h3
        · rw [List.getElem?_eq_none (by simp; omega)] at hx; cases hx
    · rintro ⟨h1, h2⟩
      refine ⟨⟨h1, fun i x hx => h2 i x ?_⟩, h2 n _ ?_⟩
      · have hi := (List.getElem?_eq_some_iff.1 hx).1
        rw [List.getElem?_append_left hi]; exact hx
      · rw [List.getElem?_append_right (by omega), hl, Nat.sub_self]; rfl
def fInt (f : Nat) : Bool := decide (f < 3) || f == 8
def fMore (f : Nat) : Nat := if f = 8 then 1 else 0
def numI (m x : Nat) : Int := IntKind.i64.wrap (IntKind.i64.wrap (x : Nat) - (m : Nat))
def fVal (f x : Nat) : Value := if fInt f then .int .i64 (numI (fMore f) x) else .int .u64 (x : Nat)
def fZero (f : Nat) : Value := if fInt f then .int .i64 0 else .int .u64 0
def badO (_ x : Nat) : Bool := decide (9223372036854775807 + 0 < x)
def badW (p x : Nat) : Bool := fInt (p % 9) && decide (9223372036854775807 + fMore (p % 9) < x)
def edN : List Nat → Ed
  | [a, b, k, x, sw, sn, mw, mn, p] => ⟨numI 0 a, numI 0 b, numI 0 k, x, sw, sn, mw, mn, numI 1 p⟩
  | _ => ⟨0, 0, 0, 0, 0, 0, 0, 0, 0⟩
def edsN (ns : List Nat) : List Ed := (List.range (ns.length / 9)).map fun i => edN ((ns.drop (i * 9)).take 9)
theorem numI_i64 (m x : Nat) : i64 (numI m x) := by unfold numI i64; rw [IntKind.wrap_i64]; omega
theorem numI_0 {x : Nat} (h : x ≤ 9223372036854775807) : numI 0 x = wholeN x := by
  unfold numI wholeN
  rw [IntKind.wrap_i64, IntKind.wrap_i64, if_neg (by omega)]; omega
theorem numI_1 {x : Nat} (h : x ≤ 9223372036854775808) : numI 1 x = if x = 0 then -1 else wholeN (x - 1) := by
  unfold numI wholeN
  rw [IntKind.wrap_i64, IntKind.wrap_i64]
  by_cases h0 : x = 0
  · rw [if_pos h0]; omega
  · rw [if_neg h0, if_neg (by omega)]; omega
/-- A row of cells: those that were written, and noughts. -/
def rowN (F : Nat → Nat → Value) (z : Nat → Value) (l : List Nat) (p : Nat) : Value := match l[p]? with
  | some x => F p x
  | none => z p
theorem rowN_set (M : Nat) (F : Nat → Nat → Value) (z : Nat → Value) (l : List Nat) (x : Nat) : (rowL M (rowN F z l)).set l.length (F l.length x) = rowL M (rowN F z (l ++ [x])) := by
  rw [rowL_set]
  refine rowL_congr _ _ _ fun p _ => ?_
  unfold rowN
  by_cases h : p = l.length
  · subst h; simp
  · rw [if_neg h]
    by_cases h2 : p < l.length
    · rw [List.getElem?_append_left h2]
    · rw [List.getElem?_eq_none (by omega), List.getElem?_eq_none (by simp; omega)]
def FO (_ x : Nat) : Value := .int .i64 (numI 0 x)
def zO (_ : Nat) : Value := .int .i64 0
def FW (p x : Nat) : Value := fVal (p % 9) x
def zW (p : Nat) : Value := fZero (p % 9)
theorem rowO_end (l : List Nat) : rowL l.length (rowN FO zO l) = ints (l.map (numI 0)) := by
  apply List.ext_getElem?
  intro p
  unfold ints rowL
  by_cases h : p < l.length
  · simp [h, rowN, FO]
  · simp [h]
theorem edN_val {q : List Nat} (hq : q.length = 9) {f : Nat} (hf : f < 9) : (edN q).vals[f]? = some (fVal f (q.getD f 0)) := by
  match q, hq with
  | [a, b, k, x, sw, sn, mw, mn, p], _ =>
    match f, hf with
    | 0, _ => rfl
    | 1, _ => rfl
    | 2, _ => rfl
    | 3, _ => rfl
    | 4, _ => rfl
    | 5, _ => rfl
    | 6, _ => rfl
    | 7, _ => rfl
    | 8, _ => rfl
theorem edsN_length (l : List Nat) : (edsN l).length = l.length / 9 := by simp [edsN]
theorem rowW_end (l : List Nat) (n : Nat) (h : l.length = n * 9) : rowL (n * 9) (rowN FW zW l) = edVs (edsN l) := by
  have hn : (edsN l).length = n := by rw [edsN_length, h]; omega
  apply List.ext_getElem?
  intro p
  by_cases hp : p < n * 9
  · have hj : p / 9 < (edsN l).length := by omega
    have e := edVs_at (edsN l) (p / 9) (p % 9) hj (by omega)
    rw [show p / 9 * 9 + p % 9 = p from by omega] at e
    have hq : ((l.drop (p / 9 * 9)).take 9).length = 9 := by simp; omega
    have hg : (edsN l)[p / 9] = edN ((l.drop (p / 9 * 9)).take 9) := by simp [edsN]
    rw [e, hg, edN_val hq (by omega), rowL_at _ _ _ hp]
    have hx : ((l.drop (p / 9 * 9)).take 9).getD (p % 9) 0 = l[p]'(by omega) := by
      rw [List.getD_eq_getElem?_getD, List.getElem?_take, if_pos (by omega), List.getElem?_drop, show p / 9 * 9 + p % 9 = p from by omega, List.getElem?_eq_getElem (by omega)]; rfl
    rw [hx]
    unfold rowN FW
    rw [List.getElem?_eq_getElem (by omega)]
  · rw [List.getElem?_eq_none (by rw [rowL_len]; omega), List.getElem?_eq_none (by rw [edVs_length]; omega)]
/-- The numbers of a kind's payload as the reader takes them, what is left, and whether one may not be. -/
def rdNs (k : Int) (s : Option (List UInt8)) : List Nat × Option (List UInt8) × Bool :=
  if k = 1 then ((manyS s).1 :: (takeS (numS s).2 (manyS s).1).1, (takeS (numS s).2 (manyS s).1).2, badS badO (manyS s).2 (numS s).2 (manyS s).1)
  else if k = 4 then ((manyS s).1 :: (takeS (numS s).2 ((manyS s).1 * 9)).1, (takeS (numS s).2 ((manyS s).1 * 9)).2, badS badW (manyS s).2 (numS s).2 ((manyS s).1 * 9))
  else ((takeS s 2).1, (takeS s 2).2, badS badO false s 2)
/-- The certificate that the reader makes of them. -/
def rdCrt (k : Int) (s : Option (List UInt8)) : Crt :=
  if k = 1 then ⟨k, (takeS (numS s).2 (manyS s).1).1.map (numI 0), 0, 0, []⟩
  else if k = 4 then ⟨k, [], 0, 0, edsN (takeS (numS s).2 ((manyS s).1 * 9)).1⟩
  else ⟨k, [], numI 0 (numS s).1, numI 0 (numS (numS s).2).1, []⟩
theorem edN_nums {q : List Nat} (h : ∀ x ∈ q, x < 18446744073709551616) : (edN q).nums := by
  unfold edN
  split
  · simp only [List.mem_cons, List.not_mem_nil, or_false, forall_eq_or_imp, forall_eq] at h
    obtain ⟨h0, h1, h2, h3, h4, h5, h6, h7, h8⟩ := h
    exact ⟨numI_i64 _ _, numI_i64 _ _, numI_i64 _ _, h3, h4, h5, h6, h7, numI_i64 _ _⟩
  · have z : i64 0 := by unfold i64; omega
    exact ⟨z, z, z, by decide, by decide, by decide, by decide, by decide, z⟩
theorem rdCrt_nums {k : Int} (hk : i64 k) (s : Option (List UInt8)) : (rdCrt k s).nums := by
  have z : i64 0 := by unfold i64; omega
  unfold rdCrt
  split
  · refine ⟨hk, z, z, fun n hn => ?_, fun e he => absurd he (by simp)⟩
    obtain ⟨x, _, rfl⟩ := List.mem_map.1 hn
    exact numI_i64 _ _
  · split
    · refine ⟨hk, z, z, fun n hn => absurd hn (by simp), fun e he => ?_⟩
      obtain ⟨i, _, rfl⟩ := List.mem_map.1 he
      exact edN_nums fun x hx => takeS_lt _ _ x (List.mem_of_mem_drop (List.mem_of_mem_take hx))
    · exact ⟨hk, numI_i64 _ _, numI_i64 _ _, fun n hn => absurd hn (by simp), fun e he => absurd he (by simp)⟩
theorem edN_good {q : List Nat} (hq : q.length = 9) (h : ∀ f, f < 9 → badW f (q.getD f 0) = false) : edN q = edOf q ∧ (edOf q).pays = q := by
  match q, hq with
  | [a, b, k, x, sw, sn, mw, mn, p], _ =>
    have h0 : ¬ 9223372036854775807 < a := by simpa [badW, fInt, fMore] using h 0 (by omega)
    have h1 : ¬ 9223372036854775807 < b := by simpa [badW, fInt, fMore] using h 1 (by omega)
    have h2 : ¬ 9223372036854775807 < k := by simpa [badW, fInt, fMore] using h 2 (by omega)
    have h8 : ¬ 9223372036854775808 < p := by simpa [badW, fInt, fMore] using h 8 (by omega)
    constructor
    · unfold edN edOf
      simp only
      rw [numI_0 (by omega), numI_0 (by omega), numI_0 (by omega), numI_1 (by omega)]
    · unfold edOf Ed.pays
      simp only [List.cons.injEq, and_true, true_and]
      unfold wholeN
      rw [if_neg h0, if_neg h1, if_neg h2]
      refine ⟨by omega, by omega, by omega, ?_⟩
      by_cases hp : p = 0
      · rw [if_pos hp]; omega
      · rw [if_neg hp, if_neg (by omega)]; omega
theorem nines (l : List Nat) : ∀ m, m * 9 ≤ l.length → (List.range m).flatMap (fun i => (l.drop (i * 9)).take 9) = l.take (m * 9)
  | 0, _ => by simp
  | m + 1, h => by
    rw [List.range_succ, List.flatMap_append, nines l m (by omega), show (m + 1) * 9 = m * 9 + 9 from by omega, List.take_add]
    simp
theorem edsN_good {l : List Nat} {n : Nat} (hl : l.length = n * 9) (h : ∀ i x, l[i]? = some x → badW i x = false) : edsN l = edsOf l ∧ (edsOf l).flatMap Ed.pays = l ∧ (edsOf l).length = n := by
  have key : ∀ i, i < n → edN ((l.drop (i * 9)).take 9) = edOf ((l.drop (i * 9)).take 9) ∧ (edOf ((l.drop (i * 9)).take 9)).pays = (l.drop (i * 9)).take 9 := fun i hi => by
    refine edN_good (by simp; omega) fun f hf => ?_
    have hx : ((l.drop (i * 9)).take 9).getD f 0 = l[i * 9 + f]'(by omega) := by
      rw [List.getD_eq_getElem?_getD, List.getElem?_take, if_pos (by omega), List.getElem?_drop, List.getElem?_eq_getElem (by omega)]; rfl
    have := h (i * 9 + f) (l[i * 9 + f]'(by omega)) (List.getElem?_eq_getElem _)
    rw [hx]
    unfold badW at this ⊢
    rw [show (i * 9 + f) % 9 = f % 9 from by omega] at this
    exact this
  have hn : l.length / 9 = n := by omega
  refine ⟨?_, ?_, by simp [edsOf, hn]⟩
  · unfold edsN edsOf
    rw [hn]
    exact List.map_congr_left fun i hi => (key i (List.mem_range.1 hi)).1
  · unfold edsOf
    rw [hn, List.flatMap_map, ← List.take_length (l := l), hl]
    rw [show l.take (n * 9) = (List.range n).flatMap (fun i => (l.drop (i * 9)).take 9) from (nines l n (by omega)).symm]
    have : ∀ m, m ≤ n → (List.range m).flatMap (fun i => (edOf ((l.drop (i * 9)).take 9)).pays) = (List.range m).flatMap (fun i => (l.drop (i * 9)).take 9) := by
      intro m
      induction m with
      | zero => intro _; rfl
      | succ m ih =>
        intro hm
        rw [List.range_succ, List.flatMap_append, List.flatMap_append, ih (by omega)]
        simp [(key m (by omega)).2]
    have e : (List.range n).flatMap (fun i => (l.drop (i * 9)).take 9) = l := by rw [nines l n (by omega), ← hl, List.take_length]
    rw [e]
    exact (this n (Nat.le_refl _)).trans e
theorem many_of {s : Option (List UInt8)} {r : List UInt8} (h : (numS s).2 = some r) (hb : (manyS s).2 = false) : (manyS s).1 = (numS s).1 ∧ (numS s).1 ≤ r.length := by
  unfold manyS at hb ⊢
  rw [h] at hb ⊢
  simp only at hb ⊢
  split at hb
  · cases hb
  · rename_i hc; rw [if_neg hc]; exact ⟨rfl, by omega⟩
/-- All is well: the numbers are the candidate's, and the bytes theirs. -/
theorem rd_ok {k : Int} {l : List UInt8} (hk : 1 ≤ k ∧ k < 5) (hb : (rdNs k (some l)).2.2 = false) (hs : (rdNs k (some l)).2.1 = some []) :
    rdCrt k (some l) = crtOf k (rdNs k (some l)).1 ∧ (crtOf k (rdNs k (some l)).1).pays = (rdNs k (some l)).1 ∧ l = putVs (rdNs k (some l)).1 ∧ ∀ n ∈ (rdNs k (some l)).1, n < 18446744073709551616 := by
  unfold rdNs at hb hs ⊢
  unfold rdCrt
  by_cases h1 : k = 1
  · subst h1
    simp only [if_true] at hb hs ⊢
    obtain ⟨b1, b2⟩ := (badS_iff _ _ _ _).1 hb
    obtain ⟨l1, e1, e2⟩ := takeS_back _ _ _ hs
    obtain ⟨l0, e3, e4⟩ := numS_back e1
    injection e3 with e3
    subst e3
    have hm := many_of e1 b1
    have hl := takeS_len (numS (some l)).2 (manyS (some l)).1
    have hlt := takeS_lt (numS (some l)).2 (manyS (some l)).1
    rw [List.append_nil] at e2
    have h63 : ∀ x ∈ (takeS (numS (some l)).2 (manyS (some l)).1).1, x ≤ 9223372036854775807 := fun x hx => by
      obtain ⟨i, hi, rfl⟩ := List.mem_iff_getElem.1 hx
      have := b2 i _ (List.getElem?_eq_getElem hi)
      simp only [badO, decide_eq_false_iff_not] at this
      omega
    have hx := numS_lt (some l)
    rw [← hm.1] at e4 hx
    rw [e2] at e4
    generalize (takeS (numS (some l)).2 (manyS (some l)).1).1 = ns at hl hlt h63 e4 ⊢
    generalize (manyS (some l)).1 = n at hl e4 hx ⊢
    refine ⟨?_, ?_, ?_, ?_⟩
    · unfold crtOf
      rw [if_pos rfl, List.drop_succ_cons, List.drop_zero]
      congr 1
      exact List.map_congr_left fun x h => numI_0 (h63 x h)
    · unfold crtOf Crt.pays
      simp only [if_true, List.drop_succ_cons, List.drop_zero, List.length_map, List.map_map, hl]
      congr 1
      conv => rhs; rw [← List.map_id ns]
      apply List.map_congr_left
      intro x h
      have := h63 x h
      simp only [Function.comp, wholeN, id]
      rw [if_neg (by omega)]; omega
    · rw [e4]; simp [putVs]
    · intro x h
      rcases List.mem_cons.1 h with rfl | h
      · exact hx
      · exact hlt x h
  · by_cases h4 : k = 4
    · subst h4
      simp only [if_neg h1, if_true] at hb hs ⊢
      obtain ⟨b1, b2⟩ := (badS_iff _ _ _ _).1 hb
      obtain ⟨l1, e1, e2⟩ := takeS_back _ _ _ hs
      obtain ⟨l0, e3, e4⟩ := numS_back e1
      injection e3 with e3
      subst e3
      have hm := many_of e1 b1
      have hl := takeS_len (numS (some l)).2 ((manyS (some l)).1 * 9)
      have hlt := takeS_lt (numS (some l)).2 ((manyS (some l)).1 * 9)
      rw [List.append_nil] at e2
      have hx := numS_lt (some l)
      rw [← hm.1] at e4 hx
      rw [e2] at e4
      have hg := edsN_good hl b2
      generalize (takeS (numS (some l)).2 ((manyS (some l)).1 * 9)).1 = ns at hl hlt e4 hg ⊢
      generalize (manyS (some l)).1 = n at hl e4 hx hg ⊢
      refine ⟨?_, ?_, ?_, ?_⟩
      · unfold crtOf
        rw [if_neg h1, if_pos rfl, List.drop_succ_cons, List.drop_zero, hg.1]
      · unfold crtOf Crt.pays
        simp only [if_neg h1, if_true, List.drop_succ_cons, List.drop_zero, hg.2.1, hg.2.2]
      · rw [e4]; simp [putVs]
      · intro x h
        rcases List.mem_cons.1 h with rfl | h
        · exact hx
        · exact hlt x h
    · simp only [if_neg h1, if_neg h4] at hb hs ⊢
      obtain ⟨_, b2⟩ := (badS_iff _ _ _ _).1 hb
      obtain ⟨l1, e1, e2⟩ := takeS_back _ _ _ hs
      injection e1 with e1
      subst e1
      have hlt := takeS_lt (some l) 2
      rw [List.append_nil] at e2
      have e0 : (takeS (some l) 2).1 = [(numS (some l)).1, (numS (numS (some l)).2).1] := rfl
      rw [e0] at b2 e2 hlt ⊢
      have x0 := b2 0 _ rfl
      have x1 := b2 1 _ rfl
      simp only [badO, decide_eq_false_iff_not] at x0 x1
      generalize (numS (some l)).1 = a at x0 b2 e2 hlt ⊢
      generalize (numS (numS (some l)).2).1 = b at x1 b2 e2 hlt ⊢
      have hw : ∀ x : Nat, ¬ 9223372036854775807 + 0 < x → wholeN x = (x : Int) := fun x hx => by unfold wholeN; rw [if_neg (by omega)]
      refine ⟨?_, ?_, e2, hlt⟩
      · unfold crtOf
        rw [if_neg h1, if_neg h4, numI_0 (by omega), numI_0 (by omega)]
      · unfold crtOf Crt.pays
        simp only [if_neg h1, if_neg h4, hw a x0, hw b x1]
        simp
theorem edPays_good : ∀ (w : List Ed), (∀ e ∈ w, e.nums) → (∀ e ∈ w, e.ok) → ∀ i x, (w.flatMap Ed.pays)[i]? = some x → badW i x = false
  | [], _, _, i, x, h => by simp at h
  | e :: w, hn, ho, i, x, h => by
    rw [List.flatMap_cons] at h
    have h9 : e.pays.length = 9 := rfl
    by_cases hi : i < 9
    · rw [List.getElem?_append_left (by omega)] at h
      obtain ⟨b0, b1, b2, b3, b4, b5, b6, b7, b8⟩ := hn e (by simp)
      obtain ⟨o1, o2, o3, o4, o5⟩ := ho e (by simp)
      unfold i64 at b0 b1 b2 b8
      match i, hi, h with
      | 0, _, h => simp [Ed.pays] at h; subst h; simp [badW, fInt, fMore]; omega
      | 1, _, h => simp [Ed.pays] at h; subst h; simp [badW, fInt, fMore]; omega
      | 2, _, h => simp [Ed.pays] at h; subst h; simp [badW, fInt, fMore]; omega
      | 3, _, h => rfl
      | 4, _, h => rfl
      | 5, _, h => rfl
      | 6, _, h => rfl
      | 7, _, h => rfl
      | 8, _, h => simp [Ed.pays] at h; subst h; simp [badW, fInt, fMore]; omega
    · rw [List.getElem?_append_right (by omega), h9] at h
      have := edPays_good w (fun d hd => hn d (by simp [hd])) (fun d hd => ho d (by simp [hd])) (i - 9) x h
      unfold badW at this ⊢
      rwa [show (i - 9) % 9 = i % 9 from by omega] at this
/-- A right certificate's bytes: its numbers, all well. -/
theorem rd_put {q : Crt} (hr : q.right = true) (hn : q.nums) : rdNs q.k (some (putVs q.pays)) = (q.pays, some [], false) := by
  obtain ⟨r1, r2, r3, r4, r5, r6, r7, r8, r9, r10, r11⟩ := Crt.nil_of hr
  have hp := Crt.pays_u64 hr hn
  obtain ⟨n1, n2, n3, n4, n5⟩ := hn
  unfold i64 at n2 n3
  obtain ⟨k, o, p, q, w⟩ := q
  simp only at *
  have many : ∀ (n : Nat) (ns : List Nat), n < 18446744073709551616 → n ≤ (putVs ns).length → manyS (some (putVs (n :: ns))) = (n, false) ∧ numS (some (putVs (n :: ns))) = (n, some (putVs ns)) := fun n ns h1 h2 => by
    have e : putVs (n :: ns) = putV n ++ putVs ns := by simp [putVs]
    have hv : numS (some (putVs (n :: ns))) = (n, some (putVs ns)) := by rw [e]; exact numS_some (getV_put n _ h1)
    refine ⟨?_, hv⟩
    unfold manyS
    rw [hv]
    simp only
    rw [if_neg (by omega)]
  unfold rdNs
  by_cases h1 : k = 1
  · subst h1
    simp only [if_true]
    have hp' := hp
    unfold Crt.pays at hp ⊢
    simp only [if_true] at hp ⊢
    have hge := putVs_ge (o.map Int.toNat) (fun n hn => hp n (by simp only [List.mem_cons]; exact .inr hn))
    obtain ⟨m1, m2⟩ := many o.length (o.map Int.toNat) (by omega) (by simpa using hge)
    have ht := takeS_put (o.map Int.toNat) (fun n hn => hp n (by simp only [List.mem_cons]; exact .inr hn)) o.length (by simp)
    rw [List.take_of_length_le (by simp), List.drop_of_length_le (by simp)] at ht
    have hbad : badS badO false (some (putVs (o.map Int.toNat))) o.length = false := (badS_iff _ _ _ _).2 ⟨rfl, fun i x hx => by
      rw [ht] at hx
      have := List.mem_of_getElem? hx
      obtain ⟨n, hm, rfl⟩ := List.mem_map.1 this
      have := n4 n hm
      unfold i64 at this
      simp only [badO, decide_eq_false_iff_not]; omega⟩
    rw [m1, m2]
    simp only [ht, hbad]
    rfl
  · by_cases h4 : k = 4
    · subst h4
      simp only [if_neg h1, if_true]
      unfold Crt.pays at hp ⊢
      simp only [if_neg h1, if_true] at hp ⊢
      have hpl := pays_len w
      have hge := putVs_ge (w.flatMap Ed.pays) (fun n hn => hp n (by simp only [List.mem_cons]; exact .inr hn))
      obtain ⟨m1, m2⟩ := many w.length (w.flatMap Ed.pays) (by omega) (by omega)
      have ht := takeS_put (w.flatMap Ed.pays) (fun n hn => hp n (by simp only [List.mem_cons]; exact .inr hn)) (w.length * 9) (by omega)
      rw [List.take_of_length_le (by omega), List.drop_of_length_le (by omega)] at ht
      have hbad : badS badW false (some (putVs (w.flatMap Ed.pays))) (w.length * 9) = false := (badS_iff _ _ _ _).2 ⟨rfl, fun i x hx => by
        rw [ht] at hx
        exact edPays_good w n5 r9 i x hx⟩
      rw [m1, m2]
      simp only [ht, hbad]
      rfl
    · simp only [if_neg h1, if_neg h4]
      unfold Crt.pays at hp ⊢
      simp only [if_neg h1, if_neg h4] at hp ⊢
      have ht := takeS_put [p.toNat, q.toNat] hp 2 (by simp)
      have hbad : badS badO false (some (putVs [p.toNat, q.toNat])) 2 = false := (badS_iff _ _ _ _).2 ⟨rfl, fun i x hx => by
        rw [ht] at hx
        have := List.mem_of_getElem? hx
        simp at this
        simp only [badO, decide_eq_false_iff_not]
        rcases this with rfl | rfl <;> omega⟩
      rw [ht, hbad]
      rfl
theorem frOf_back {b : List UInt8} (h : (frOf b).rule = 0) : b.take (frOf b).len = frameB (frOf b).kind (frOf b).pay := by
  unfold frOf at h ⊢
  cases b with
  | nil => simp [Frm.no] at h
  | cons k r =>
    simp only at h ⊢
    by_cases h1 : getC r = 10
    · rw [if_pos h1] at h; simp [Frm.no] at h
    · rw [if_neg h1] at h ⊢
      cases hv : getV r with
      | none => rw [hv] at h; simp [Frm.no] at h
      | some x =>
        rw [hv] at h
        simp only at h ⊢
        by_cases h2 : x.2.length < x.1 + 4
        · rw [if_pos h2] at h; simp [Frm.no] at h
        · rw [if_neg h2] at h ⊢
          by_cases h3 : (k :: r).take (frameB k.toNat (x.2.take x.1)).length = frameB k.toNat (x.2.take x.1)
          · rw [if_pos h3]; exact h3
          · rw [if_neg h3] at h; simp [Frm.no] at h
/-- The certificate that bytes are, as the program finds it. -/
theorem crtParse_rd {b : List UInt8} (h0 : (frOf b).rule = 0) (hl : (frOf b).len = b.length) (hk : 17 ≤ (frOf b).kind ∧ (frOf b).kind ≤ 20) :
    crtParse b = if ((rdNs (((frOf b).kind : Int) - 16) (some (frOf b).pay)).2.2 = false ∧ (rdNs (((frOf b).kind : Int) - 16) (some (frOf b).pay)).2.1 = some []) ∧ (rdCrt (((frOf b).kind : Int) - 16) (some (frOf b).pay)).right = true then some (rdCrt (((frOf b).kind : Int) - 16) (some (frOf b).pay)) else none := by
  have hk' : 1 ≤ ((frOf b).kind : Int) - 16 ∧ ((frOf b).kind : Int) - 16 < 5 := by omega
  have hb := frOf_back h0
  rw [hl, List.take_length] at hb
  split
  · rename_i h
    obtain ⟨⟨h1, h2⟩, h3⟩ := h
    obtain ⟨e1, e2, e3, e4⟩ := rd_ok hk' h1 h2
    refine crtParse_some.2 ⟨h3, rdCrt_nums (by unfold i64; omega) _, ?_⟩
    have hkk : (crtOf (((frOf b).kind : Int) - 16) (rdNs (((frOf b).kind : Int) - 16) (some (frOf b).pay)).1).k = ((frOf b).kind : Int) - 16 := by
      unfold crtOf; split <;> (try split) <;> (try split) <;> rfl
    rw [e1]
    unfold Crt.bytes
    rw [e2, hkk, ← e3, show 16 + (((frOf b).kind : Int) - 16).toNat = (frOf b).kind from by omega]
    exact hb.symm
  · rename_i h
    refine crtParse_none fun q h1 h2 h3 => h ?_
    obtain ⟨_, _, _, r4, r5, _⟩ := Crt.nil_of h1
    have g := frOf_crt h1
    rw [h3] at g
    rw [g]
    simp only
    rw [show (((16 + q.k.toNat : Nat) : Int) - 16) = q.k from by omega]
    have hp := rd_put h1 h2
    have ho := rd_ok (l := putVs q.pays) ⟨r4, r5⟩ (by rw [hp]) (by rw [hp])
    rw [hp] at ho ⊢
    rw [ho.1, crtOf_pays h1 h2]
    exact ⟨⟨rfl, rfl⟩, h1⟩
end Go.Proofs.YtagnalfkmdjajaaGreatDoor
namespace Go.Proofs.YtagnalfkmdjajaaGreatDoor
open Go.RowKit Go
set_option linter.unusedVariables false
set_option linter.unusedSimpArgs false
theorem Kx.of_rg {X : Nat → Prop} {rb : Nat} {w w' : World} (h : Rg rb w w') (hX : X rb) : Kx X w w' := ⟨h.os, h.tape, h.output, h.size, fun b hb hn => h.keep b hb (fun e => hn (by rw [e]; exact hX))⟩
/-- The bytes read do not lie in this block. -/
def svOff (sv : Value) (b : Nat) : Prop := ∀ bl off k n c, sv = .slice (some ⟨bl, off, k⟩) n c → bl ≠ b
theorem VrS.kx {X : Nat → Prop} {w w' : World} {rb : Nat} {l : List UInt8} {sv : Value} {s : Option (List UInt8)} (h : VrS w rb l sv s) (hk : Kx X w w') (hr : ¬ X rb) (ho : ∀ b, X b → svOff sv b) : VrS w' rb l sv s := by
  obtain ⟨a, e, ⟨h1, ⟨l1, l2, ad, cap, hv, hc, hx⟩, h3⟩, h4⟩ := h
  refine ⟨a, e, ⟨(hk.keep rb (Array.getElem?_eq_some_iff.1 h1).1 hr).trans h1, ⟨l1, l2, ad, cap, hv, hc, fun hn => ?_⟩, h3⟩, h4⟩
  obtain ⟨bl, off, ha, hS, hj⟩ := hx hn
  have hpos : 0 < (bytes l).length := by rw [l1]; omega
  have hlt := World.block_lt_of_cell? w ⟨bl, off + 0, none⟩ (hj 0 hpos).1
  have hb := hk.keep bl hlt (fun hX => ho bl hX bl off none _ _ (by rw [hv, ha]) rfl)
  exact ⟨bl, off, ha, hS, fun j hjl => ⟨by rw [World.cell?_of_block (w := w) (a := ⟨bl, off + j, none⟩) hb]; exact (hj j hjl).1, fun ho => by rw [World.frozen?_of_block (w := w) (a := ⟨bl, off + j, none⟩) hb]; exact (hj j hjl).2 ho⟩⟩
/-- The reader in memory. -/
structure RD (rd rb : Nat) (l : List UInt8) (sv : Value) (s : Option (List UInt8)) (bad : Bool) (w : World) : Prop where
  row : w.heap[rd]? = some (.cells #[.pointer (some ⟨rb, 0, none⟩), .bool bad] 84 (0, 0))
  vr : VrS w rb l sv s
  ne : rd ≠ rb
  off : svOff sv rd
theorem RD.lt {rd rb : Nat} {l : List UInt8} {sv : Value} {s : Option (List UInt8)} {bad : Bool} {w : World} (h : RD rd rb l sv s bad w) : rd < w.heap.size ∧ rb < w.heap.size := ⟨(Array.getElem?_eq_some_iff.1 h.row).1, h.vr.lt⟩
theorem RD.kx {X : Nat → Prop} {rd rb : Nat} {l : List UInt8} {sv : Value} {s : Option (List UInt8)} {bad : Bool} {w w' : World} (h : RD rd rb l sv s bad w) (hk : Kx X w w') (h1 : ¬ X rd) (h2 : ¬ X rb) (h3 : ∀ b, X b → svOff sv b) : RD rd rb l sv s bad w' :=
  ⟨(hk.keep rd h.lt.1 h1).trans h.row, h.vr.kx hk h2 h3, h.ne, h.off⟩
theorem RD.below {rd rb : Nat} {l : List UInt8} {sv : Value} {s : Option (List UInt8)} {bad : Bool} {w w' : World} (h : RD rd rb l sv s bad w) (hb : Below w.heap.size w w') : RD rd rb l sv s bad w' := h.kx (X := fun _ => False) (Kx.of_below hb) (fun h => h) (fun h => h) (fun _ h => h.elim)
/-- The reader's number put into a cell. -/
structure RdTo (rd rb : Nat) (l : List UInt8) (sv : Value) (s : Option (List UInt8)) (bad : Bool) (nb no : Nat) (v : Value) (w w' : World) : Prop where
  rs : RD rd rb l sv s bad w'
  kx : Kx (fun b => b = rd ∨ b = rb ∨ b = nb) w w'
  at' : w'.heap[nb]? = (w.setCell ⟨nb, no, none⟩ v).heap[nb]?
theorem RdTo.from_below {rd rb : Nat} {l : List UInt8} {sv : Value} {s : Option (List UInt8)} {bad : Bool} {nb no : Nat} {v : Value} {w w1 w' : World} (h : RdTo rd rb l sv s bad nb no v w1 w') (hb : Below w.heap.size w w1) (hn : nb < w.heap.size) : RdTo rd rb l sv s bad nb no v w w' :=
  ⟨h.rs, (Kx.of_below hb).trans h.kx, h.at'.trans (heap_setCell_congr v (hb.block nb hn))⟩
theorem rdWhole_any {rd rb : Nat} {l : List UInt8} {sv : Value} {s : Option (List UInt8)} {bad : Bool} {w : World} (nb no m : Nat) (x0 : Value) (h : RD rd rb l sv s bad w) (hnb : nb ≠ rb) (hnd : nb ≠ rd) (ho : svOff sv nb) (hm : m ≤ 1)
    (hn : w.cell? ⟨nb, no, none⟩ = some x0) (hf : w.frozen? ⟨nb, no, none⟩ = false) (hx : x0.oneCell' = true) :
    Calls Tryz.prog 175 #[.pointer (some ⟨rd, 0, none⟩), .pointer (some ⟨nb, no, none⟩), .int .i64 (m : Nat)] w fun e w' => e = .returned (.tuple #[]) ∧ RdTo rd rb l sv (numS s).2 (bad || decide (9223372036854775807 + m < (numS s).1)) nb no (.int .i64 (numI m (numS s).1)) w w' := by
  refine (crWhole_any rd rb nb no m l sv s bad x0 w h.row h.vr h.ne hnb hnd hm hn hf hx).mono ?_
  rintro e w' ⟨rfl, w2, hg, hv, rfl⟩
  have hr2 := (hg.keep rd h.lt.1 h.ne).trans h.row
  have hnl := World.block_lt_of_cell? w _ hn
  have k1 : Kx (fun b => b = rd ∨ b = nb) w2 ((w2.setCell ⟨rd, 1, none⟩ (.bool (bad || decide (9223372036854775807 + m < (numS s).1)))).setCell ⟨nb, no, none⟩ (.int .i64 (numI m (numS s).1))) := ((Kx.refl _ _).setCell (.inl rfl) _).setCell (.inr rfl) _
  refine ⟨rfl, ⟨?_, hv.kx k1 (fun hX => hX.elim (fun e => h.ne e.symm) (fun e => hnb e.symm)) (fun b hX => hX.elim (fun e => e ▸ h.off) (fun e => e ▸ ho)), h.ne, h.off⟩, (Kx.of_rg hg (.inr (.inl rfl))).trans (k1.wider fun b _ hX => hX.elim .inl fun e => .inr (.inr e)), ?_⟩
  · rw [Below.heap_setCell _ _ _ _ (fun e => hnd e.symm)]
    exact heap_set_at hr2 rfl
  · refine heap_setCell_congr _ ?_
    rw [Below.heap_setCell _ _ _ _ hnd]
    exact hg.keep nb hnl hnb
theorem rdLong_any {rd rb : Nat} {l : List UInt8} {sv : Value} {s : Option (List UInt8)} {bad : Bool} {w : World} (nb no : Nat) (x0 : Value) (h : RD rd rb l sv s bad w) (hnb : nb ≠ rb) (hnd : nb ≠ rd) (ho : svOff sv nb)
    (hn : w.cell? ⟨nb, no, none⟩ = some x0) (hf : w.frozen? ⟨nb, no, none⟩ = false) (hx : x0.oneCell' = true) :
    Calls Tryz.prog 173 #[.pointer (some ⟨rd, 0, none⟩), .pointer (some ⟨nb, no, none⟩)] w fun e w' => e = .returned (.tuple #[]) ∧ RdTo rd rb l sv (numS s).2 bad nb no (.int .u64 ((numS s).1 : Nat)) w w' := by
  refine (crLong_any rd rb nb no l sv s bad x0 w h.row h.vr hnb hn hf hx).mono ?_
  rintro e w' ⟨rfl, w2, hg, hv, rfl⟩
  have hr2 := (hg.keep rd h.lt.1 h.ne).trans h.row
  have hnl := World.block_lt_of_cell? w _ hn
  have k1 : Kx (fun b => b = nb) w2 (w2.setCell ⟨nb, no, none⟩ (.int .u64 ((numS s).1 : Nat))) := Kx.one _ _ _ _
  refine ⟨rfl, ⟨?_, hv.kx k1 (fun e => hnb e.symm) (fun b e => e ▸ ho), h.ne, h.off⟩, (Kx.of_rg hg (.inr (.inl rfl))).trans (k1.wider fun b _ e => .inr (.inr e)), heap_setCell_congr _ (hg.keep nb hnl hnb)⟩
  rw [Below.heap_setCell _ _ _ _ (fun e => hnd e.symm)]
  exact hr2
theorem rdMany_any {rd rb : Nat} {l : List UInt8} {sv : Value} {s : Option (List UInt8)} {w : World} (z : Int) (h : RD rd rb l sv s false w) :
    Calls Tryz.prog 174 #[.pointer (some ⟨rd, 0, none⟩), .int .i64 z] w fun e w' => e = .returned (.int .i64 ((manyS s).1 : Nat)) ∧ RD rd rb l sv (numS s).2 (manyS s).2 w' ∧ Kx (fun b => b = rd ∨ b = rb) w w' := by
  refine (crMany_any rd rb z l sv s false w h.row h.vr h.ne).mono ?_
  rintro e w' ⟨rfl, w2, hg, hv, rfl⟩
  have hr2 := (hg.keep rd h.lt.1 h.ne).trans h.row
  refine ⟨rfl, ?_⟩
  unfold manyW
  cases hb : (manyS s).2 with
  | false => exact ⟨⟨hr2, hv, h.ne, h.off⟩, Kx.of_rg hg (.inr rfl)⟩
  | true =>
    have k1 : Kx (fun b => b = rd) w2 (w2.setCell ⟨rd, 1, none⟩ (.bool true)) := Kx.one _ _ _ _
    exact ⟨⟨heap_set_at hr2 rfl, hv.kx k1 (fun e => h.ne e.symm) (fun b e => e ▸ h.off), h.ne, h.off⟩, (Kx.of_rg hg (.inr rfl)).trans (k1.wider fun b _ e => .inl e)⟩
theorem vrRead_off (S : Nat → Prop) (own : Bool) (l : List UInt8) (v : Value) (w : World) (hr : RepB w S own l v) (hl : l.length ≤ 1000000) :
    Calls Tryz.prog 36 #[v] w fun e w' => ∃ rb sv, e = .returned (.pointer (some ⟨rb, 0, none⟩)) ∧ VrS w' rb l sv (some l) ∧ w.heap.size ≤ rb ∧ (∀ b, b < w.heap.size ∨ w'.heap.size ≤ b → svOff sv b) ∧ Below w.heap.size w w' := by
  have HC := Lib.hid (cloneBytes_any S own l v w hr (by omega))
  clear hr
  go_enter Tryz.func36, Tryz.ntmps36
  go_wp2_with fail
  refine HC.out.mono ?_
  rintro e w1 ⟨v1, rfl, hown1, hb1⟩
  have HO := Lib.hid (And.intro hown1 hb1)
  obtain ⟨sa, sc, rfl⟩ := owns_slice hown1
  clear hown1 hb1
  go_wp2_with fail
  go_ret
  have hs := HO.out.2.size
  have hlt := HO.out.1.lt
  refine ⟨w1.heap.size, _, rfl, ⟨0, 0, ⟨heap_alloc_at _ _ _ rfl, ?_, by omega, hl⟩, by simp⟩, hs, fun b hb => ?_, HO.out.2.alloc hs _⟩
  · exact Sl.keep ((Sl.of_owns HO.out.1 (by omega)).unown) (by omega) (fun b hb hbl => heap_alloc_lt _ _ _ hbl) (fun b hb h => hb)
  · rintro bl off k n c e
    injection e with e
    have h1 := hlt bl (by rw [e]; rfl)
    have h2 : (w1.alloc (.cells #[.int .i64 0, .int .i64 0, .slice sa l.length sc] 150)).heap.size = w1.heap.size + 1 := World.size_alloc _ _
    omega
end Go.Proofs.YtagnalfkmdjajaaGreatDoor
namespace Go.Proofs.YtagnalfkmdjajaaGreatDoor
open Go.RowKit Go
set_option linter.unusedVariables false
set_option linter.unusedSimpArgs false
theorem nil_manyR (rd : Nat) (W : World) : (nilAhead (Tryz.prog.types.size + Made.depth) 80 (.pointer (some ⟨rd, 0, none⟩)) "alibi/cert.many").run Tryz.prog W = .ok (some false) W := by kernel_rfl
theorem nil_wholeR (rd : Nat) (W : World) : (nilAhead (Tryz.prog.types.size + Made.depth) 80 (.pointer (some ⟨rd, 0, none⟩)) "alibi/cert.whole").run Tryz.prog W = .ok (some false) W := by kernel_rfl
theorem manyS_le {w : World} {rb : Nat} {l : List UInt8} {sv : Value} {s : Option (List UInt8)} (h : VrS w rb l sv (numS s).2) : (manyS s).1 ≤ 1000000 := by
  have hl := h.len
  unfold manyS
  split
  · rename_i r hr
    rw [hr] at h
    have := h.left
    split
    · exact Nat.zero_le _
    · show (numS s).1 ≤ _; omega
  · exact Nat.zero_le _
/-- What does not change. -/
structure SF (w : World) (cb rd rb : Nat) (sv : Value) : Prop where
  cbrd : cb ≠ rd
  cbrb : cb ≠ rb
  lcb : cb < w.heap.size
  lrd : rd < w.heap.size
  lrb : rb < w.heap.size
  offc : svOff sv cb
  off : ∀ b, w.heap.size ≤ b → svOff sv b
def X3 (cb rd rb b : Nat) : Prop := b = cb ∨ b = rd ∨ b = rb
/-- So many numbers have been put into the row. -/
structure PO (w : World) (cb rd rb : Nat) (l : List UInt8) (sv : Value) (row : Array Value) (T : TypeId) (sz : Nat) (F : Nat → Nat → Value) (z : Nat → Value) (B : Nat → Nat → Bool) (v : Value) (n : Nat) (s1 : Option (List UInt8)) (mb : Bool) (m : Nat) (wr : World) : Prop where
  rs : RD rd rb l sv (takeS s1 m).2 (badS B mb s1 m) wr
  kx : Kx (X3 cb rd rb) w wr
  row : wr.heap[cb]? = some (.cells row 25 (0, 0))
  own : wr.ownsRow w.heap.size T sz v n (rowL (n * sz) (rowN F z (takeS s1 m).1))
section
variable {w : World} {cb rd rb : Nat} {l : List UInt8} {sv : Value} {row : Array Value} {T : TypeId} {sz : Nat} {F : Nat → Nat → Value} {z : Nat → Value} {B : Nat → Nat → Bool} {v : Value} {n : Nat} {s1 : Option (List UInt8)} {mb : Bool} {m : Nat} {wr w' : World}
theorem PO.below (h : PO w cb rd rb l sv row T sz F z B v n s1 mb m wr) (hb : Below wr.heap.size wr w') : PO w cb rd rb l sv row T sz F z B v n s1 mb m w' :=
  ⟨h.rs.below hb, h.kx.trans (Kx.of_below hb), (hb.block cb (Array.getElem?_eq_some_iff.1 h.row).1).trans h.row, ownsRow_below h.own hb (Nat.le_refl _)⟩
theorem PO.at (hs : SF w cb rd rb sv) (h : PO w cb rd rb l sv row T sz F z B v n s1 mb m wr) {g cap : Nat} (hv : v = .slice (some ⟨g, 0, none⟩) n cap) (hm : m < n * sz) : wr.cell? ⟨g, m, none⟩ = some (z m) ∧ wr.frozen? ⟨g, m, none⟩ = false ∧ g ≠ rb ∧ g ≠ rd ∧ svOff sv g ∧ g < wr.heap.size ∧ w.heap.size ≤ g := by
  have h1 := h.own
  rw [hv] at h1
  obtain ⟨q1, q2, q3, q4⟩ := owns_cell h1 m hm
  have l1 := hs.lrd
  have l2 := hs.lrb
  refine ⟨?_, q2, by omega, by omega, hs.off g q4, q3, q4⟩
  rw [q1, rowL_at _ _ _ hm]
  unfold rowN
  rw [List.getElem?_eq_none (by rw [takeS_len]; omega)]
theorem PO.step (hs : SF w cb rd rb sv) (h : PO w cb rd rb l sv row T sz F z B v n s1 mb m wr) {g cap : Nat} (hv : v = .slice (some ⟨g, 0, none⟩) n cap) (hm : m < n * sz) {bad : Bool} {val : Value} (ht : RdTo rd rb l sv (numS (takeS s1 m).2).2 bad g m val wr w')
    (hb : bad = (badS B mb s1 m || B m (numS (takeS s1 m).2).1)) (hval : val = F m (numS (takeS s1 m).2).1) : PO w cb rd rb l sv row T sz F z B v n s1 mb (m + 1) w' := by
  obtain ⟨_, _, g1, g2, _, g3, g4⟩ := h.at hs hv hm
  have lc := hs.lcb
  refine ⟨?_, h.kx.trans' ht.kx (fun i hi hl => ?_), ?_, ?_⟩
  · have := ht.rs
    rw [hb] at this
    exact this
  · rcases hi with rfl | rfl | rfl
    · exact .inr (.inl rfl)
    · exact .inr (.inr rfl)
    · omega
  · refine (ht.kx.keep cb (Array.getElem?_eq_some_iff.1 h.row).1 (fun hx => ?_)).trans h.row
    rcases hx with e | e | e
    · exact hs.cbrd e
    · exact hs.cbrb e
    · omega
  · subst hv
    have h1 := owns_put m val h.own ht.at'
    have h2 := rowN_set (n * sz) F z (takeS s1 m).1 (numS (takeS s1 m).2).1
    rw [takeS_len] at h2
    rw [hval, h2] at h1
    exact h1
theorem poWhole_any (hs : SF w cb rd rb sv) (h : PO w cb rd rb l sv row T sz F z B v n s1 mb m wr) {g cap : Nat} (hv : v = .slice (some ⟨g, 0, none⟩) n cap) (hm : m < n * sz) (more : Nat) (hmo : more ≤ 1) (hz : (z m).oneCell' = true) (hF : ∀ x, F m x = .int .i64 (numI more x)) (hB : ∀ x, B m x = decide (9223372036854775807 + more < x)) :
    Calls Tryz.prog 175 #[.pointer (some ⟨rd, 0, none⟩), .pointer (some ⟨g, m, none⟩), .int .i64 (more : Nat)] wr fun e w' => e = .returned (.tuple #[]) ∧ PO w cb rd rb l sv row T sz F z B v n s1 mb (m + 1) w' ∧ Kx (fun b => b = rd ∨ b = rb ∨ b = g) wr w' := by
  obtain ⟨q1, q2, g1, g2, g3, _, _⟩ := h.at hs hv hm
  refine (rdWhole_any g m more (z m) h.rs g1 g2 g3 hmo q1 q2 hz).mono ?_
  rintro e w' ⟨rfl, ht⟩
  exact ⟨rfl, h.step hs hv hm ht (by rw [hB]) (by rw [hF]), ht.kx⟩
theorem poLong_any (hs : SF w cb rd rb sv) (h : PO w cb rd rb l sv row T sz F z B v n s1 mb m wr) {g cap : Nat} (hv : v = .slice (some ⟨g, 0, none⟩) n cap) (hm : m < n * sz) (hz : (z m).oneCell' = true) (hF : ∀ x : Nat, F m x = .int .u64 (x : Nat)) (hB : ∀ x, B m x = false) :
    Calls Tryz.prog 173 #[.pointer (some ⟨rd, 0, none⟩), .pointer (some ⟨g, m, none⟩)] wr fun e w' => e = .returned (.tuple #[]) ∧ PO w cb rd rb l sv row T sz F z B v n s1 mb (m + 1) w' ∧ Kx (fun b => b = rd ∨ b = rb ∨ b = g) wr w' := by
  obtain ⟨q1, q2, g1, g2, g3, _, _⟩ := h.at hs hv hm
  refine (rdLong_any g m (z m) h.rs g1 g2 g3 q1 q2 hz).mono ?_
  rintro e w' ⟨rfl, ht⟩
  exact ⟨rfl, h.step hs hv hm ht (by rw [hB, Bool.or_false]) (by rw [hF]), ht.kx⟩
end
/-- A new row, or none. -/
def pRow (T : TypeId) (sz n : Nat) (xs : List Value) (S : Nat → Prop) (v : Value) (w : World) : Prop := (n = 0 ∧ v = .slice none 0 0 ∧ xs = []) ∨ pMade T sz n xs S v w
theorem steadyRow (T : TypeId) (sz n : Nat) (xs : List Value) : Steady (pRow T sz n xs) := fun S S' v w w' hk hs hS h => h.imp id (steadyMade T sz n xs S S' v w w' hk hs hS)
theorem pRow.owns {T : TypeId} {sz n : Nat} {xs : List Value} {S : Nat → Prop} {v : Value} {w : World} {base : Nat} (h : pRow T sz n xs S v w) (hS : ∀ b, S b → base ≤ b) : ∃ ad cap, v = .slice ad n cap ∧ n ≤ cap ∧ (∀ g, v.ownBlock = some g → S g) ∧ w.ownsRow base T sz v n xs ∧ (0 < n → ∃ g, ad = some ⟨g, 0, none⟩) := by
  rcases h with ⟨rfl, rfl, rfl⟩ | h
  · exact ⟨none, 0, rfl, Nat.le_refl _, fun g e => by simp [Value.ownBlock] at e, World.ownsRow_nil _ _ _ _, fun h => absurd h (by omega)⟩
  · obtain ⟨g, cap, e, hg, ho⟩ := h.owns hS
    obtain ⟨_, _, _, e', _, _, hc, _⟩ := h
    rw [e] at e'
    injection e' with _ _ e'
    subst e
    exact ⟨_, cap, rfl, by omega, fun g' e => by simp [Value.ownBlock] at e; rw [← e]; exact hg, ho, fun _ => ⟨g, rfl⟩⟩
theorem zeroInts (n : Nat) : (Builtin.zeroCells (Value.int .i64 0).cells n).toList = rowL (n * 1) (rowN FO zO []) := by
  refine (zeroCells_row _ n).trans (rowL_congr _ _ _ fun p _ => ?_)
  show (#[Value.int .i64 0] : Array Value)[p % 1]! = Value.int .i64 0
  rw [Nat.mod_one]
  rfl
theorem zeroEds (n : Nat) : (Builtin.zeroCells (Value.agg #[.int .i64 0, .int .i64 0, .int .i64 0, .int .u64 0, .int .u64 0, .int .u64 0, .int .u64 0, .int .u64 0, .int .i64 0]).cells n).toList = rowL (n * 9) (rowN FW zW []) := by
  refine (zeroCells_row _ n).trans (rowL_congr _ _ _ fun p _ => ?_)
  show (#[Value.int .i64 0, .int .i64 0, .int .i64 0, .int .u64 0, .int .u64 0, .int .u64 0, .int .u64 0, .int .u64 0, .int .i64 0] : Array Value)[p % 9]! = fZero (p % 9)
  have : p % 9 < 9 := Nat.mod_lt _ (by omega)
  generalize p % 9 = f at this
  match f, this with
  | 0, _ => rfl
  | 1, _ => rfl
  | 2, _ => rfl
  | 3, _ => rfl
  | 4, _ => rfl
  | 5, _ => rfl
  | 6, _ => rfl
  | 7, _ => rfl
  | 8, _ => rfl
theorem zW_one (p : Nat) : (zW p).oneCell' = true := by unfold zW fZero; split <;> rfl
theorem FW_int (j f : Nat) (h : fInt f = true) (hf : f < 9) (x : Nat) : FW (j * 9 + f) x = .int .i64 (numI (fMore f) x) := by
  unfold FW fVal
  rw [show (j * 9 + f) % 9 = f from by omega, if_pos h]
theorem FW_long (j f : Nat) (h : fInt f = false) (hf : f < 9) (x : Nat) : FW (j * 9 + f) x = .int .u64 (x : Nat) := by
  unfold FW fVal
  rw [show (j * 9 + f) % 9 = f from by omega, if_neg (by rw [h]; decide)]
theorem badW_int (j f : Nat) (h : fInt f = true) (hf : f < 9) (x : Nat) : badW (j * 9 + f) x = decide (9223372036854775807 + fMore f < x) := by
  unfold badW
  rw [show (j * 9 + f) % 9 = f from by omega, h, Bool.true_and]
theorem badW_long (j f : Nat) (h : fInt f = false) (hf : f < 9) (x : Nat) : badW (j * 9 + f) x = false := by
  unfold badW
  rw [show (j * 9 + f) % 9 = f from by omega, h, Bool.false_and]
theorem PO.start {w : World} {cb rd rb : Nat} {l : List UInt8} {sv : Value} {T : TypeId} {sz : Nat} {F : Nat → Nat → Value} {z : Nat → Value} {B : Nat → Nat → Bool} {s1 : Option (List UInt8)} {mb : Bool} {wx : World} (hs : SF w cb rd rb sv) (h1 : RD rd rb l sv s1 mb wx) (h2 : Kx (X3 cb rd rb) w wx) {row0 : Array Value} (h3 : wx.heap[cb]? = some (.cells row0 25 (0, 0))) (o : Nat) (v : Value) (n : Nat)
    (h4 : wx.ownsRow w.heap.size T sz v n (rowL (n * sz) (rowN F z []))) : PO w cb rd rb l sv (row0.setIfInBounds o v) T sz F z B v n s1 mb 0 (wx.setCell ⟨cb, o, none⟩ v) := by
  have k1 : Kx (fun b => b = cb) wx (wx.setCell ⟨cb, o, none⟩ v) := Kx.one _ _ _ _
  refine ⟨h1.kx k1 (fun e => hs.cbrd e.symm) (fun e => hs.cbrb e.symm) (fun b e => e ▸ hs.offc), h2.trans (k1.wider fun b _ e => .inl e), heap_set_at h3 rfl, owns_block h4 fun g hg => ?_⟩
  have := (h4.lt g hg).1
  have := hs.lcb
  exact Below.heap_setCell _ _ _ _ (by simp; omega)
theorem PO.endI {w : World} {cb rd rb : Nat} {l : List UInt8} {sv : Value} {row : Array Value} {T : TypeId} {B : Nat → Nat → Bool} {v : Value} {n : Nat} {s1 : Option (List UInt8)} {mb : Bool} {wr : World} (h : PO w cb rd rb l sv row T 1 FO zO B v n s1 mb n wr) : RepI wr (fun b => w.heap.size ≤ b) true ((takeS s1 n).1.map (numI 0)) v := by
  have h1 := h.own
  have hl := takeS_len s1 n
  have h2 := rowO_end (takeS s1 n).1
  rw [hl] at h2
  rw [Nat.mul_one, h2] at h1
  exact RepI.of_owns (T := T) (by rw [List.length_map, hl]; exact h1)
theorem PO.endW {w : World} {cb rd rb : Nat} {l : List UInt8} {sv : Value} {row : Array Value} {T : TypeId} {B : Nat → Nat → Bool} {v : Value} {n : Nat} {s1 : Option (List UInt8)} {mb : Bool} {wr : World} (h : PO w cb rd rb l sv row T 9 FW zW B v n s1 mb (n * 9) wr) : RepW wr (fun b => w.heap.size ≤ b) true (edsN (takeS s1 (n * 9)).1) v := by
  have h1 := h.own
  have hl := takeS_len s1 (n * 9)
  have h2 := rowW_end (takeS s1 (n * 9)).1 n hl
  rw [h2] at h1
  exact RepW.of_owns (T := T) (by rw [edsN_length, hl, Nat.mul_div_cancel _ (by omega)]; exact h1)
theorem rdNs_1 (s : Option (List UInt8)) : rdNs 1 s = ((manyS s).1 :: (takeS (numS s).2 (manyS s).1).1, (takeS (numS s).2 (manyS s).1).2, badS badO (manyS s).2 (numS s).2 (manyS s).1) := rfl
theorem rdNs_4 (s : Option (List UInt8)) : rdNs 4 s = ((manyS s).1 :: (takeS (numS s).2 ((manyS s).1 * 9)).1, (takeS (numS s).2 ((manyS s).1 * 9)).2, badS badW (manyS s).2 (numS s).2 ((manyS s).1 * 9)) := rfl
theorem rdNs_o {k : Int} (h1 : ¬ k = 1) (h4 : ¬ k = 4) (s : Option (List UInt8)) : rdNs k s = ((takeS s 2).1, (takeS s 2).2, badS badO false s 2) := by unfold rdNs; rw [if_neg h1, if_neg h4]
theorem rdCrt_1 (s : Option (List UInt8)) : rdCrt 1 s = ⟨1, (takeS (numS s).2 (manyS s).1).1.map (numI 0), 0, 0, []⟩ := rfl
theorem rdCrt_4 (s : Option (List UInt8)) : rdCrt 4 s = ⟨4, [], 0, 0, edsN (takeS (numS s).2 ((manyS s).1 * 9)).1⟩ := rfl
theorem rdCrt_o {k : Int} (h1 : ¬ k = 1) (h4 : ¬ k = 4) (s : Option (List UInt8)) : rdCrt k s = ⟨k, [], numI 0 (numS s).1, numI 0 (numS (numS s).2).1, []⟩ := by unfold rdCrt; rw [if_neg h1, if_neg h4]
/-- What the reading of the parts leaves. -/
def RdEnd (cb rd rb : Nat) (l : List UInt8) (sv : Value) (k : Int) (s : Option (List UInt8)) (w : World) (e : Ending) (w' : World) : Prop :=
  e = .returned (.tuple #[]) ∧ ∃ cs, w'.heap[cb]? = some (.cells cs 25 (0, 0)) ∧ RepC w' (fun b => w.heap.size ≤ b) true (rdCrt k s) (.agg cs) ∧ RD rd rb l sv (rdNs k s).2.1 (rdNs k s).2.2 w' ∧ Kx (X3 cb rd rb) w w'
end Go.Proofs.YtagnalfkmdjajaaGreatDoor
