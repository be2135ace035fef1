/- All numbers of bytes, told from any place on: plain Lean. Ahead of it: The numbers of a payload, and the certificate that these might be: plain Lean. Bytes parsed by way of the candidate: plain Lean. The reference's candidate, edge by edge; its numbers, one by one: plain Lean. -/
import Derived.Test.YtkpfbalkhlidgaaGreatDoorU26
import Derived.Test.YtkpfbalkhlidgaaGreatDoorU27
import Derived.Test.YtkpfbalkhlidgaaGreatDoorU21
namespace Go.Proofs.YtkpfbalkhlidgaaGreatDoor
open Go.RowKit Go
set_option linter.unusedVariables false
set_option linter.unusedSimpArgs false
/-- All numbers of bytes, if they are such. -/
def numsF : Nat → List UInt8 → Option (List Nat)
  | _, [] => some []
  | 0, _ :: _ => none
  | f + 1, c :: l => match getV (c :: l) with
    | none => none
    | some x => (numsF f x.2).map (x.1 :: ·)
theorem numsF_put : ∀ (ns : List Nat) (f : Nat), (∀ n ∈ ns, n < 18446744073709551616) → ns.length ≤ f → numsF f (putVs ns) = some ns
  | [], f, _, _ => by cases f <;> rfl
  | n :: ns, 0, _, h => by simp at h
  | n :: ns, f + 1, h1, h => by
    have e : putVs (n :: ns) = putV n ++ putVs ns := by simp [putVs]
    have hv := getV_put n (putVs ns) (h1 n (by simp))
    have ih := numsF_put ns f (fun x hx => h1 x (by simp [hx])) (by simpa using h)
    rw [e]
    cases hp : putV n ++ putVs ns with
    | nil => exact absurd (List.append_eq_nil_iff.1 hp).1 (putV_ne n (h1 n (by simp)))
    | cons c l =>
      rw [hp] at hv
      simp only [numsF, hv, ih, Option.map_some]
def edOf : List Nat → Ed
  | [a, b, k, x, sw, sn, mw, mn, p] => ⟨wholeN a, wholeN b, wholeN k, x, sw, sn, mw, mn, if p = 0 then -1 else wholeN (p - 1)⟩
  | _ => ⟨0, 0, 0, 0, 0, 0, 0, 0, 0⟩
theorem wholeN_back {n : Int} (h0 : 0 ≤ n) (h1 : n ≤ 9223372036854775807) : wholeN n.toNat = n := by unfold wholeN; rw [if_neg (by omega)]; omega
theorem edOf_pays {e : Ed} (hn : e.nums) (ho : e.ok) : edOf e.pays = e := by
  obtain ⟨b0, b1, b2, b3, b4, b5, b6, b7, b8⟩ := hn
  obtain ⟨o1, o2, o3, o4, o5⟩ := ho
  unfold i64 at b0 b1 b2 b8
  unfold Ed.pays edOf
  simp only
  rw [wholeN_back o3 b0.2, wholeN_back o4 b1.2, wholeN_back (by omega) b2.2]
  have hp : (if (e.p + 1).toNat = 0 then (-1 : Int) else wholeN ((e.p + 1).toNat - 1)) = e.p := by
    by_cases h : e.p = -1
    · rw [h]; rfl
    · rw [if_neg (by omega), show (e.p + 1).toNat - 1 = e.p.toNat from by omega, wholeN_back (by omega) b8.2]
  rw [hp]
/-- The edges of numbers, nine by nine. -/
def edsOf (ns : List Nat) : List Ed := (List.range (ns.length / 9)).map fun i => edOf ((ns.drop (i * 9)).take 9)
theorem edsOf_pays {w : List Ed} (hn : ∀ e ∈ w, e.nums) (ho : ∀ e ∈ w, e.ok) : edsOf (w.flatMap Ed.pays) = w := by
  have hl : ∀ w : List Ed, (w.flatMap Ed.pays).length = w.length * 9 := fun w => by
    induction w with
    | nil => rfl
    | cons e w ih => rw [List.flatMap_cons, List.length_append, ih]; simp [Ed.pays]; omega
  have hd : ∀ (w : List Ed) (i : Nat) (h : i < w.length), ((w.flatMap Ed.pays).drop (i * 9)).take 9 = w[i].pays := by
    intro w
    induction w with
    | nil => intro i h; simp at h
    | cons e w ih =>
      intro i h
      rw [List.flatMap_cons]
      cases i with
      | zero => simp [Ed.pays]
      | succ i =>
        have h9 : e.pays.length = 9 := rfl
        rw [show (i + 1) * 9 = e.pays.length + i * 9 from by omega, ← List.drop_drop, List.drop_left]
        simpa using ih i (by simpa using h)
  unfold edsOf
  rw [hl, Nat.mul_div_cancel _ (by decide)]
  apply List.ext_getElem
  · simp
  · intro i h1 h2
    simp only [List.getElem_map, List.getElem_range]
    rw [hd w i h2, edOf_pays (hn _ (List.getElem_mem h2)) (ho _ (List.getElem_mem h2))]
/-- The certificate that a kind's numbers might be. -/
def crtOf (k : Int) (ns : List Nat) : Crt :=
  if k = 1 then ⟨k, (ns.drop 1).map wholeN, 0, 0, []⟩ else if k = 4 then ⟨k, [], 0, 0, edsOf (ns.drop 1)⟩ else match ns with
    | [p, q] => ⟨k, [], wholeN p, wholeN q, []⟩
    | _ => ⟨k, [], 0, 0, []⟩
theorem crtOf_pays {c : Crt} (hr : c.right = true) (hn : c.nums) : crtOf c.k c.pays = c := by
  obtain ⟨r1, r2, r3, r4, r5, r6, r7, r8, r9, r10, r11⟩ := Crt.nil_of hr
  obtain ⟨n1, n2, n3, n4, n5⟩ := hn
  obtain ⟨k, o, p, q, w⟩ := c
  unfold i64 at n2 n3
  simp only at r1 r2 r3 r4 r5 r6 r7 r8 r9 n1 n2 n3 n4 n5
  unfold crtOf Crt.pays
  by_cases h1 : k = 1
  · subst h1
    have e2 : w = [] := r2.resolve_left (by omega)
    have e4 := r3.resolve_left (by omega)
    have e5 : (o.map Int.toNat).map wholeN = o := by
      rw [List.map_map]
      conv => rhs; rw [← List.map_id o]
      apply List.map_congr_left
      intro n hm
      have := n4 n hm
      unfold i64 at this
      exact wholeN_back (r8 n hm) this.2
    simp only [if_true, List.drop_succ_cons, List.drop_zero, e5, e2, e4.1, e4.2]
  · by_cases h4 : k = 4
    · subst h4
      have e2 : o = [] := r1.resolve_left (by omega)
      have e4 := r3.resolve_left (by omega)
      rw [if_neg h1, if_pos rfl, if_neg h1, if_pos rfl, List.drop_succ_cons, List.drop_zero, edsOf_pays n5 r9, e2, e4.1, e4.2]
    · have e2 : o = [] := r1.resolve_left h1
      have e3 : w = [] := r2.resolve_left h4
      rw [if_neg h1, if_neg h4, if_neg h1, if_neg h4]
      simp only
      rw [wholeN_back r6 n2.2, wholeN_back r7 n3.2, e2, e3]
end Go.Proofs.YtkpfbalkhlidgaaGreatDoor
namespace Go.Proofs.YtkpfbalkhlidgaaGreatDoor
open Go.RowKit Go
set_option linter.unusedVariables false
set_option linter.unusedSimpArgs false
theorem putVs_ge : ∀ (ns : List Nat), (∀ n ∈ ns, n < 18446744073709551616) → ns.length ≤ (putVs ns).length
  | [], _ => by simp
  | n :: ns, h => by
    have e : putVs (n :: ns) = putV n ++ putVs ns := by simp [putVs]
    have ih := putVs_ge ns (fun x hx => h x (by simp [hx]))
    have hp := List.length_pos_iff.2 (putV_ne n (h n (by simp)))
    rw [e, List.length_append, List.length_cons]
    omega
theorem numsF_lt : ∀ (f : Nat) (l : List UInt8) (ns : List Nat), numsF f l = some ns → ∀ n ∈ ns, n < 18446744073709551616
  | _, [], ns, h => by
    have : ns = [] := by cases ‹Nat› <;> (simp [numsF] at h; exact h)
    subst this
    intro n hn; cases hn
  | 0, _ :: _, ns, h => by simp [numsF] at h
  | f + 1, c :: l, ns, h => by
    simp only [numsF] at h
    split at h
    · cases h
    · rename_i x hx
      cases hm : numsF f x.2 with
      | none => rw [hm] at h; cases h
      | some ms =>
        rw [hm] at h
        simp only [Option.map_some, Option.some.injEq] at h
        subst h
        intro n hn
        rcases List.mem_cons.1 hn with rfl | hn
        · exact getV_lt hx
        · exact numsF_lt f x.2 ms hm n hn
theorem edOf_nums {l : List Nat} (h : ∀ n ∈ l, n < 18446744073709551616) : (edOf l).nums := by
  unfold edOf
  split
  · rename_i a b k x sw sn mw mn p
    simp only [List.mem_cons, List.not_mem_nil, or_false, forall_eq_or_imp, forall_eq] at h
    obtain ⟨h0, h1, h2, h3, h4, h5, h6, h7, h8⟩ := h
    refine ⟨wholeN_i64 _, wholeN_i64 _, wholeN_i64 _, h3, h4, h5, h6, h7, ?_⟩
    show i64 (if p = 0 then -1 else wholeN (p - 1))
    split
    · unfold i64; omega
    · exact wholeN_i64 _
  · have z : i64 0 := by unfold i64; omega
    exact ⟨z, z, z, by decide, by decide, by decide, by decide, by decide, z⟩
theorem crtOf_nums {k : Int} {ns : List Nat} (hk : i64 k) (h : ∀ n ∈ ns, n < 18446744073709551616) : (crtOf k ns).nums := by
  have z : i64 0 := by unfold i64; omega
  unfold crtOf
  split
  · refine ⟨hk, z, z, fun n hn => ?_, fun e he => absurd he (by simp)⟩
    obtain ⟨x, _, rfl⟩ := List.mem_map.1 hn
    exact wholeN_i64 x
  · split
    · refine ⟨hk, z, z, fun n hn => absurd hn (by simp), fun e he => ?_⟩
      obtain ⟨i, _, rfl⟩ := List.mem_map.1 he
      exact edOf_nums fun n hn => h n (List.mem_of_mem_drop (List.mem_of_mem_drop (List.mem_of_mem_take hn)))
    · split
      · exact ⟨hk, wholeN_i64 _, wholeN_i64 _, fun n hn => absurd hn (by simp), fun e he => absurd he (by simp)⟩
      · exact ⟨hk, z, z, fun n hn => absurd hn (by simp), fun e he => absurd he (by simp)⟩
/-- Bytes that are no frame of a certificate's kind, or hold more: none's. -/
theorem crtParse_frame {b : List UInt8} (h : ¬ ((frOf b).rule = 0 ∧ (frOf b).len = b.length ∧ 17 ≤ (frOf b).kind ∧ (frOf b).kind ≤ 20)) : crtParse b = none := by
  refine crtParse_none fun q h1 h2 h3 => h ?_
  obtain ⟨_, _, _, r4, r5, _⟩ := Crt.nil_of h1
  have g := frOf_crt h1
  rw [h3] at g
  rw [g]
  exact ⟨rfl, rfl, by show 17 ≤ 16 + q.k.toNat; omega, by show 16 + q.k.toNat ≤ 20; omega⟩
/-- A payload that is no row of numbers: none's. -/
theorem crtParse_nums {b : List UInt8} (h : numsF (frOf b).pay.length (frOf b).pay = none) : crtParse b = none := by
  refine crtParse_none fun q h1 h2 h3 => ?_
  have g := frOf_crt h1
  rw [h3] at g
  rw [g] at h
  have hp := Crt.pays_u64 h1 h2
  rw [numsF_put q.pays _ hp (putVs_ge _ hp)] at h
  cases h
/-- The candidate out of the numbers. -/
theorem crtParse_cand {b : List UInt8} {ns : List Nat} (hk : 17 ≤ (frOf b).kind ∧ (frOf b).kind ≤ 20) (h : numsF (frOf b).pay.length (frOf b).pay = some ns) :
    (crtOf (((frOf b).kind : Int) - 16) ns).nums ∧ crtParse b = if (crtOf (((frOf b).kind : Int) - 16) ns).right = true ∧ (crtOf (((frOf b).kind : Int) - 16) ns).bytes = b then some (crtOf (((frOf b).kind : Int) - 16) ns) else none := by
  have hn := crtOf_nums (k := ((frOf b).kind : Int) - 16) (by unfold i64; omega) (numsF_lt _ _ _ h)
  refine ⟨hn, crtParse_via hn fun q h1 h2 h3 => ?_⟩
  obtain ⟨_, _, _, r4, r5, _⟩ := Crt.nil_of h1
  have g := frOf_crt h1
  rw [h3] at g
  rw [g] at h ⊢
  have hp := Crt.pays_u64 h1 h2
  rw [numsF_put q.pays _ hp (putVs_ge _ hp)] at h
  injection h with h
  subst h
  rw [show (((16 + q.k.toNat : Nat) : Int) - 16) = q.k from by omega]
  exact crtOf_pays h1 h2
end Go.Proofs.YtkpfbalkhlidgaaGreatDoor
namespace Go.Proofs.YtkpfbalkhlidgaaGreatDoor
open Go.RowKit Go
set_option linter.unusedVariables false
set_option linter.unusedSimpArgs false
theorem nine_at {ns : List Nat} {j a b c d e f g h k : Nat} (ha : ns[j]? = some a) (hb : ns[j + 1]? = some b) (hc : ns[j + 2]? = some c) (hd : ns[j + 3]? = some d) (he : ns[j + 4]? = some e) (hf : ns[j + 5]? = some f) (hg : ns[j + 6]? = some g) (hh : ns[j + 7]? = some h) (hk : ns[j + 8]? = some k) :
    (ns.drop j).take 9 = [a, b, c, d, e, f, g, h, k] := by
  apply List.ext_getElem?
  intro q
  rw [List.getElem?_take]
  by_cases hq : q < 9
  · rw [if_pos hq, List.getElem?_drop]
    match q, hq with
    | 0, _ => exact ha
    | 1, _ => exact hb
    | 2, _ => exact hc
    | 3, _ => exact hd
    | 4, _ => exact he
    | 5, _ => exact hf
    | 6, _ => exact hg
    | 7, _ => exact hh
    | 8, _ => exact hk
  · rw [if_neg hq, List.getElem?_eq_none (by simp; omega)]
theorem edsOf_at {ns : List Nat} {j a b c d e f g h k : Nat} (ha : ns[j * 9]? = some a) (hb : ns[j * 9 + 1]? = some b) (hc : ns[j * 9 + 2]? = some c) (hd : ns[j * 9 + 3]? = some d) (he : ns[j * 9 + 4]? = some e) (hf : ns[j * 9 + 5]? = some f) (hg : ns[j * 9 + 6]? = some g) (hh : ns[j * 9 + 7]? = some h) (hk : ns[j * 9 + 8]? = some k) :
    (edsOf ns).take (j + 1) = (edsOf ns).take j ++ [edOf [a, b, c, d, e, f, g, h, k]] := by
  have hl := (List.getElem?_eq_some_iff.1 hk).1
  have hj : j < (edsOf ns).length := by unfold edsOf; rw [List.length_map, List.length_range]; omega
  have hg9 : (edsOf ns)[j] = edOf ((ns.drop (j * 9)).take 9) := by simp [edsOf]
  rw [List.take_succ_eq_append_getElem hj, hg9, nine_at ha hb hc hd he hf hg hh hk]
theorem edsOf_length (ns : List Nat) : (edsOf ns).length = ns.length / 9 := by simp [edsOf]
theorem vals_setp (A : List Value) (m : Nat) (e : Ed) (p : Int) (h : A.length = m) : (A ++ e.vals).set (m + 8) (.int .i64 p) = A ++ ({ e with p := p } : Ed).vals := by
  subst h
  rw [List.set_append_right _ _ (by omega), Nat.add_sub_cancel_left]
  rfl
/-- An element where it lies. -/
theorem sl_blk {w : World} {g sz : Nat} {cs : Array Value} {T : TypeId} (h : w.heap[g]? = some (.cells cs T (0, 0))) (hs : cs.size = sz) : Sl w (fun _ => True) false sz 1 cs.toList (.slice (some ⟨g, 0, none⟩) 1 1) := by
  refine ⟨by simp [hs], by omega, _, _, rfl, Nat.le_refl _, fun _ => ⟨_, _, rfl, trivial, fun j hj => ?_⟩⟩
  have hj2 : j < cs.size := by simpa using hj
  rw [cell_of_row w g (0 + j) cs T (0, 0) h]
  refine ⟨by simp [hj2], fun e => by cases e⟩
end Go.Proofs.YtkpfbalkhlidgaaGreatDoor
namespace Go.Proofs.YtkpfbalkhlidgaaGreatDoor
open Go.RowKit Go
set_option linter.unusedVariables false
set_option linter.unusedSimpArgs false
theorem numsF_nil (f : Nat) : numsF f [] = some [] := by cases f <;> rfl
theorem numsF_fuel : ∀ (f g : Nat) (l : List UInt8), l.length ≤ f → l.length ≤ g → numsF f l = numsF g l
  | f, g, [], _, _ => by rw [numsF_nil, numsF_nil]
  | 0, _, c :: l, h, _ => by simp at h
  | f + 1, 0, c :: l, _, h => by simp at h
  | f + 1, g + 1, c :: l, h1, h2 => by
    simp only [numsF]
    cases hv : getV (c :: l) with
    | none => rfl
    | some x =>
      have := getV_len (n := x.1) (r := x.2) hv
      simp only [List.length_cons] at h1 h2 this
      simp only [numsF_fuel f g x.2 (by omega) (by omega)]
theorem numsF_bad {P : List UInt8} {a : Nat} (ha : a < P.length) (h : getV (P.drop a) = none) : numsF (P.length - a) (P.drop a) = none := by
  cases hd : P.drop a with
  | nil => have := congrArg List.length hd; simp at this; omega
  | cons c l =>
    rw [show P.length - a = (P.length - a - 1) + 1 from by omega]
    rw [hd] at h
    simp only [numsF, h]
theorem numsF_more {P r : List UInt8} {a n : Nat} (ha : a < P.length) (h : getV (P.drop a) = some (n, r)) :
    r = P.drop (getAt a (P.drop a)) ∧ a < getAt a (P.drop a) ∧ getAt a (P.drop a) ≤ P.length ∧ getN (P.drop a) = n ∧ numsF (P.length - a) (P.drop a) = (numsF (P.length - getAt a (P.drop a)) (P.drop (getAt a (P.drop a)))).map (n :: ·) := by
  have hl := getV_len h
  have hr := getV_drop h
  have hg : getAt a (P.drop a) = a + ((P.drop a).length - r.length) := by unfold getAt; rw [h]
  have hdl : (P.drop a).length = P.length - a := by simp
  have e : r = P.drop (getAt a (P.drop a)) := by rw [hg, ← List.drop_drop]; exact hr
  refine ⟨e, by omega, by omega, by unfold getN; rw [h], ?_⟩
  rw [← e]
  cases hd : P.drop a with
  | nil => have := congrArg List.length hd; simp at this; omega
  | cons c l =>
    rw [← hd, hg]
    rw [show P.length - a = (P.length - a - 1) + 1 from by omega]
    rw [hd] at h
    conv => lhs; rw [hd]
    simp only [numsF, h]
    rw [numsF_fuel (P.length - a - 1) (P.length - (a + ((P.drop a).length - r.length))) r (by omega) (by omega)]
theorem crtOf_len (k : Int) (ns : List Nat) : (crtOf k ns).o.length ≤ ns.length ∧ (crtOf k ns).w.length ≤ ns.length := by
  unfold crtOf
  split
  · simp
  · split
    · simp [edsOf]; omega
    · split <;> simp
end Go.Proofs.YtkpfbalkhlidgaaGreatDoor
