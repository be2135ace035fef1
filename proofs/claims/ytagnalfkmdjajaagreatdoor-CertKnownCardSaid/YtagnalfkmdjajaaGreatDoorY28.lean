/- How long a small certificate's bytes and text are. -/
import Derived.Test.YtagnalfkmdjajaaGreatDoorY27
namespace Go.Proofs.YtagnalfkmdjajaaGreatDoor
open Go.RowKit Go
set_option linter.unusedVariables false
set_option linter.unusedSimpArgs false
def dR : Nat → List UInt8 → Option (List Nat)
 | _, [] => some []
 | 0, _ :: _ => none
 | f + 1, c :: l => match bX (c :: l) with
  | none => none
  | some x => (dR f x.2).map (x.1 :: ·)
theorem nP : ∀ (ns : List Nat) (f : Nat), (∀ n ∈ ns, n < 18446744073709551616) → ns.length ≤ f → dR f (ae ns) = some ns
 | [], f, _, _ => by cases f <;> rfl
 | n :: ns, 0, _, h => by simp at h
 | n :: ns, f + 1, h1, h => by
  have e : ae (n :: ns) = bi n ++ ae ns := by simp [ae]
  have hv := eU n (ae ns) (h1 n (by simp))
  have ih := nP ns f (fun x hx => h1 x (by simp [hx])) (by simpa using h)
  rw [e]
  cases hp : bi n ++ ae ns with
  | nil => exact absurd (List.append_eq_nil_iff.1 hp).1 (pM n (h1 n (by simp)))
  | cons c l =>
   rw [hp] at hv
   simp only [dR, hv, ih, Option.map_some]
def jH : List Nat → Ed
 | [a, b, k, x, sw, sn, mw, mn, p] => ⟨aj a, aj b, aj k, x, sw, sn, mw, mn, if p = 0 then -1 else aj (p - 1)⟩
 | _ => ⟨0, 0, 0, 0, 0, 0, 0, 0, 0⟩
theorem eY {n : Int} (h0 : 0 ≤ n) (h1 : n ≤ 9223372036854775807) : aj n.toNat = n := by unfold aj; rw [if_neg (by omega)]; omega
theorem Bv {e : Ed} (hn : e.nums) (ho : e.ok) : jH e.pays = e := by
 obtain ⟨b0, b1, b2, b3, b4, b5, b6, b7, b8⟩ := hn
 obtain ⟨o1, o2, o3, o4, o5⟩ := ho
 unfold i64 at b0 b1 b2 b8
 unfold Ed.pays jH
 simp only
 rw [eY o3 b0.2, eY o4 b1.2, eY (by omega) b2.2]
 have hp : (if (e.p + 1).toNat = 0 then (-1 : Int) else aj ((e.p + 1).toNat - 1)) = e.p := by
  by_cases h : e.p = -1
  ·rw [h]; rfl
  ·rw [if_neg (by omega), show (e.p + 1).toNat - 1 = e.p.toNat from by omega, eY (by omega) b8.2]
 rw [hp]
def cu (ns : List Nat) : List Ed := (List.range (ns.length / 9)).map fun i => jH ((ns.drop (i * 9)).take 9)
theorem zy {w : List Ed} (hn : ∀ e ∈ w, e.nums) (ho : ∀ e ∈ w, e.ok) : cu (w.flatMap Ed.pays) = w := by
 have hl : ∀ w : List Ed, (w.flatMap Ed.pays).length = w.length * 9 := fun w => by
  induction w with
  | nil => rfl
  | cons e w ih => rw [List.flatMap_cons, List.length_append, ih]; simp [Ed.pays]; omega
 have hd : ∀ (w : List Ed) (i : Nat) (h : i < w.length), ((w.flatMap Ed.pays).drop (i * 9)).take 9 = w[i].pays := by
  intro w
  induction w with
  | nil => intro i h; simp at h
  | cons e w ih =>
   intro i h
   rw [List.flatMap_cons]
   cases i with
   | zero => simp [Ed.pays]
   | succ i =>
    have h9 : e.pays.length = 9 := rfl
    rw [show (i + 1) * 9 = e.pays.length + i * 9 from by omega, ← List.drop_drop, List.drop_left]
    simpa using ih i (by simpa using h)
 unfold cu
 rw [hl, Nat.mul_div_cancel _ (by decide)]
 apply List.ext_getElem
 ·simp
 ·intro i h1 h2
  simp only [List.getElem_map, List.getElem_range]
  rw [hd w i h2, Bv (hn _ (List.getElem_mem h2)) (ho _ (List.getElem_mem h2))]
def bL (k : Int) (ns : List Nat) : Crt :=
 if k = 1 then ⟨k, (ns.drop 1).map aj, 0, 0, []⟩ else if k = 4 then ⟨k, [], 0, 0, cu (ns.drop 1)⟩ else match ns with
  | [p, q] => ⟨k, [], aj p, aj q, []⟩
  | _ => ⟨k, [], 0, 0, []⟩
theorem rR {c : Crt} (hr : c.right = true) (hn : c.nums) : bL c.k c.pays = c := by
 obtain ⟨r1, r2, r3, r4, r5, r6, r7, r8, r9, r10, r11⟩ := Crt.nil_of hr
 obtain ⟨n1, n2, n3, n4, n5⟩ := hn
 obtain ⟨k, o, p, q, w⟩ := c
 unfold i64 at n2 n3
 simp only at r1 r2 r3 r4 r5 r6 r7 r8 r9 n1 n2 n3 n4 n5
 unfold bL Crt.pays
 by_cases h1 : k = 1
 ·subst h1
  have e2 : w = [] := r2.resolve_left (by omega)
  have e4 := r3.resolve_left (by omega)
  have e5 : (o.map Int.toNat).map aj = o := by
   rw [List.map_map]
   conv => rhs; rw [← List.map_id o]
   apply List.map_congr_left
   intro n hm
   have := n4 n hm
   unfold i64 at this
   exact eY (r8 n hm) this.2
  simp only [if_true, List.drop_succ_cons, List.drop_zero, e5, e2, e4.1, e4.2]
 ·by_cases h4 : k = 4
  ·subst h4
   have e2 : o = [] := r1.resolve_left (by omega)
   have e4 := r3.resolve_left (by omega)
   rw [if_neg h1, if_pos rfl, if_neg h1, if_pos rfl, List.drop_succ_cons, List.drop_zero, zy n5 r9, e2, e4.1, e4.2]
  ·have e2 : o = [] := r1.resolve_left h1
   have e3 : w = [] := r2.resolve_left h4
   rw [if_neg h1, if_neg h4, if_neg h1, if_neg h4]
   simp only
   rw [eY r6 n2.2, eY r7 n3.2, e2, e3]
theorem kE : ∀ (ns : List Nat), (∀ n ∈ ns, n < 18446744073709551616) → ns.length ≤ (ae ns).length
 | [], _ => by simp
 | n :: ns, h => by
  have e : ae (n :: ns) = bi n ++ ae ns := by simp [ae]
  have ih := kE ns (fun x hx => h x (by simp [hx]))
  have hp := List.length_pos_iff.2 (pM n (h n (by simp)))
  rw [e, List.length_append, List.length_cons]
  omega
theorem rT : ∀ (f : Nat) (l : List UInt8) (ns : List Nat), dR f l = some ns → ∀ n ∈ ns, n < 18446744073709551616
 | _, [], ns, h => by
  have : ns = [] := by cases ‹Nat› <;> (simp [dR] at h; exact h)
  subst this
  intro n hn; cases hn
 | 0, _ :: _, ns, h => by simp [dR] at h
 | f + 1, c :: l, ns, h => by
  simp only [dR] at h
  split at h
  ·cases h
  ·rename_i x hx
   cases hm : dR f x.2 with
   | none => rw [hm] at h; cases h
   | some ms =>
    rw [hm] at h
    simp only [Option.map_some, Option.some.injEq] at h
    subst h
    intro n hn
    rcases List.mem_cons.1 hn with rfl | hn
    ·exact mP hx
    ·exact rT f x.2 ms hm n hn
theorem Bw {l : List Nat} (h : ∀ n ∈ l, n < 18446744073709551616) : (jH l).nums := by
 unfold jH
 split
 ·rename_i a b k x sw sn mw mn p
  simp only [List.mem_cons, List.not_mem_nil, or_false, forall_eq_or_imp, forall_eq] at h
  obtain ⟨h0, h1, h2, h3, h4, h5, h6, h7, h8⟩ := h
  refine ⟨eX _, eX _, eX _, h3, h4, h5, h6, h7, ?_⟩
  show i64 (if p = 0 then -1 else aj (p - 1))
  split
  ·unfold i64; omega
  ·exact eX _
 ·have z : i64 0 := by unfold i64; omega
  exact ⟨z, z, z, by decide, by decide, by decide, by decide, by decide, z⟩
theorem zA {k : Int} {ns : List Nat} (hk : i64 k) (h : ∀ n ∈ ns, n < 18446744073709551616) : (bL k ns).nums := by
 have z : i64 0 := by unfold i64; omega
 unfold bL
 split
 ·refine ⟨hk, z, z, fun n hn => ?_, fun e he => absurd he (by simp)⟩
  obtain ⟨x, _, rfl⟩ := List.mem_map.1 hn
  exact eX x
 ·split
  ·refine ⟨hk, z, z, fun n hn => absurd hn (by simp), fun e he => ?_⟩
   obtain ⟨i, _, rfl⟩ := List.mem_map.1 he
   exact Bw fun n hn => h n (List.mem_of_mem_drop (List.mem_of_mem_drop (List.mem_of_mem_take hn)))
  ·split
   ·exact ⟨hk, eX _, eX _, fun n hn => absurd hn (by simp), fun e he => absurd he (by simp)⟩
   ·exact ⟨hk, z, z, fun n hn => absurd hn (by simp), fun e he => absurd he (by simp)⟩
theorem dC {b : List UInt8} (h : ¬ ((aO b).rule = 0 ∧ (aO b).len = b.length ∧ 17 ≤ (aO b).kind ∧ (aO b).kind ≤ 20)) : crtParse b = none := by
 refine dY fun q h1 h2 h3 => h ?_
 obtain ⟨_, _, _, r4, r5, _⟩ := Crt.nil_of h1
 have g := mU h1
 rw [h3] at g
 rw [g]
 exact ⟨rfl, rfl, by show 17 ≤ 16 + q.k.toNat; omega, by show 16 + q.k.toNat ≤ 20; omega⟩
theorem sV {b : List UInt8} (h : dR (aO b).pay.length (aO b).pay = none) : crtParse b = none := by
 refine dY fun q h1 h2 h3 => ?_
 have g := mU h1
 rw [h3] at g
 rw [g] at h
 have hp := Crt.pays_u64 h1 h2
 rw [nP q.pays _ hp (kE _ hp)] at h
 cases h
theorem sW {b : List UInt8} {ns : List Nat} (hk : 17 ≤ (aO b).kind ∧ (aO b).kind ≤ 20) (h : dR (aO b).pay.length (aO b).pay = some ns) :
  (bL (((aO b).kind : Int) - 16) ns).nums ∧ crtParse b = if (bL (((aO b).kind : Int) - 16) ns).right = true ∧ (bL (((aO b).kind : Int) - 16) ns).bytes = b then some (bL (((aO b).kind : Int) - 16) ns) else none := by
 have hn := zA (k := ((aO b).kind : Int) - 16) (by unfold i64; omega) (rT _ _ _ h)
 refine ⟨hn, vG hn fun q h1 h2 h3 => ?_⟩
 obtain ⟨_, _, _, r4, r5, _⟩ := Crt.nil_of h1
 have g := mU h1
 rw [h3] at g
 rw [g] at h ⊢
 have hp := Crt.pays_u64 h1 h2
 rw [nP q.pays _ hp (kE _ hp)] at h
 injection h with h
 subst h
 rw [show (((16 + q.k.toNat : Nat) : Int) - 16) = q.k from by omega]
 exact rR h1 h2
theorem Eh {ns : List Nat} {j a b c d e f g h k : Nat} (ha : ns[j]? = some a) (hb : ns[j + 1]? = some b) (hc : ns[j + 2]? = some c) (hd : ns[j + 3]? = some d) (he : ns[j + 4]? = some e) (hf : ns[j + 5]? = some f) (hg : ns[j + 6]? = some g) (hh : ns[j + 7]? = some h) (hk : ns[j + 8]? = some k) :
  (ns.drop j).take 9 = [a, b, c, d, e, f, g, h, k] := by
 apply List.ext_getElem?
 intro q
 rw [List.getElem?_take]
 by_cases hq : q < 9
 ·rw [if_pos hq, List.getElem?_drop]
  match q, hq with
  | 0, _ => exact ha
  | 1, _ => exact hb
  | 2, _ => exact hc
  | 3, _ => exact hd
  | 4, _ => exact he
  | 5, _ => exact hf
  | 6, _ => exact hg
  | 7, _ => exact hh
  | 8, _ => exact hk
 ·rw [if_neg hq, List.getElem?_eq_none (by simp; omega)]
theorem De {ns : List Nat} {j a b c d e f g h k : Nat} (ha : ns[j * 9]? = some a) (hb : ns[j * 9 + 1]? = some b) (hc : ns[j * 9 + 2]? = some c) (hd : ns[j * 9 + 3]? = some d) (he : ns[j * 9 + 4]? = some e) (hf : ns[j * 9 + 5]? = some f) (hg : ns[j * 9 + 6]? = some g) (hh : ns[j * 9 + 7]? = some h) (hk : ns[j * 9 + 8]? = some k) :
  (cu ns).take (j + 1) = (cu ns).take j ++ [jH [a, b, c, d, e, f, g, h, k]] := by
 have hl := (List.getElem?_eq_some_iff.1 hk).1
 have hj : j < (cu ns).length := by unfold cu; rw [List.length_map, List.length_range]; omega
 have hg9 : (cu ns)[j] = jH ((ns.drop (j * 9)).take 9) := by simp [cu]
 rw [List.take_succ_eq_append_getElem hj, hg9, Eh ha hb hc hd he hf hg hh hk]
theorem mX (ns : List Nat) : (cu ns).length = ns.length / 9 := by simp [cu]
theorem Bz (A : List Value) (m : Nat) (e : Ed) (p : Int) (h : A.length = m) : (A ++ e.vals).set (m + 8) (.int .i64 p) = A ++ ({ e with p := p } : Ed).vals := by
 subst h
 rw [List.set_append_right _ _ (by omega), Nat.add_sub_cancel_left]
 rfl
theorem zB {w : World} {g sz : Nat} {cs : Array Value} {T : TypeId} (h : w.heap[g]? = some (.cells cs T (0, 0))) (hs : cs.size = sz) : Sl w (fun _ => True) false sz 1 cs.toList (.slice (some ⟨g, 0, none⟩) 1 1) := by
 refine ⟨by simp [hs], by omega, _, _, rfl, Nat.le_refl _, fun _ => ⟨_, _, rfl, trivial, fun j hj => ?_⟩⟩
 have hj2 : j < cs.size := by simpa using hj
 rw [cell_of_row w g (0 + j) cs T (0, 0) h]
 refine ⟨by simp [hj2], fun e => by cases e⟩
theorem uJ (f : Nat) : dR f [] = some [] := by cases f <;> rfl
theorem rU : ∀ (f g : Nat) (l : List UInt8), l.length ≤ f → l.length ≤ g → dR f l = dR g l
 | f, g, [], _, _ => by rw [uJ, uJ]
 | 0, _, c :: l, h, _ => by simp at h
 | f + 1, 0, c :: l, _, h => by simp at h
 | f + 1, g + 1, c :: l, h1, h2 => by
  simp only [dR]
  cases hv : bX (c :: l) with
  | none => rfl
  | some x =>
   have := ko (n := x.1) (r := x.2) hv
   simp only [List.length_cons] at h1 h2 this
   simp only [rU f g x.2 (by omega) (by omega)]
theorem BA {P : List UInt8} {a : Nat} (ha : a < P.length) (h : bX (P.drop a) = none) : dR (P.length - a) (P.drop a) = none := by
 cases hd : P.drop a with
 | nil => have := congrArg List.length hd; simp at this; omega
 | cons c l =>
  rw [show P.length - a = (P.length - a - 1) + 1 from by omega]
  rw [hd] at h
  simp only [dR, h]
theorem zC {P r : List UInt8} {a n : Nat} (ha : a < P.length) (h : bX (P.drop a) = some (n, r)) :
  r = P.drop (dP a (P.drop a)) ∧ a < dP a (P.drop a) ∧ dP a (P.drop a) ≤ P.length ∧ mQ (P.drop a) = n ∧ dR (P.length - a) (P.drop a) = (dR (P.length - dP a (P.drop a)) (P.drop (dP a (P.drop a)))).map (n :: ·) := by
 have hl := ko h
 have hr := jk h
 have hg : dP a (P.drop a) = a + ((P.drop a).length - r.length) := by unfold dP; rw [h]
 have hdl : (P.drop a).length = P.length - a := by simp
 have e : r = P.drop (dP a (P.drop a)) := by rw [hg, ← List.drop_drop]; exact hr
 refine ⟨e, by omega, by omega, by unfold mQ; rw [h], ?_⟩
 rw [← e]
 cases hd : P.drop a with
 | nil => have := congrArg List.length hd; simp at this; omega
 | cons c l =>
  rw [← hd, hg]
  rw [show P.length - a = (P.length - a - 1) + 1 from by omega]
  rw [hd] at h
  conv => lhs; rw [hd]
  simp only [dR, h]
  rw [rU (P.length - a - 1) (P.length - (a + ((P.drop a).length - r.length))) r (by omega) (by omega)]
theorem BB (k : Int) (ns : List Nat) : (bL k ns).o.length ≤ ns.length ∧ (bL k ns).w.length ≤ ns.length := by
 unfold bL
 split
 ·simp
 ·split
  ·simp [cu]; omega
  ·split <;> simp
theorem vI {k j : Nat} {l m : List UInt8} {x : UInt8} (hl : l.length < 18446744073709551616) (hm : m.length < 18446744073709551616) (h : aS k l ++ [x] = aS j m) : False := by
 unfold aS aM at h
 simp only [List.cons_append, List.cons.injEq] at h
 obtain ⟨h0, h⟩ := h
 have e1 : ∀ n : Nat, ae [n] = bi n := fun n => by simp [ae]
 rw [e1, e1] at h
 simp only [List.append_assoc] at h
 have g1 := eU l.length (l ++ (gL (Crc.fw (k.toUInt8 :: (bi l.length ++ l))) ++ [x])) hl
 rw [h, eU m.length _ hm] at g1
 simp only [Option.some.injEq, Prod.mk.injEq] at g1
 obtain ⟨g2, g3⟩ := g1
 have g4 := congrArg List.length g3
 simp only [List.length_append, List.length_cons, List.length_nil, gL, gF] at g4
 omega
theorem Crt.dz {c : Crt} (hc : c.right = true) : (ae c.pays).length < 18446744073709551616 := by
 have h1 := aJ c.pays
 obtain ⟨_, _, _, _, _, _, _, _, _, g1, g2⟩ := Crt.nil_of hc
 have h3 : c.pays.length ≤ 600000 := by
  unfold Crt.pays
  split
  ·simp; omega
  ·split
   ·rw [List.length_cons, Go.Proofs.YtagnalfkmdjajaaGreatDoor.dz]; omega
   ·simp
 omega
theorem Crt.bytes_noext {c d : Crt} (hc : c.right = true) (hd : d.right = true) {x : UInt8} (h : c.bytes ++ [x] = d.bytes) : False := vI (Crt.dz hc) (Crt.dz hd) h
theorem pq {c : Crt} (hc : c.right = true) (x : UInt8) : crtParse (c.bytes ++ [x]) = none := dY fun d hd _ h => Crt.bytes_noext hc hd h.symm
theorem nQ {c : Crt} (hc : c.right = true) (hn : c.bytes ≠ []) : crtParse (c.bytes.take (c.bytes.length - 1)) = none := dY fun d hd _ h => by
 refine Crt.bytes_noext hd hc (x := c.bytes.getLast hn) ?_
 rw [h, ← List.dropLast_eq_take]
 exact List.dropLast_concat_getLast hn
theorem sZ {c : Crt} (hc : c.right = true) (hn : c.nums) : crtParse c.bytes = some c := dX.2 ⟨hc, hn, rfl⟩
theorem vJ {c : Crt} (hc : c.right = true) (hn : c.nums) : crtRead c.text = some c := ib.2 ⟨hc, hn, by rw [Crt.text, if_pos hc]⟩
theorem rV {c d : Crt} {b : List UInt8} (h : crtParse b = some d) (hb : b ≠ c.bytes) : d ≠ c := fun e => hb (by rw [← (dX.1 h).2.2, e])
theorem Crt.bytes_six (c : Crt) : 6 ≤ c.bytes.length := by
 unfold Crt.bytes aS aM
 simp only [List.length_append, List.length_cons, gL, gF]
 have : 0 < (ae [(ae c.pays).length]).length := by
  have e1 : ∀ n : Nat, ae [n] = bi n := fun n => by simp [ae]
  rw [e1]
  unfold bi gK
  split <;> simp
 omega
theorem Crt.bytes_iff {c d : Crt} (hc : c.right = true) (hd : d.right = true) (nc : c.nums) (nd : d.nums) : c.bytes = d.bytes ↔ c = d := ⟨Crt.bytes_inj hc hd nc nd, fun e => by rw [e]⟩
theorem Crt.text_iff {c d : Crt} (hc : c.right = true) (hd : d.right = true) : c.text = d.text ↔ c = d := ⟨fun h => Crt.told_inj hc hd (by rwa [Crt.text, if_pos hc, Crt.text, if_pos hd] at h), fun e => by rw [e]⟩
def ic (l : List (List UInt8)) : Nat := (l.map (fun x => x.length + 1)).sum
theorem kX (x : List UInt8) (l : List (List UInt8)) : ic (x :: l) = x.length + 1 + ic l := by simp [ic]
theorem rW (l m : List (List UInt8)) : ic (l ++ m) = ic l + ic m := by simp [ic]
theorem Df : ∀ l : List (List UInt8), (Lib.join l [32]).length ≤ ic l
 | [] => by simp [Lib.join]
 | x :: r => by
  have : ∀ r : List (List UInt8), (Lib.joinTail [32] r).length = ic r := by
   intro r
   induction r with
   | nil => rfl
   | cons y r ih =>
    have e : Lib.joinTail [32] (y :: r) = 32 :: y ++ Lib.joinTail [32] r := by simp [Lib.joinTail]
    rw [e, kX, List.length_append, ih, List.length_cons]
  rw [Lib.join_cons, kX, List.length_append, this]
  omega
theorem Av (N : Nat) : ∀ l : List (List UInt8), (∀ x ∈ l, x.length ≤ N) → ic l ≤ (N + 1) * l.length
 | [], _ => by simp [ic]
 | x :: r, h => by
  have h1 := Av N r (fun y hy => h y (by simp [hy]))
  have h2 := h x (by simp)
  rw [kX, List.length_cons, Nat.mul_succ]
  omega
theorem Dg (l : List Ed) (hn : ∀ e ∈ l, e.nums) : ic (bg l) ≤ 203 * l.length := by
 have : ∀ (l : List Ed) (k : Nat), (∀ e ∈ l, e.nums) → ic ((l.zipIdx k).flatMap fun x => ek x.1 x.2) ≤ 203 * l.length := by
  intro l
  induction l with
  | nil => intro k _; simp [ic]
  | cons e l ih =>
   intro k hn
   have h1 := ih (k + 1) (fun e he => hn e (by simp [he]))
   have h2 := Ed.text_len (hn e (by simp))
   have h3 : ic (ek e k) ≤ 203 := by
    unfold ek
    split <;> simp [ic] <;> omega
   rw [List.zipIdx_cons, List.flatMap_cons, rW, List.length_cons]
   simp only
   omega
 exact this l 0 hn
theorem Crt.text_small {c : Crt} (hn : c.nums) (ho : c.o.length ≤ 40) (hw : c.w.length ≤ 40) : c.text.length ≤ 9500 := by
 obtain ⟨n1, n2, n3, n4, n5⟩ := hn
 unfold i64 at n1 n2 n3
 unfold Crt.text
 split
 ·have h0 := Df c.parts
  have h1 := Dg c.w n5
  have h2 : ic (c.o.map (fun n => Lib.decDigits n.toNat)) ≤ 21 * c.o.length := by
   have := Av 20 (c.o.map (fun n => Lib.decDigits n.toNat)) (fun x hx => by
    obtain ⟨n, hm, rfl⟩ := List.mem_map.1 hx
    have := n4 n hm
    unfold i64 at this
    exact aH n.toNat (by omega))
   simpa using this
  have h3 : (ah c.k).length ≤ 10 := by unfold ah; split <;> (try split) <;> (try split) <;> simp
  have hp := aH c.p.toNat (by omega)
  have hq := aH c.q.toNat (by omega)
  have h4 : ic (if aR c.k then [Lib.decDigits c.p.toNat, Lib.decDigits c.q.toNat] else []) ≤ 42 := by
   split
   ·simp [ic]; omega
   ·simp [ic]
  unfold Crt.told
  have h5 : ic c.parts = (ah c.k).length + 1 + (ic (if aR c.k then [Lib.decDigits c.p.toNat, Lib.decDigits c.q.toNat] else []) + ic (c.o.map (fun n => Lib.decDigits n.toNat)) + ic (bg c.w)) := by
   unfold Crt.parts
   rw [kX, rW, rW]
  omega
 ·simp
theorem Crt.text_five {c : Crt} (hr : c.right = true) : 5 ≤ c.text.length := by
 unfold Crt.text
 rw [if_pos hr]
 unfold Crt.told Crt.parts
 rw [Lib.join_cons, List.length_append]
 have h3 : 5 ≤ (ah c.k).length := by unfold ah; split <;> (try split) <;> (try split) <;> simp
 omega
theorem Crt.bytes_small {c : Crt} (ho : c.o.length ≤ 40) (hw : c.w.length ≤ 40) : c.bytes.length ≤ 9500 := by
 have h1 := yH (16 + c.k.toNat) (ae c.pays)
 have h2 := aJ c.pays
 have h3 : c.pays.length ≤ 361 := by
  unfold Crt.pays
  split
  ·simp; omega
  ·split
   ·rw [List.length_cons, Go.Proofs.YtagnalfkmdjajaaGreatDoor.dz]; omega
   ·simp
 unfold Crt.bytes
 omega
end Go.Proofs.YtagnalfkmdjajaaGreatDoor
