/- A certificate's text. -/
import Derived.Test.YtagnalfkmdjajaaGreatDoorY27
namespace Go.Proofs.YtagnalfkmdjajaaGreatDoor
open Go.RowKit Go
set_option linter.unusedVariables false
set_option linter.unusedSimpArgs false
theorem Aq : ∀ (k u : Nat), u < 10 ^ (k + 1) → Lib.nDigits u ≤ k + 1
 | 0, u, h => by rw [Lib.nDigits_small (by simpa using h)]; omega
 | k + 1, u, h => by
  by_cases hu : u < 10
  ·rw [Lib.nDigits_small hu]; omega
  ·have := Aq k (u / 10) (by rw [Nat.pow_succ] at h; omega)
   rw [Lib.nDigits_big hu]; omega
theorem rG (n : Nat) (h : n < 10000000000000000000) : (Lib.decDigits n).length ≤ 19 := by
 rw [Lib.decDigits_length]
 exact Aq 18 n h
def dQ : List UInt8 := [32, 59, 32]
theorem Bp (r : List UInt8) : Lib.index (dQ ++ r) dQ = ((0 : Nat) : Int) := by
 show Lib.index (32 :: 59 :: 32 :: r) dQ = _
 rw [Lib.index, if_pos (by simp [dQ, List.isPrefixOf])]; rfl
theorem Ar {b : UInt8} {l : List UInt8} (h : ∀ c t, l = c :: t → c ≠ 59) : dQ.isPrefixOf (b :: l) = false := by
 cases l with
 | nil => simp [dQ, List.isPrefixOf]
 | cons c t =>
  have := h c t rfl
  simp [dQ, List.isPrefixOf]
  intro _ h2
  exact absurd h2.symm this
theorem rH : ∀ (t r : List UInt8), (59 : UInt8) ∉ t → Lib.index (t ++ (dQ ++ r)) dQ = ((t.length : Nat) : Int)
 | [], r, _ => Bp r
 | b :: t, r, h => by
  have hn : ∀ c u, t ++ (dQ ++ r) = c :: u → c ≠ 59 := fun c u e => by
   cases t with
   | nil => simp [dQ] at e; rw [← e.1]; decide
   | cons d t => simp at e; rw [← e.1]; exact fun e => h (by simp [e])
  rw [List.cons_append, Lib.index, Ar hn, rH t r (fun hc => h (by simp [hc]))]
  rw [if_neg (by decide), if_neg (by simp)]
  simp
theorem oM : ∀ (t : List UInt8), (59 : UInt8) ∉ t → Lib.index t dQ = -1
 | [], _ => by simp [Lib.index, dQ]
 | b :: t, h => by
  have hn : ∀ c u, t = c :: u → c ≠ 59 := fun c u e he => h (by rw [e, he]; simp)
  rw [Lib.index, Ar hn, oM t (fun hc => h (by simp [hc]))]
  rfl
theorem oN : ∀ (ts : List (List UInt8)), ts ≠ [] → (∀ t ∈ ts, (59 : UInt8) ∉ t) → Lib.split (Lib.join ts dQ) dQ = ts
 | [], h, _ => absurd rfl h
 | [t], _, h => by
  have hm := oM t (h t (by simp))
  rw [Lib.join_one]
  unfold Lib.split
  rw [Lib.count_miss hm]; rfl
 | t :: u :: ts, _, h => by
  have hj : Lib.join (t :: u :: ts) dQ = t ++ (dQ ++ Lib.join (u :: ts) dQ) := by
   rw [Lib.join_cons, Lib.join_cons]
   simp [Lib.joinTail]
  have hi := rH t (Lib.join (u :: ts) dQ) (h t (by simp))
  have hd : (t ++ (dQ ++ Lib.join (u :: ts) dQ)).drop (t.length + dQ.length) = Lib.join (u :: ts) dQ := by
   rw [← List.drop_drop, List.drop_left, List.drop_left]
  have ih := oN (u :: ts) (by simp) (fun x hx => h x (by simp [hx]))
  unfold Lib.split at ih ⊢
  rw [hj, Lib.count_hit (by simp [dQ]) hi, hd, Nat.add_comm 1]
  rw [Lib.splitK, hi, if_neg (by simp)]
  simp only [Int.toNat_natCast, Nat.add_zero]
  rw [hd, ih, List.take_left]
theorem Bq {c : UInt8} {a r : List UInt8} (h : c ∉ a) : Lib.cut (a ++ c :: r) [c] = (a, r, true) := by
 obtain ⟨x, q, h1, h2, h3⟩ := vU (c := c) (l := a ++ c :: r) (by simp)
 have e1 := jm r h
 rw [h2, jm q h3] at e1
 simp only [List.cons.injEq] at e1
 obtain ⟨rfl, e2⟩ := e1
 have := congrArg (fun l => Lib.join l [c]) e2
 simp only [tO] at this
 rw [h1, this]
noncomputable def edGet (s : List UInt8) : Ed := (edRead s).getD Ed.zero
theorem Ed.zero_nums : Ed.zero.nums := by unfold Ed.nums Ed.zero i64; simp
theorem rJ (s : List UInt8) : (edGet s).nums := by
 unfold edGet
 cases h : edRead s with
 | none => exact Ed.zero_nums
 | some e => exact (iU.1 h).2.1
theorem zo {e : Ed} (h : e.ok) (hn : e.nums) : edGet e.told = e := by
 unfold edGet
 rw [iU.2 ⟨h, hn, rfl⟩]; rfl
def kW : List UInt8 := [115, 101, 114, 105, 97, 108]
def nL : List UInt8 := [100, 105, 114, 116, 121]
def fP : List UInt8 := [112, 97, 114, 116, 105, 97, 108]
def nM : List UInt8 := [99, 121, 99, 108, 101]
def dm (l : List UInt8) : Int := if l = kW then 1 else if l = nL then 2 else if l = fP then 3 else if l = nM then 4 else 0
theorem zt {k : Int} (h1 : 1 ≤ k) (h5 : k < 5) : dm (ah k) = k := by
 obtain rfl | rfl | rfl | rfl : k = 1 ∨ k = 2 ∨ k = 3 ∨ k = 4 := by omega
 all_goals decide
theorem xI (l : List UInt8) : 0 ≤ dm l ∧ dm l ≤ 4 := by
 unfold dm; split <;> (try split) <;> (try split) <;> (try split) <;> omega
noncomputable def candP (s : List UInt8) : Crt :=
 if dm (Lib.cut s [32]).1 = 1 ∧ (Lib.cut s [32]).2.2 = true then ⟨1, (cuts 32 (Lib.cut s [32]).2.1).map aF, 0, 0, []⟩
 else if dm (Lib.cut s [32]).1 = 4 ∧ (Lib.cut s [32]).2.2 = true then ⟨4, [], 0, 0, (Lib.split (Lib.cut s [32]).2.1 dQ).map edGet⟩
 else match cuts 32 (Lib.cut s [32]).2.1 with
  | [a, b] => ⟨dm (Lib.cut s [32]).1, [], aF a, aF b, []⟩
  | _ => ⟨dm (Lib.cut s [32]).1, [], 0, 0, []⟩
theorem dL (s : List UInt8) : (candP s).nums := by
 have z : i64 0 := by unfold i64; omega
 have hk := xI (Lib.cut s [32]).1
 have hk' : i64 (dm (Lib.cut s [32]).1) := by unfold i64; omega
 unfold candP
 split
 ·refine ⟨by show i64 1; unfold i64; omega, z, z, fun n hn => ?_, fun e he => absurd he (by simp)⟩
  obtain ⟨x, _, rfl⟩ := List.mem_map.1 hn
  exact nK _
 ·split
  ·refine ⟨by show i64 4; unfold i64; omega, z, z, fun n hn => absurd hn (by simp), fun e he => ?_⟩
   obtain ⟨x, _, rfl⟩ := List.mem_map.1 he
   exact rJ _
  ·split
   ·exact ⟨hk', nK _, nK _, fun n hn => absurd hn (by simp), fun e he => absurd he (by simp)⟩
   ·exact ⟨hk', z, z, fun n hn => absurd hn (by simp), fun e he => absurd he (by simp)⟩
theorem nN {n : Int} (h0 : 0 ≤ n) (h1 : n ≤ 9223372036854775807) : aF (Lib.decDigits n.toNat) = n := by
 unfold aF
 rw [jO n.toNat (by omega)]
 show ((n.toNat : Nat) : Int) = n
 omega
theorem kC {n : Int} (h0 : 0 ≤ n) (h1 : n ≤ 9223372036854775807) : bI (Lib.decDigits n.toNat) = n := by
 unfold bI
 rw [eF _ (by omega), if_pos ⟨rG _ (by omega), rfl⟩]
 unfold aj
 rw [if_neg (by omega)]; omega
theorem mW : ∀ (w : List Ed), Lib.join (aZ w) [32] = Lib.join (w.map Ed.told) dQ
 | [] => rfl
 | [e] => by simp [aZ, gP, Lib.join_one, Ed.told]
 | e :: d :: w => by
  have ih := mW (d :: w)
  have h1 : aZ (e :: d :: w) = e.words ++ ([[59]] ++ aZ (d :: w)) := by simp [aZ, gP]
  have hw : aZ (d :: w) ≠ [] := by simp [aZ, Ed.words]
  rw [h1, kz (by simp [Ed.words]) (by simp), kz (by simp) hw, Lib.join_one, ih]
  simp only [List.map_cons]
  rw [Lib.join_cons e.told, Lib.join_cons d.told]
  simp [Lib.joinTail, dQ, Ed.told]
theorem Eg {c : UInt8} (hc : c ≠ 32) : ∀ (l : List (List UInt8)), (∀ x ∈ l, c ∉ x) → c ∉ Lib.join l [32]
 | [], _ => by simp [Lib.join_nil]
 | x :: l, h => by
  rw [Lib.join_cons]
  simp only [List.mem_append, not_or]
  refine ⟨h x (by simp), ?_⟩
  unfold Lib.joinTail
  simp only [List.mem_flatten, List.mem_map, not_exists, not_and]
  intro z hz hcz
  obtain ⟨y, hy, rfl⟩ := hz
  rcases List.mem_cons.1 hcz with e | e
  ·exact hc e
  ·exact h y (by simp [hy]) e
theorem Br {e : Ed} (h : e.ok) : (59 : UInt8) ∉ e.told := by
 refine Eg (by decide) _ fun x hx => ?_
 simp only [Ed.words, List.mem_cons, List.not_mem_nil, or_false] at hx
 rcases hx with rfl | rfl | rfl | rfl | rfl | rfl | rfl
 ·exact aY (by decide)
 ·unfold aV; split <;> (try split) <;> (try split) <;> (try split) <;> decide
 ·exact aY (by decide)
 ·exact aY (by decide)
 ·exact iR (by decide) (by decide)
 ·exact iR (by decide) (by decide)
 ·exact pE h.2.2.2.2 (by decide) (by decide)
theorem Crt.words_no {c : Crt} (h : ∀ e ∈ c.w, e.ok) : ∀ x ∈ c.words, (32 : UInt8) ∉ x := by
 intro x hx
 unfold Crt.words at hx
 simp only [List.mem_cons, List.mem_append, List.mem_map] at hx
 rcases hx with rfl | (hx | ⟨n, _, rfl⟩) | hx
 ·exact lZ _
 ·split at hx
  ·simp only [List.mem_cons, List.not_mem_nil, or_false] at hx
   rcases hx with rfl | rfl <;> exact aY (by decide)
  ·cases hx
 ·exact aY (by decide)
 ·exact rz h x hx
theorem Au {f : List UInt8 → Int} (hf : ∀ n : Int, 0 ≤ n → n ≤ 9223372036854775807 → f (Lib.decDigits n.toNat) = n) {o : List Int} (h : ∀ n ∈ o, 0 ≤ n) (hn : ∀ n ∈ o, i64 n) : (o.map fun n => Lib.decDigits n.toNat).map f = o := by
 rw [List.map_map]
 conv => rhs; rw [← List.map_id o]
 apply List.map_congr_left
 intro n hm
 have := hn n hm
 unfold i64 at this
 exact hf n (h n hm) this.2
theorem xJ {w : List Ed} (h : ∀ e ∈ w, e.ok) (hn : ∀ e ∈ w, e.nums) : (w.map Ed.told).map edGet = w := by
 rw [List.map_map]
 conv => rhs; rw [← List.map_id w]
 exact List.map_congr_left fun e he => zo (h e he) (hn e he)
theorem Da {q : Crt} (hr : q.right = true) (hn : q.nums) : candP q.told = q := by
 obtain ⟨r1, r2, r3, r4, r5, r6, r7, r8, r9, r10, r11⟩ := Crt.nil_of hr
 obtain ⟨n1, n2, n3, n4, n5⟩ := hn
 have hw := Crt.words_no r9
 have ht := Crt.told_words r9
 obtain ⟨k, o, p, q, w⟩ := q
 unfold i64 at n2 n3
 simp only at r1 r2 r3 r4 r5 r6 r7 r8 r9 n1 n2 n3 n4 n5
 obtain ⟨T, hT⟩ : ∃ T, T = (if aR k then [Lib.decDigits p.toNat, Lib.decDigits q.toNat] else []) ++ o.map (fun n => Lib.decDigits n.toNat) ++ aZ w := ⟨_, rfl⟩
 have hW : (⟨k, o, p, q, w⟩ : Crt).words = ah k :: T := by rw [hT]; rfl
 rw [hW] at hw ht
 rw [ht]
 have hk := zt r4 r5
 have h32 : (32 : UInt8) ∉ ah k := lZ k
 cases hc : T with
 | nil =>
  rw [hc] at hT
  have hT' := List.append_eq_nil_iff.1 hT.symm
  have hT2 := List.append_eq_nil_iff.1 hT'.1
  have ho : o = [] := by simpa using hT2.2
  have hww : w = [] := by
   cases w with
   | nil => rfl
   | cons e w => exact absurd hT'.2 (by simp [aZ, Ed.words])
  have hsp : aR k = false := by
   have := hT2.1
   cases h : aR k with
   | false => rfl
   | true => rw [h] at this; simp at this
  have hpq : p = 0 ∧ q = 0 := r3.resolve_left (fun h => by unfold aR at hsp; rcases h with rfl | rfl <;> simp at hsp)
  rw [Lib.join_one]
  unfold candP
  rw [BV h32]
  simp only [hk, Bool.false_eq_true, and_false, if_false]
  simp only [Go.Proofs.YtagnalfkmdjajaaGreatDoor.cuts]
  rw [ho, hww, hpq.1, hpq.2]
 | cons t T' =>
  have hjn : Lib.join (ah k :: T) [32] = ah k ++ 32 :: Lib.join T [32] := by
   rw [hc, Lib.join_cons, Lib.join_cons]
   simp [Lib.joinTail]
  rw [← hc, hjn]
  have hcu : cuts 32 (Lib.join T [32]) = T := gT (by rw [hc]; simp) (fun x hx => hw x (by simp [hx]))
  unfold candP
  rw [Bq h32]
  simp only [hk, and_true]
  rw [hcu]
  by_cases h1 : k = 1
  ·subst h1
   have e2 : w = [] := r2.resolve_left (by omega)
   have e4 := r3.resolve_left (by omega)
   subst e2
   rw [if_pos rfl, hT]
   have : aR 1 = false := rfl
   rw [this]
   simp only [Bool.false_eq_true, if_false, List.nil_append, aZ, List.append_nil]
   rw [Au (fun n h0 h1 => nN h0 h1) r8 n4, e4.1, e4.2]
  ·rw [if_neg h1]
   have e1 : o = [] := r1.resolve_left h1
   subst e1
   by_cases h4 : k = 4
   ·subst h4
    have e4 := r3.resolve_left (by omega)
    have hsp : aR 4 = false := rfl
    rw [hsp] at hT
    simp only [Bool.false_eq_true, if_false, List.nil_append, List.map_nil] at hT
    have hwn : w ≠ [] := fun e => by rw [e] at hT; rw [hT] at hc; simp [aZ] at hc
    rw [if_pos rfl, hT, mW, oN (w.map Ed.told) (by simpa using hwn) (fun t ht => by obtain ⟨e, he, rfl⟩ := List.mem_map.1 ht; exact Br (r9 e he)), xJ r9 n5, e4.1, e4.2]
   ·rw [if_neg h4]
    have e2 : w = [] := r2.resolve_left h4
    subst e2
    have hsp : aR k = true := by
     unfold aR
     obtain rfl | rfl : k = 2 ∨ k = 3 := by omega
     all_goals rfl
    rw [hsp] at hT
    simp only [if_true, List.map_nil, List.append_nil, aZ] at hT
    rw [hT]
    simp only
    rw [nN r6 n2.2, nN r7 n3.2]
theorem bV {s : List UInt8} (hs : s ≠ []) : crtRead s = if (candP s).text = s then some (candP s) else none :=
 oI hs (dL s) fun q h1 h2 h3 => by rw [← h3]; exact Da h1 h2
def grp : List (List UInt8) → List UInt8 → List (List UInt8)
 | [], s => [s]
 | x :: l, s => if x = [59] then s :: grp l [] else grp l (if s = [] then x else s ++ 32 :: x)
def rM : List UInt8 → List (List UInt8) → List UInt8
 | s, [] => s
 | s, x :: l => rM (if s = [] then x else s ++ 32 :: x) l
theorem zu : ∀ (l r : List (List UInt8)) (s : List UInt8), (∀ x ∈ l, x ≠ [59]) → grp (l ++ r) s = grp r (rM s l)
 | [], r, s, _ => rfl
 | x :: l, r, s, h => by
  rw [List.cons_append, grp, if_neg (h x (by simp)), zu l r _ (fun y hy => h y (by simp [hy]))]; rfl
theorem xK : ∀ (l : List (List UInt8)) (s : List UInt8), s ≠ [] → rM s l = s ++ Lib.joinTail [32] l
 | [], s, _ => by simp [rM, Lib.joinTail]
 | x :: l, s, h => by
  rw [rM, if_neg h, xK l _ (by simp)]
  simp [Lib.joinTail]
theorem rO {e : Ed} (h : e.ok) : ∀ x ∈ e.words, x ≠ [59] := by
 intro x hx he
 subst he
 simp only [Ed.words, List.mem_cons, List.not_mem_nil, or_false] at hx
 have h59 : (59 : UInt8) ∈ [(59 : UInt8)] := by simp
 rcases hx with e1 | e1 | e1 | e1 | e1 | e1 | e1 <;> rw [e1] at h59
 ·exact aY (by decide) h59
 ·revert h59; unfold aV; split <;> (try split) <;> (try split) <;> (try split) <;> decide
 ·exact aY (by decide) h59
 ·exact aY (by decide) h59
 ·exact iR (by decide) (by decide) h59
 ·exact iR (by decide) (by decide) h59
 ·exact pE h.2.2.2.2 (by decide) (by decide) h59
theorem oO {e : Ed} : rM [] e.words = e.told := by
 unfold Ed.told Ed.words
 rw [rM, if_pos rfl, xK _ _ (fe _), Lib.join_cons]
theorem uI : ∀ (w : List Ed), w ≠ [] → (∀ e ∈ w, e.ok) → grp (aZ w) [] = w.map Ed.told
 | [], h, _ => absurd rfl h
 | [e], _, h => by
  have := zu e.words [] [] (rO (h e (by simp)))
  rw [List.append_nil] at this
  simp only [aZ, gP, List.flatMap_nil, List.append_nil]
  rw [this, oO]; rfl
 | e :: d :: w, _, h => by
  have h1 : aZ (e :: d :: w) = e.words ++ ([59] :: aZ (d :: w)) := by simp [aZ, gP]
  rw [h1, zu _ _ _ (rO (h e (by simp))), oO, grp, if_pos rfl, uI (d :: w) (by simp) (fun x hx => h x (by simp [hx]))]
  rfl
noncomputable def candR (s : List UInt8) : Crt := match cuts 32 s with
 | [] => ⟨0, [], 0, 0, []⟩
 | h :: t => if h = kW then ⟨1, t.map bI, 0, 0, []⟩
  else if h = nL ∨ h = fP then (match t with
   | [a, b] => ⟨if h = fP then 3 else 2, [], bI a, bI b, []⟩
   | _ => ⟨if h = fP then 3 else 2, [], 0, 0, []⟩)
  else if h = nM then ⟨4, [], 0, 0, if t = [] then [] else (grp t []).map edGet⟩
  else ⟨0, [], 0, 0, []⟩
theorem dM (s : List UInt8) : (candR s).nums := by
 have z : i64 0 := by unfold i64; omega
 have k : ∀ n : Int, 0 ≤ n → n ≤ 4 → i64 n := fun n h0 h1 => by unfold i64; omega
 unfold candR
 split
 ·exact ⟨z, z, z, fun n hn => absurd hn (by simp), fun e he => absurd he (by simp)⟩
 ·rename_i h t _
  split
  ·refine ⟨k 1 (by omega) (by omega), z, z, fun n hn => ?_, fun e he => absurd he (by simp)⟩
   obtain ⟨x, _, rfl⟩ := List.mem_map.1 hn
   exact rF _
  ·split
   ·have hk : i64 (if h = fP then 3 else 2) := by split <;> exact k _ (by omega) (by omega)
    split
    ·exact ⟨hk, rF _, rF _, fun n hn => absurd hn (by simp), fun e he => absurd he (by simp)⟩
    ·exact ⟨hk, z, z, fun n hn => absurd hn (by simp), fun e he => absurd he (by simp)⟩
   ·split
    ·refine ⟨k 4 (by omega) (by omega), z, z, fun n hn => absurd hn (by simp), fun e he => ?_⟩
     have he : e ∈ (if t = [] then [] else (grp t []).map edGet) := he
     split at he
     ·cases he
     ·obtain ⟨x, _, rfl⟩ := List.mem_map.1 he
      exact rJ _
    ·exact ⟨z, z, z, fun n hn => absurd hn (by simp), fun e he => absurd he (by simp)⟩
theorem Db {q : Crt} (hr : q.right = true) (hn : q.nums) : candR q.told = q := by
 obtain ⟨r1, r2, r3, r4, r5, r6, r7, r8, r9, r10, r11⟩ := Crt.nil_of hr
 obtain ⟨n1, n2, n3, n4, n5⟩ := hn
 have hcu := Crt.cuts r9
 obtain ⟨k, o, p, q, w⟩ := q
 unfold i64 at n2 n3
 simp only at r1 r2 r3 r4 r5 r6 r7 r8 r9 n1 n2 n3 n4 n5
 unfold candR
 rw [hcu]
 unfold Crt.words
 simp only
 obtain rfl | rfl | rfl | rfl : k = 1 ∨ k = 2 ∨ k = 3 ∨ k = 4 := by omega
 ·have e2 : w = [] := r2.resolve_left (by omega)
  have e4 := r3.resolve_left (by omega)
  subst e2
  rw [if_pos (by decide)]
  have : aR 1 = false := rfl
  simp only [this, Bool.false_eq_true, if_false, List.nil_append, aZ, List.append_nil]
  rw [Au (fun n h0 h1 => kC h0 h1) r8 n4, e4.1, e4.2]
 ·have e1 : o = [] := r1.resolve_left (by omega)
  have e2 : w = [] := r2.resolve_left (by omega)
  subst e1 e2
  rw [if_neg (by decide), if_pos (by decide)]
  have : aR 2 = true := rfl
  simp only [this, if_true, List.map_nil, List.append_nil, aZ]
  rw [if_neg (by decide), kC r6 n2.2, kC r7 n3.2]
 ·have e1 : o = [] := r1.resolve_left (by omega)
  have e2 : w = [] := r2.resolve_left (by omega)
  subst e1 e2
  rw [if_neg (by decide), if_pos (by decide)]
  have : aR 3 = true := rfl
  simp only [this, if_true, List.map_nil, List.append_nil, aZ]
  rw [if_pos (by decide), kC r6 n2.2, kC r7 n3.2]
 ·have e1 : o = [] := r1.resolve_left (by omega)
  have e4 := r3.resolve_left (by omega)
  subst e1
  rw [if_neg (by decide), if_neg (by decide), if_pos (by decide)]
  have : aR 4 = false := rfl
  simp only [this, Bool.false_eq_true, if_false, List.nil_append, List.map_nil]
  cases w with
  | nil => rw [e4.1, e4.2]; rfl
  | cons e w =>
   rw [if_neg (by simp [aZ, Ed.words]), uI (e :: w) (by simp) r9, xJ r9 n5, e4.1, e4.2]
theorem bW {s : List UInt8} (hs : s ≠ []) : crtRead s = if (candR s).text = s then some (candR s) else none :=
 oI hs (dM s) fun q h1 h2 h3 => by rw [← h3]; exact Db h1 h2
end Go.Proofs.YtagnalfkmdjajaaGreatDoor
