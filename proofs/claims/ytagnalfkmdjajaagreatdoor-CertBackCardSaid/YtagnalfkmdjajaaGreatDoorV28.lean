/- How long a small certificate's bytes and text are: plain Lean. Ahead of it: The numbers of a payload, and the certificate that these might be: plain Lean. Bytes parsed by way of the candidate: plain Lean. The reference's candidate, edge by edge; its numbers, one by one: plain Lean. A certificate's bytes and text: no longer, no shorter, no other: plain Lean. -/
import Derived.Test.YtagnalfkmdjajaaGreatDoorV26
import Derived.Test.YtagnalfkmdjajaaGreatDoorV27
import Derived.Test.YtagnalfkmdjajaaGreatDoorV21
namespace Go.Proofs.YtagnalfkmdjajaaGreatDoor
open Go.RowKit Go
set_option linter.unusedVariables false
set_option linter.unusedSimpArgs false
def edOf : List Nat → Ed
  | [a, b, k, x, sw, sn, mw, mn, p] => ⟨wholeN a, wholeN b, wholeN k, x, sw, sn, mw, mn, if p = 0 then -1 else wholeN (p - 1)⟩
  | _ => ⟨0, 0, 0, 0, 0, 0, 0, 0, 0⟩
theorem wholeN_back {n : Int} (h0 : 0 ≤ n) (h1 : n ≤ 9223372036854775807) : wholeN n.toNat = n := by unfold wholeN; rw [if_neg (by omega)]; omega
theorem edOf_pays {e : Ed} (hn : e.nums) (ho : e.ok) : edOf e.pays = e := by
  obtain ⟨b0, b1, b2, b3, b4, b5, b6, b7, b8⟩ := hn
  obtain ⟨o1, o2, o3, o4, o5⟩ := ho
  unfold i64 at b0 b1 b2 b8
  unfold Ed.pays edOf
  simp only
  rw [wholeN_back o3 b0.2, wholeN_back o4 b1.2, wholeN_back (by omega) b2.2]
  have hp : (if (e.p + 1).toNat = 0 then (-1 : Int) else wholeN ((e.p + 1).toNat - 1)) = e.p := by
    by_cases h : e.p = -1
    · rw [h]; rfl
    · rw [if_neg (by omega), show (e.p + 1).toNat - 1 = e.p.toNat from by omega, wholeN_back (by omega) b8.2]
  rw [hp]
/-- The edges of numbers, nine by nine. -/
def edsOf (ns : List Nat) : List Ed := (List.range (ns.length / 9)).map fun i => edOf ((ns.drop (i * 9)).take 9)
theorem edsOf_pays {w : List Ed} (hn : ∀ e ∈ w, e.nums) (ho : ∀ e ∈ w, e.ok) : edsOf (w.flatMap Ed.pays) = w := by
  have hl : ∀ w : List Ed, (w.flatMap Ed.pays).length = w.length * 9 := fun w => by
    induction w with
    | nil => rfl
    | cons e w ih => rw [List.flatMap_cons, List.length_append, ih]; simp [Ed.pays]; omega
  have hd : ∀ (w : List Ed) (i : Nat) (h : i < w.length), ((w.flatMap Ed.pays).drop (i * 9)).take 9 = w[i].pays := by
    intro w
    induction w with
    | nil => intro i h; simp at h
    | cons e w ih =>
      intro i h
      rw [List.flatMap_cons]
      cases i with
      | zero => simp [Ed.pays]
      | succ i =>
        have h9 : e.pays.length = 9 := rfl
        rw [show (i + 1) * 9 = e.pays.length + i * 9 from by omega, ← List.drop_drop, List.drop_left]
        simpa using ih i (by simpa using h)
  unfold edsOf
  rw [hl, Nat.mul_div_cancel _ (by decide)]
  apply List.ext_getElem
  · simp
  · intro i h1 h2
    simp only [List.getElem_map, List.getElem_range]
    rw [hd w i h2, edOf_pays (hn _ (List.getElem_mem h2)) (ho _ (List.getElem_mem h2))]
/-- The certificate that a kind's numbers might be. -/
def crtOf (k : Int) (ns : List Nat) : Crt :=
  if k = 1 then ⟨k, (ns.drop 1).map wholeN, 0, 0, []⟩ else if k = 4 then ⟨k, [], 0, 0, edsOf (ns.drop 1)⟩ else match ns with
    | [p, q] => ⟨k, [], wholeN p, wholeN q, []⟩
    | _ => ⟨k, [], 0, 0, []⟩
theorem crtOf_pays {c : Crt} (hr : c.right = true) (hn : c.nums) : crtOf c.k c.pays = c := by
  obtain ⟨r1, r2, r3, r4, r5, r6, r7, r8, r9, r10, r11⟩ := Crt.nil_of hr
  obtain ⟨n1, n2, n3, n4, n5⟩ := hn
  obtain ⟨k, o, p, q, w⟩ := c
  unfold i64 at n2 n3
  simp only at r1 r2 r3 r4 r5 r6 r7 r8 r9 n1 n2 n3 n4 n5
  unfold crtOf Crt.pays
  by_cases h1 : k = 1
  · subst h1
    have e2 : w = [] := r2.resolve_left (by omega)
    have e4 := r3.resolve_left (by omega)
    have e5 : (o.map Int.toNat).map wholeN = o := by
      rw [List.map_map]
      conv => rhs; rw [← List.map_id o]
      apply List.map_congr_left
      intro n hm
      have := n4 n hm
      unfold i64 at this
      exact wholeN_back (r8 n hm) this.2
    simp only [if_true, List.drop_succ_cons, List.drop_zero, e5, e2, e4.1, e4.2]
  · by_cases h4 : k = 4
    · subst h4
      have e2 : o = [] := r1.resolve_left (by omega)
      have e4 := r3.resolve_left (by omega)
      rw [if_neg h1, if_pos rfl, if_neg h1, if_pos rfl, List.drop_succ_cons, List.drop_zero, edsOf_pays n5 r9, e2, e4.1, e4.2]
    · have e2 : o = [] := r1.resolve_left h1
      have e3 : w = [] := r2.resolve_left h4
      rw [if_neg h1, if_neg h4, if_neg h1, if_neg h4]
      simp only
      rw [wholeN_back r6 n2.2, wholeN_back r7 n3.2, e2, e3]
end Go.Proofs.YtagnalfkmdjajaaGreatDoor
namespace Go.Proofs.YtagnalfkmdjajaaGreatDoor
open Go.RowKit Go
set_option linter.unusedVariables false
set_option linter.unusedSimpArgs false
theorem putVs_ge : ∀ (ns : List Nat), (∀ n ∈ ns, n < 18446744073709551616) → ns.length ≤ (putVs ns).length
  | [], _ => by simp
  | n :: ns, h => by
    have e : putVs (n :: ns) = putV n ++ putVs ns := by simp [putVs]
    have ih := putVs_ge ns (fun x hx => h x (by simp [hx]))
    have hp := List.length_pos_iff.2 (putV_ne n (h n (by simp)))
    rw [e, List.length_append, List.length_cons]
    omega
/-- Bytes that are no frame of a certificate's kind, or hold more: none's. -/
theorem crtParse_frame {b : List UInt8} (h : ¬ ((frOf b).rule = 0 ∧ (frOf b).len = b.length ∧ 17 ≤ (frOf b).kind ∧ (frOf b).kind ≤ 20)) : crtParse b = none := by
  refine crtParse_none fun q h1 h2 h3 => h ?_
  obtain ⟨_, _, _, r4, r5, _⟩ := Crt.nil_of h1
  have g := frOf_crt h1
  rw [h3] at g
  rw [g]
  exact ⟨rfl, rfl, by show 17 ≤ 16 + q.k.toNat; omega, by show 16 + q.k.toNat ≤ 20; omega⟩
end Go.Proofs.YtagnalfkmdjajaaGreatDoor
namespace Go.Proofs.YtagnalfkmdjajaaGreatDoor
open Go.RowKit Go
set_option linter.unusedVariables false
set_option linter.unusedSimpArgs false
end Go.Proofs.YtagnalfkmdjajaaGreatDoor
namespace Go.Proofs.YtagnalfkmdjajaaGreatDoor
set_option linter.unusedVariables false
set_option linter.unusedSimpArgs false
theorem frameB_noext {k j : Nat} {l m : List UInt8} {x : UInt8} (hl : l.length < 18446744073709551616) (hm : m.length < 18446744073709551616) (h : frameB k l ++ [x] = frameB j m) : False := by
  unfold frameB frameH at h
  simp only [List.cons_append, List.cons.injEq] at h
  obtain ⟨h0, h⟩ := h
  have e1 : ∀ n : Nat, putVs [n] = putV n := fun n => by simp [putVs]
  rw [e1, e1] at h
  simp only [List.append_assoc] at h
  have g1 := getV_put l.length (l ++ (sumN (Crc.crcS (k.toUInt8 :: (putV l.length ++ l))) ++ [x])) hl
  rw [h, getV_put m.length _ hm] at g1
  simp only [Option.some.injEq, Prod.mk.injEq] at g1
  obtain ⟨g2, g3⟩ := g1
  have g4 := congrArg List.length g3
  simp only [List.length_append, List.length_cons, List.length_nil, sumN, sumK_len] at g4
  omega
theorem Crt.pays_len {c : Crt} (hc : c.right = true) : (putVs c.pays).length < 18446744073709551616 := by
  have h1 := putVs_length c.pays
  obtain ⟨_, _, _, _, _, _, _, _, _, g1, g2⟩ := Crt.nil_of hc
  have h3 : c.pays.length ≤ 600000 := by
    unfold Crt.pays
    split
    · simp; omega
    · split
      · rw [List.length_cons, Go.Proofs.YtagnalfkmdjajaaGreatDoor.pays_len]; omega
      · simp
  omega
theorem Crt.bytes_noext {c d : Crt} (hc : c.right = true) (hd : d.right = true) {x : UInt8} (h : c.bytes ++ [x] = d.bytes) : False := frameB_noext (Crt.pays_len hc) (Crt.pays_len hd) h
theorem crtParse_longer {c : Crt} (hc : c.right = true) (x : UInt8) : crtParse (c.bytes ++ [x]) = none := crtParse_none fun d hd _ h => Crt.bytes_noext hc hd h.symm
theorem crtParse_shorter {c : Crt} (hc : c.right = true) (hn : c.bytes ≠ []) : crtParse (c.bytes.take (c.bytes.length - 1)) = none := crtParse_none fun d hd _ h => by
  refine Crt.bytes_noext hd hc (x := c.bytes.getLast hn) ?_
  rw [h, ← List.dropLast_eq_take]
  exact List.dropLast_concat_getLast hn
theorem crtParse_back {c : Crt} (hc : c.right = true) (hn : c.nums) : crtParse c.bytes = some c := crtParse_some.2 ⟨hc, hn, rfl⟩
theorem crtRead_back {c : Crt} (hc : c.right = true) (hn : c.nums) : crtRead c.text = some c := crtRead_some.2 ⟨hc, hn, by rw [Crt.text, if_pos hc]⟩
/-- Other bytes are another certificate's, or none's. -/
theorem crtParse_other {c d : Crt} {b : List UInt8} (h : crtParse b = some d) (hb : b ≠ c.bytes) : d ≠ c := fun e => hb (by rw [← (crtParse_some.1 h).2.2, e])
theorem Crt.bytes_six (c : Crt) : 6 ≤ c.bytes.length := by
  unfold Crt.bytes frameB frameH
  simp only [List.length_append, List.length_cons, sumN, sumK_len]
  have : 0 < (putVs [(putVs c.pays).length]).length := by
    have e1 : ∀ n : Nat, putVs [n] = putV n := fun n => by simp [putVs]
    rw [e1]
    unfold putV putF
    split <;> simp
  omega
theorem Crt.bytes_iff {c d : Crt} (hc : c.right = true) (hd : d.right = true) (nc : c.nums) (nd : d.nums) : c.bytes = d.bytes ↔ c = d := ⟨Crt.bytes_inj hc hd nc nd, fun e => by rw [e]⟩
theorem Crt.text_iff {c d : Crt} (hc : c.right = true) (hd : d.right = true) : c.text = d.text ↔ c = d := ⟨fun h => Crt.told_inj hc hd (by rwa [Crt.text, if_pos hc, Crt.text, if_pos hd] at h), fun e => by rw [e]⟩
end Go.Proofs.YtagnalfkmdjajaaGreatDoor
namespace Go.Proofs.YtagnalfkmdjajaaGreatDoor
set_option linter.unusedVariables false
set_option linter.unusedSimpArgs false
/-- The bytes of words and of one byte behind each. -/
def sumW (l : List (List UInt8)) : Nat := (l.map (fun x => x.length + 1)).sum
theorem sumW_cons (x : List UInt8) (l : List (List UInt8)) : sumW (x :: l) = x.length + 1 + sumW l := by simp [sumW]
theorem sumW_app (l m : List (List UInt8)) : sumW (l ++ m) = sumW l + sumW m := by simp [sumW]
theorem join_sum : ∀ l : List (List UInt8), (Lib.join l [32]).length ≤ sumW l
  | [] => by simp [Lib.join]
  | x :: r => by
    have : ∀ r : List (List UInt8), (Lib.joinTail [32] r).length = sumW r := by
      intro r
      induction r with
      | nil => rfl
      | cons y r ih =>
        have e : Lib.joinTail [32] (y :: r) = 32 :: y ++ Lib.joinTail [32] r := by simp [Lib.joinTail]
        rw [e, sumW_cons, List.length_append, ih, List.length_cons]
    rw [Lib.join_cons, sumW_cons, List.length_append, this]
    omega
theorem sumW_le (N : Nat) : ∀ l : List (List UInt8), (∀ x ∈ l, x.length ≤ N) → sumW l ≤ (N + 1) * l.length
  | [], _ => by simp [sumW]
  | x :: r, h => by
    have h1 := sumW_le N r (fun y hy => h y (by simp [hy]))
    have h2 := h x (by simp)
    rw [sumW_cons, List.length_cons, Nat.mul_succ]
    omega
theorem sumW_eds (l : List Ed) (hn : ∀ e ∈ l, e.nums) : sumW (edParts l) ≤ 203 * l.length := by
  have : ∀ (l : List Ed) (k : Nat), (∀ e ∈ l, e.nums) → sumW ((l.zipIdx k).flatMap fun x => edPart x.1 x.2) ≤ 203 * l.length := by
    intro l
    induction l with
    | nil => intro k _; simp [sumW]
    | cons e l ih =>
      intro k hn
      have h1 := ih (k + 1) (fun e he => hn e (by simp [he]))
      have h2 := Ed.text_len (hn e (by simp))
      have h3 : sumW (edPart e k) ≤ 203 := by
        unfold edPart
        split <;> simp [sumW] <;> omega
      rw [List.zipIdx_cons, List.flatMap_cons, sumW_app, List.length_cons]
      simp only
      omega
  exact this l 0 hn
theorem Crt.text_small {c : Crt} (hn : c.nums) (ho : c.o.length ≤ 40) (hw : c.w.length ≤ 40) : c.text.length ≤ 9500 := by
  obtain ⟨n1, n2, n3, n4, n5⟩ := hn
  unfold i64 at n1 n2 n3
  unfold Crt.text
  split
  · have h0 := join_sum c.parts
    have h1 := sumW_eds c.w n5
    have h2 : sumW (c.o.map (fun n => Lib.decDigits n.toNat)) ≤ 21 * c.o.length := by
      have := sumW_le 20 (c.o.map (fun n => Lib.decDigits n.toNat)) (fun x hx => by
        obtain ⟨n, hm, rfl⟩ := List.mem_map.1 hx
        have := n4 n hm
        unfold i64 at this
        exact decDigits_le20 n.toNat (by omega))
      simpa using this
    have h3 : (crtWord c.k).length ≤ 10 := by unfold crtWord; split <;> (try split) <;> (try split) <;> simp
    have hp := decDigits_le20 c.p.toNat (by omega)
    have hq := decDigits_le20 c.q.toNat (by omega)
    have h4 : sumW (if spotK c.k then [Lib.decDigits c.p.toNat, Lib.decDigits c.q.toNat] else []) ≤ 42 := by
      split
      · simp [sumW]; omega
      · simp [sumW]
    unfold Crt.told
    have h5 : sumW c.parts = (crtWord c.k).length + 1 + (sumW (if spotK c.k then [Lib.decDigits c.p.toNat, Lib.decDigits c.q.toNat] else []) + sumW (c.o.map (fun n => Lib.decDigits n.toNat)) + sumW (edParts c.w)) := by
      unfold Crt.parts
      rw [sumW_cons, sumW_app, sumW_app]
    omega
  · simp
theorem Crt.bytes_small {c : Crt} (ho : c.o.length ≤ 40) (hw : c.w.length ≤ 40) : c.bytes.length ≤ 9500 := by
  have h1 := frameB_len (16 + c.k.toNat) (putVs c.pays)
  have h2 := putVs_length c.pays
  have h3 : c.pays.length ≤ 361 := by
    unfold Crt.pays
    split
    · simp; omega
    · split
      · rw [List.length_cons, Go.Proofs.YtagnalfkmdjajaaGreatDoor.pays_len]; omega
      · simp
  unfold Crt.bytes
  omega
end Go.Proofs.YtagnalfkmdjajaaGreatDoor
