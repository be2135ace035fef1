/- A certificate's text, read. -/
import Derived.Test.YtagnalfkmdjajaaGreatDoorYC89
import Derived.Test.YtagnalfkmdjajaaGreatDoorY25
namespace Go.Proofs.YtagnalfkmdjajaaGreatDoor
open Go.RowKit Go
set_option linter.unusedVariables false
set_option linter.unusedSimpArgs false
theorem uC : ae [] = [] := rfl
theorem pM (n : Nat) (h : n < 18446744073709551616) : bi n ≠ [] := fun e => by
 have := eU n [] h
 rw [e] at this
 simp [bX, aW] at this
theorem uD : ∀ {l m : List Nat}, (∀ n ∈ l, n < 18446744073709551616) → (∀ n ∈ m, n < 18446744073709551616) → ae l = ae m → l = m
 | [], [], _, _, _ => rfl
 | [], n :: m, _, h2, h => by
  rw [gm, uC] at h
  have := List.append_eq_nil_iff.1 h.symm
  exact absurd (by simpa [ae] using this.1) (pM n (h2 n (by simp)))
 | n :: l, [], h1, _, h => by
  rw [gm, uC] at h
  have := List.append_eq_nil_iff.1 h
  exact absurd (by simpa [ae] using this.1) (pM n (h1 n (by simp)))
 | n :: l, k :: m, h1, h2, h => by
  rw [gm, gm k m] at h
  have e1 : ae [n] = bi n := by simp [ae]
  have e2 : ae [k] = bi k := by simp [ae]
  rw [e1, e2] at h
  have g1 := eU n (ae l) (h1 n (by simp))
  rw [h, eU k (ae m) (h2 k (by simp))] at g1
  simp only [Option.some.injEq, Prod.mk.injEq] at g1
  obtain ⟨rfl, g⟩ := g1
  rw [uD (fun x hx => h1 x (by simp [hx])) (fun x hx => h2 x (by simp [hx])) g.symm]
theorem zh {k j : Nat} {l m : List UInt8} (hk : k < 256) (hj : j < 256) (hl : l.length < 18446744073709551616) (hm : m.length < 18446744073709551616) (h : aS k l = aS j m) : k = j ∧ l = m := by
 unfold aS aM at h
 simp only [List.cons_append, List.cons.injEq] at h
 obtain ⟨h0, h⟩ := h
 have e1 : ∀ n : Nat, ae [n] = bi n := fun n => by simp [ae]
 rw [e1, e1, List.append_assoc, List.append_assoc] at h
 have g1 := eU l.length (l ++ gL (Crc.fw (k.toUInt8 :: (bi l.length ++ l)))) hl
 rw [h, eU m.length _ hm] at g1
 simp only [Option.some.injEq, Prod.mk.injEq] at g1
 obtain ⟨g2, g3⟩ := g1
 refine ⟨?_, (List.append_inj_left g3 g2).symm⟩
 have := congrArg UInt8.toNat h0
 rwa [cZ hk, cZ hj] at this
theorem Ed.pays_u64 {e : Ed} (hn : e.nums) (ho : e.ok) : ∀ n ∈ e.pays, n < 18446744073709551616 := by
 obtain ⟨b0, b1, b2, b3, b4, b5, b6, b7, b8⟩ := hn
 unfold i64 at b0 b1 b2 b8
 intro n h
 simp only [Ed.pays, List.mem_cons, List.not_mem_nil, or_false] at h
 rcases h with rfl | rfl | rfl | rfl | rfl | rfl | rfl | rfl | rfl <;> omega
theorem Ed.pays_inj {d e : Ed} (hd : d.ok) (he : e.ok) (h : d.pays = e.pays) : d = e := by
 obtain ⟨a1, a2, a3, a4, a5, a6, a7, a8, a9⟩ := d
 obtain ⟨b1, b2, b3, b4, b5, b6, b7, b8, b9⟩ := e
 obtain ⟨h1, h2, h3, h4, h5⟩ := hd
 obtain ⟨g1, g2, g3, g4, g5⟩ := he
 simp only [Ed.pays, List.cons.injEq, and_true] at h
 simp only at h1 h2 h3 h4 h5 g1 g2 g3 g4 g5 h
 simp only [Ed.mk.injEq]
 omega
theorem rq : ∀ {l m : List Ed}, (∀ e ∈ l, e.ok) → (∀ e ∈ m, e.ok) → l.flatMap Ed.pays = m.flatMap Ed.pays → l = m
 | [], [], _, _, _ => rfl
 | [], e :: m, _, _, h => by simp [Ed.pays] at h
 | e :: l, [], _, _, h => by simp [Ed.pays] at h
 | d :: l, e :: m, h1, h2, h => by
  rw [List.flatMap_cons, List.flatMap_cons] at h
  have hl : d.pays.length = e.pays.length := rfl
  rw [Ed.pays_inj (h1 d (by simp)) (h2 e (by simp)) (List.append_inj_left h hl), rq (fun x hx => h1 x (by simp [hx])) (fun x hx => h2 x (by simp [hx])) (List.append_inj_right h hl)]
theorem ry : ∀ {l m : List Int}, (∀ n ∈ l, 0 ≤ n) → (∀ n ∈ m, 0 ≤ n) → l.map Int.toNat = m.map Int.toNat → l = m
 | [], [], _, _, _ => rfl
 | [], _ :: _, _, _, h => by simp at h
 | _ :: _, [], _, _, h => by simp at h
 | a :: l, b :: m, h1, h2, h => by
  simp only [List.map_cons, List.cons.injEq] at h
  have := h1 a (by simp); have := h2 b (by simp)
  rw [show a = b from by omega, ry (fun x hx => h1 x (by simp [hx])) (fun x hx => h2 x (by simp [hx])) h.2]
theorem Crt.pays_u64 {c : Crt} (hr : c.right = true) (hn : c.nums) : ∀ n ∈ c.pays, n < 18446744073709551616 := by
 obtain ⟨r1, r2, r3, r4, r5, r6, r7, r8, r9, r10, r11⟩ := Crt.nil_of hr
 obtain ⟨n1, n2, n3, n4, n5⟩ := hn
 unfold i64 at n2 n3
 intro n h
 unfold Crt.pays at h
 split at h
 ·rcases List.mem_cons.1 h with rfl | h
  ·omega
  ·obtain ⟨x, hx, rfl⟩ := List.mem_map.1 h
   have := n4 x hx; unfold i64 at this; omega
 ·split at h
  ·rcases List.mem_cons.1 h with rfl | h
   ·omega
   ·obtain ⟨e, he, h⟩ := List.mem_flatMap.1 h
    exact Ed.pays_u64 (n5 e he) (r9 e he) n h
  ·simp only [List.mem_cons, List.not_mem_nil, or_false] at h
   rcases h with rfl | rfl <;> omega
theorem Crt.pays_inj {c d : Crt} (hc : c.right = true) (hd : d.right = true) (hk : c.k = d.k) (h : c.pays = d.pays) : c = d := by
 obtain ⟨r1, r2, r3, r4, r5, r6, r7, r8, r9, r10, r11⟩ := Crt.nil_of hc
 obtain ⟨s1, s2, s3, s4, s5, s6, s7, s8, s9, s10, s11⟩ := Crt.nil_of hd
 obtain ⟨k, o, p, q, w⟩ := c
 obtain ⟨k', o', p', q', w'⟩ := d
 simp only at hk
 subst hk
 unfold Crt.pays at h
 simp only at r1 r2 r3 r4 r5 r6 r7 r8 r9 s1 s2 s3 s6 s7 s8 s9 h
 by_cases h1 : k = 1
 ·subst h1
  simp only [if_true, List.cons.injEq] at h
  have e1 := ry r8 s8 h.2
  have e2 : w = [] := r2.resolve_left (by omega)
  have e3 : w' = [] := s2.resolve_left (by omega)
  have e4 := r3.resolve_left (by omega)
  have e5 := s3.resolve_left (by omega)
  rw [e1, e2, e3, e4.1, e4.2, e5.1, e5.2]
 ·by_cases h4 : k = 4
  ·subst h4
   rw [if_neg h1, if_pos rfl, if_neg h1, if_pos rfl] at h
   simp only [List.cons.injEq] at h
   have e1 := rq r9 s9 h.2
   have e2 : o = [] := r1.resolve_left (by omega)
   have e3 : o' = [] := s1.resolve_left (by omega)
   have e4 := r3.resolve_left (by omega)
   have e5 := s3.resolve_left (by omega)
   rw [e1, e2, e3, e4.1, e4.2, e5.1, e5.2]
  ·rw [if_neg h1, if_neg h4, if_neg h1, if_neg h4] at h
   simp only [List.cons.injEq, and_true] at h
   have e2 : o = [] := r1.resolve_left h1
   have e3 : o' = [] := s1.resolve_left h1
   have e4 : w = [] := r2.resolve_left h4
   have e5 : w' = [] := s2.resolve_left h4
   rw [e2, e3, e4, e5, show p = p' from by omega, show q = q' from by omega]
theorem Crt.bytes_inj {c d : Crt} (hc : c.right = true) (hd : d.right = true) (nc : c.nums) (nd : d.nums) (h : c.bytes = d.bytes) : c = d := by
 obtain ⟨_, _, _, r4, r5, _⟩ := Crt.nil_of hc
 obtain ⟨_, _, _, s4, s5, _⟩ := Crt.nil_of hd
 have len : ∀ {x : Crt}, x.right = true → (ae x.pays).length < 18446744073709551616 := fun {x} hx => by
  have h1 := aJ x.pays
  obtain ⟨_, _, _, _, _, _, _, _, _, g1, g2⟩ := Crt.nil_of hx
  have h3 : x.pays.length ≤ 600000 := by
   unfold Crt.pays
   split
   ·simp; omega
   ·split
    ·rw [List.length_cons, dz]; omega
    ·simp
  omega
 unfold Crt.bytes at h
 obtain ⟨h1, h2⟩ := zh (by omega) (by omega) (len hc) (len hd) h
 exact Crt.pays_inj hc hd (by omega) (uD (Crt.pays_u64 hc nc) (Crt.pays_u64 hd nd) h2)
open Classical in
noncomputable def crtParse (b : List UInt8) : Option Crt := if h : ∃ c : Crt, c.right = true ∧ c.nums ∧ c.bytes = b then some h.choose else none
theorem dX {b : List UInt8} {c : Crt} : crtParse b = some c ↔ c.right = true ∧ c.nums ∧ c.bytes = b := by
 unfold crtParse
 constructor
 ·intro h
  split at h
  ·rename_i hx; injection h with h; subst h; exact hx.choose_spec
  ·cases h
 ·intro h
  have hx : ∃ c : Crt, c.right = true ∧ c.nums ∧ c.bytes = b := ⟨c, h⟩
  rw [dif_pos hx]
  have := hx.choose_spec
  exact congrArg some (Crt.bytes_inj this.1 h.1 this.2.1 h.2.1 (this.2.2.trans h.2.2.symm))
theorem dY {b : List UInt8} (h : ∀ c : Crt, c.right = true → c.nums → c.bytes ≠ b) : crtParse b = none := by
 cases e : crtParse b with
 | none => rfl
 | some c => obtain ⟨h1, h2, h3⟩ := dX.1 e; exact absurd h3 (h c h1 h2)
theorem vG {b : List UInt8} {c : Crt} (hn : c.nums) (h : ∀ q : Crt, q.right = true → q.nums → q.bytes = b → c = q) : crtParse b = if c.right = true ∧ c.bytes = b then some c else none := by
 split
 ·rename_i hc; exact dX.2 ⟨hc.1, hn, hc.2⟩
 ·rename_i hc
  refine dY fun q h1 h2 h3 => hc ?_
  rw [h q h1 h2 h3]
  exact ⟨h1, h3⟩
theorem mU {c : Crt} (hr : c.right = true) : aO c.bytes = ⟨0, 16 + c.k.toNat, ae c.pays, c.bytes.length⟩ := by
 obtain ⟨_, _, _, r4, r5, _, _, _, _, g1, g2⟩ := Crt.nil_of hr
 have hl : (ae c.pays).length < 18446744073709551616 := by
  have h1 := aJ c.pays
  have h3 : c.pays.length ≤ 600000 := by
   unfold Crt.pays
   split
   ·simp; omega
   ·split
    ·rw [List.length_cons, dz]; omega
    ·simp
  omega
 have hk : (16 + c.k.toNat).toUInt8.toNat = 16 + c.k.toNat := cZ (by omega)
 have e1 : ∀ n : Nat, ae [n] = bi n := fun n => by simp [ae]
 have hb : c.bytes = (16 + c.k.toNat).toUInt8 :: (bi (ae c.pays).length ++ (ae c.pays ++ gL (Crc.fw (aM (16 + c.k.toNat) (ae c.pays))))) := by
  have hH : aM (16 + c.k.toNat) (ae c.pays) = (16 + c.k.toNat).toUInt8 :: (bi (ae c.pays).length ++ ae c.pays) := by unfold aM; rw [e1]
  have hX : ∀ X, aM (16 + c.k.toNat) (ae c.pays) ++ X = (16 + c.k.toNat).toUInt8 :: (bi (ae c.pays).length ++ (ae c.pays ++ X)) := fun X => by rw [hH, List.cons_append, List.append_assoc]
  exact hX _
 have hs := nJ (16 + c.k.toNat) (ae c.pays)
 have hv := eU (ae c.pays).length (ae c.pays ++ gL (Crc.fw (aM (16 + c.k.toNat) (ae c.pays)))) hl
 have h4 : (ae c.pays).length + 4 ≤ (ae c.pays ++ gL (Crc.fw (aM (16 + c.k.toNat) (ae c.pays)))).length := by rw [List.length_append, hs]; omega
 have := qZ (k := (16 + c.k.toNat).toUInt8) hv h4
 rw [← hb, hk] at this
 rw [this, List.take_left, List.drop_left, if_pos (by rw [List.take_of_length_le (by omega)])]
 congr 1
 rw [hb]
 simp [hs]
 omega
theorem kz : ∀ {l m : List (List UInt8)}, l ≠ [] → m ≠ [] → Lib.join (l ++ m) [32] = Lib.join l [32] ++ 32 :: Lib.join m [32]
 | [], _, h, _ => absurd rfl h
 | x :: r, [], _, h => absurd rfl h
 | [x], y :: m, _, _ => by
  rw [List.singleton_append, Lib.join_cons, Lib.join_cons y m, Lib.join_one]
  simp [Lib.joinTail]
 | x :: z :: r, y :: m, _, h => by
  have ih := @kz (z :: r) (y :: m) (by simp) h
  rw [List.cons_append, Lib.join_cons, Lib.join_cons x]
  have g : ∀ (a : List UInt8) (t : List (List UInt8)), Lib.joinTail [32] (a :: t) = 32 :: Lib.join (a :: t) [32] := fun a t => by rw [Lib.join_cons]; simp [Lib.joinTail]
  rw [List.cons_append, g, ← List.cons_append, ih, g]
  simp
theorem uE : ∀ (L : List (List (List UInt8))), (∀ b ∈ L, b ≠ []) → Lib.join (L.map fun b => Lib.join b [32]) [32] = Lib.join L.flatten [32]
 | [], _ => rfl
 | [b], _ => by simp [Lib.join_one]
 | b :: c :: L, h => by
  have hf : (c :: L).flatten ≠ [] := by
   have := h c (by simp)
   simp [this]
  have e : (b :: c :: L).flatten = b ++ (c :: L).flatten := rfl
  rw [e, kz (h b (by simp)) hf, ← uE (c :: L) (fun x hx => h x (by simp [hx]))]
  have e2 : (b :: c :: L).map (fun b => Lib.join b [32]) = [Lib.join b [32]] ++ (c :: L).map (fun b => Lib.join b [32]) := rfl
  rw [e2, kz (by simp) (by simp), Lib.join_one]
def gP (w : List Ed) : List (List UInt8) := w.flatMap fun e => [59] :: e.words
def aZ : List Ed → List (List UInt8)
 | [] => []
 | e :: w => e.words ++ gP w
def sU (w : List Ed) (i : Nat) : List (List (List UInt8)) := (w.zipIdx i).flatMap fun x => if x.2 = 0 then [x.1.words] else [[[59]], x.1.words]
theorem uF : ∀ (w : List Ed) (i : Nat), 0 < i → (sU w i).flatten = gP w
 | [], _, _ => rfl
 | e :: w, i, hi => by
  have ih := uF w (i + 1) (by omega)
  unfold sU at ih ⊢
  rw [List.zipIdx_cons, List.flatMap_cons, if_neg (by show ¬ i = 0; omega), List.flatten_append, ih]
  simp [gP]
theorem zi (w : List Ed) : (sU w 0).flatten = aZ w := by
 cases w with
 | nil => rfl
 | cons e w =>
  have ih := uF w 1 (by omega)
  unfold sU at ih ⊢
  rw [List.zipIdx_cons, List.flatMap_cons, if_pos rfl, List.flatten_append, ih]
  simp [aZ]
theorem zk {w : List Ed} (h : ∀ e ∈ w, e.ok) : (sU w 0).map (fun b => Lib.join b [32]) = bg w := by
 have g : ∀ (w : List Ed) (i : Nat), (∀ e ∈ w, e.ok) → (sU w i).map (fun b => Lib.join b [32]) = (w.zipIdx i).flatMap fun x => ek x.1 x.2 := by
  intro w
  induction w with
  | nil => intro i _; rfl
  | cons e w ih =>
   intro i h
   have ih := ih (i + 1) (fun x hx => h x (by simp [hx]))
   unfold sU at ih ⊢
   rw [List.zipIdx_cons, List.flatMap_cons, List.flatMap_cons, List.map_append, ih]
   congr 1
   unfold ek
   rw [Ed.text_ok (h e (by simp))]
   split
   ·rfl
   ·simp [Lib.join_one]; rfl
 exact g w 0 h
theorem Ec (w : List Ed) (i : Nat) : ∀ b ∈ sU w i, b ≠ [] := by
 intro b hb
 unfold sU at hb
 obtain ⟨x, _, hx⟩ := List.mem_flatMap.1 hb
 split at hx
 ·simp only [List.mem_cons, List.not_mem_nil, or_false] at hx; subst hx; simp [Ed.words]
 ·simp only [List.mem_cons, List.not_mem_nil, or_false] at hx
  rcases hx with rfl | rfl
  ·simp
  ·simp [Ed.words]
def Crt.words (c : Crt) : List (List UInt8) := ah c.k :: ((if aR c.k then [Lib.decDigits c.p.toNat, Lib.decDigits c.q.toNat] else []) ++ c.o.map (fun n => Lib.decDigits n.toNat) ++ aZ c.w)
theorem Crt.told_words {c : Crt} (h : ∀ e ∈ c.w, e.ok) : c.told = Lib.join c.words [32] := by
 obtain ⟨L, hL⟩ : ∃ L : List (List (List UInt8)), L = [ah c.k] :: ((if aR c.k then [[Lib.decDigits c.p.toNat], [Lib.decDigits c.q.toNat]] else []) ++ c.o.map (fun n => [Lib.decDigits n.toNat]) ++ sU c.w 0) := ⟨_, rfl⟩
 have h1 : L.map (fun b => Lib.join b [32]) = c.parts := by
  rw [hL]
  unfold Crt.parts
  rw [List.map_cons, List.map_append, List.map_append, zk h, Lib.join_one, List.map_map]
  have e1 : ((fun b => Lib.join b [32]) ∘ fun n : Int => [Lib.decDigits n.toNat]) = fun n : Int => Lib.decDigits n.toNat := by funext n; simp [Lib.join_one]
  rw [e1]
  split <;> simp [Lib.join_one]
 have h2 : L.flatten = c.words := by
  rw [hL]
  unfold Crt.words
  rw [List.flatten_cons, List.flatten_append, List.flatten_append, zi]
  have e1 : (c.o.map (fun n => [Lib.decDigits n.toNat])).flatten = c.o.map (fun n => Lib.decDigits n.toNat) := by
   induction c.o with
   | nil => rfl
   | cons a l ih => simp [ih]
  rw [e1]
  split <;> simp
 have h3 : ∀ b ∈ L, b ≠ [] := by
  intro b hb
  rw [hL] at hb
  simp only [List.mem_cons, List.mem_append, List.mem_map] at hb
  rcases hb with rfl | (hb | ⟨n, _, rfl⟩) | hb
  ·simp
  ·split at hb
   ·simp only [List.mem_cons, List.not_mem_nil, or_false] at hb
    rcases hb with rfl | rfl <;> simp
   ·cases hb
  ·simp
  ·exact Ec _ _ b hb
 unfold Crt.told
 rw [← h1, uE L h3, h2]
theorem lZ (k : Int) : (32 : UInt8) ∉ ah k := by unfold ah; split <;> (try split) <;> (try split) <;> decide
theorem rz {w : List Ed} (h : ∀ e ∈ w, e.ok) : ∀ x ∈ aZ w, (32 : UInt8) ∉ x := by
 have one : ∀ e : Ed, e.ok → ∀ x ∈ e.words, (32 : UInt8) ∉ x := by
  intro e he x hx
  simp only [Ed.words, List.mem_cons, List.not_mem_nil, or_false] at hx
  rcases hx with rfl | rfl | rfl | rfl | rfl | rfl | rfl
  ·exact aY (by decide)
  ·exact ug _
  ·exact aY (by decide)
  ·exact aY (by decide)
  ·exact iR (by decide) (by decide)
  ·exact iR (by decide) (by decide)
  ·exact pE he.2.2.2.2 (by decide) (by decide)
 cases w with
 | nil => intro x hx; cases hx
 | cons e w =>
  intro x hx
  rcases List.mem_append.1 hx with hx | hx
  ·exact one e (h e (by simp)) x hx
  ·obtain ⟨d, hd, hx⟩ := List.mem_flatMap.1 hx
   rcases List.mem_cons.1 hx with rfl | hx
   ·decide
   ·exact one d (h d (by simp [hd])) x hx
theorem Crt.cuts {c : Crt} (h : ∀ e ∈ c.w, e.ok) : cuts 32 c.told = c.words := by
 rw [Crt.told_words h]
 refine gT (by simp [Crt.words]) fun x hx => ?_
 unfold Crt.words at hx
 simp only [List.mem_cons, List.mem_append, List.mem_map] at hx
 rcases hx with rfl | (hx | ⟨n, _, rfl⟩) | hx
 ·exact lZ _
 ·split at hx
  ·simp only [List.mem_cons, List.not_mem_nil, or_false] at hx
   rcases hx with rfl | rfl <;> exact aY (by decide)
  ·cases hx
 ·exact aY (by decide)
 ·exact rz h x hx
theorem Ed.words_inj {d e : Ed} (hd : d.ok) (he : e.ok) (h : d.words = e.words) : d = e := Ed.inj hd he (by unfold Ed.told; rw [h])
theorem rA : ∀ {l m : List Ed}, (∀ e ∈ l, e.ok) → (∀ e ∈ m, e.ok) → gP l = gP m → l = m
 | [], [], _, _, _ => rfl
 | [], e :: m, _, _, h => by simp [gP] at h
 | e :: l, [], _, _, h => by simp [gP] at h
 | d :: l, e :: m, h1, h2, h => by
  unfold gP at h
  rw [List.flatMap_cons, List.flatMap_cons, List.cons_append, List.cons_append] at h
  simp only [List.cons.injEq, true_and] at h
  have hl : d.words.length = e.words.length := rfl
  rw [Ed.words_inj (h1 d (by simp)) (h2 e (by simp)) (List.append_inj_left h hl), rA (fun x hx => h1 x (by simp [hx])) (fun x hx => h2 x (by simp [hx])) (List.append_inj_right h hl)]
theorem xD : ∀ {l m : List Ed}, (∀ e ∈ l, e.ok) → (∀ e ∈ m, e.ok) → aZ l = aZ m → l = m
 | [], [], _, _, _ => rfl
 | [], e :: m, _, _, h => by simp [aZ, Ed.words] at h
 | e :: l, [], _, _, h => by simp [aZ, Ed.words] at h
 | d :: l, e :: m, h1, h2, h => by
  unfold aZ at h
  have hl : d.words.length = e.words.length := rfl
  rw [Ed.words_inj (h1 d (by simp)) (h2 e (by simp)) (List.append_inj_left h hl), rA (fun x hx => h1 x (by simp [hx])) (fun x hx => h2 x (by simp [hx])) (List.append_inj_right h hl)]
theorem xE : ∀ {l m : List Int}, (∀ n ∈ l, 0 ≤ n) → (∀ n ∈ m, 0 ≤ n) → (l.map fun n => Lib.decDigits n.toNat) = (m.map fun n => Lib.decDigits n.toNat) → l = m
 | [], [], _, _, _ => rfl
 | [], _ :: _, _, _, h => by simp at h
 | _ :: _, [], _, _, h => by simp at h
 | a :: l, b :: m, h1, h2, h => by
  simp only [List.map_cons, List.cons.injEq] at h
  have := h1 a (by simp); have := h2 b (by simp); have := bM h.1
  rw [show a = b from by omega, xE (fun x hx => h1 x (by simp [hx])) (fun x hx => h2 x (by simp [hx])) h.2]
theorem xG {j k : Int} (j1 : 1 ≤ j) (j5 : j < 5) (k1 : 1 ≤ k) (k5 : k < 5) (h : ah j = ah k) : j = k := by
 obtain rfl | rfl | rfl | rfl : j = 1 ∨ j = 2 ∨ j = 3 ∨ j = 4 := by omega
 all_goals (obtain rfl | rfl | rfl | rfl : k = 1 ∨ k = 2 ∨ k = 3 ∨ k = 4 := by omega)
 all_goals first | rfl | exact absurd h (by decide)
theorem Crt.told_inj {c d : Crt} (hc : c.right = true) (hd : d.right = true) (h : c.told = d.told) : c = d := by
 obtain ⟨r1, r2, r3, r4, r5, r6, r7, r8, r9, r10, r11⟩ := Crt.nil_of hc
 obtain ⟨s1, s2, s3, s4, s5, s6, s7, s8, s9, s10, s11⟩ := Crt.nil_of hd
 have g := Crt.cuts r9
 rw [h, Crt.cuts s9] at g
 unfold Crt.words at g
 simp only [List.cons.injEq] at g
 obtain ⟨g0, g⟩ := g
 have hk := xG s4 s5 r4 r5 g0
 obtain ⟨k, o, p, q, w⟩ := c
 obtain ⟨k', o', p', q', w'⟩ := d
 simp only at hk r1 r2 r3 r4 r5 r6 r7 r8 r9 s1 s2 s3 s4 s5 s6 s7 s8 s9 g
 subst hk
 by_cases h1 : k' = 1
 ·subst h1
  have e2 : w = [] := r2.resolve_left (by omega)
  have e3 : w' = [] := s2.resolve_left (by omega)
  have e4 := r3.resolve_left (by omega)
  have e5 := s3.resolve_left (by omega)
  subst e2 e3
  simp [aR, aZ] at g
  rw [xE r8 s8 (by simpa using g.symm), e4.1, e4.2, e5.1, e5.2]
 ·have e2 : o = [] := r1.resolve_left h1
  have e3 : o' = [] := s1.resolve_left h1
  subst e2 e3
  by_cases h4 : k' = 4
  ·subst h4
   have e4 := r3.resolve_left (by omega)
   have e5 := s3.resolve_left (by omega)
   simp [aR] at g
   rw [xD r9 s9 g.symm, e4.1, e4.2, e5.1, e5.2]
  ·have e4 : w = [] := r2.resolve_left h4
   have e5 : w' = [] := s2.resolve_left h4
   subst e4 e5
   have hs : aR k' = true := by
    unfold aR
    obtain rfl | rfl : k' = 2 ∨ k' = 3 := by omega
    all_goals rfl
   simp [hs, aZ] at g
   have q1 := bM g.1
   have q2 := bM g.2
   rw [show p = p' from by omega, show q = q' from by omega]
theorem Crt.told_ne (c : Crt) : c.told ≠ [] := by
 unfold Crt.told Crt.parts
 rw [Lib.join_cons]
 intro h
 have := (List.append_eq_nil_iff.1 h).1
 revert this
 unfold ah
 split <;> (try split) <;> (try split) <;> simp
open Classical in
noncomputable def crtRead (s : List UInt8) : Option Crt := if h : ∃ c : Crt, c.right = true ∧ c.nums ∧ c.told = s then some h.choose else none
theorem ib {s : List UInt8} {c : Crt} : crtRead s = some c ↔ c.right = true ∧ c.nums ∧ c.told = s := by
 unfold crtRead
 constructor
 ·intro h
  split at h
  ·rename_i hx; injection h with h; subst h; exact hx.choose_spec
  ·cases h
 ·intro h
  have hx : ∃ c : Crt, c.right = true ∧ c.nums ∧ c.told = s := ⟨c, h⟩
  rw [dif_pos hx]
  have := hx.choose_spec
  exact congrArg some (Crt.told_inj this.1 h.1 (this.2.2.trans h.2.2.symm))
theorem mV {s : List UInt8} (h : ∀ c : Crt, c.right = true → c.nums → c.told ≠ s) : crtRead s = none := by
 cases e : crtRead s with
 | none => rfl
 | some c => obtain ⟨h1, h2, h3⟩ := ib.1 e; exact absurd h3 (h c h1 h2)
theorem oI {s : List UInt8} {c : Crt} (hs : s ≠ []) (hn : c.nums) (h : ∀ q : Crt, q.right = true → q.nums → q.told = s → c = q) : crtRead s = if c.text = s then some c else none := by
 by_cases ht : c.text = s
 ·rw [if_pos ht]
  unfold Crt.text at ht
  split at ht
  ·rename_i ho; exact ib.2 ⟨ho, hn, ht⟩
  ·exact absurd ht.symm hs
 ·rw [if_neg ht]
  refine mV fun q h1 h2 h3 => ht ?_
  rw [h q h1 h2 h3]
  unfold Crt.text
  rw [if_pos h1]; exact h3
theorem iW : crtRead [] = none := mV fun c _ _ h => c.told_ne h
end Go.Proofs.YtagnalfkmdjajaaGreatDoor
