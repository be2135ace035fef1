/- Rows of items that are only read. -/
import Derived.Test.YtlpgokcapdjgjaaGreatDoorY20
import Derived.Test.YtlpgokcapdjgjaaGreatDoorY10
import Derived.RangeFuncNested
import Derived.RangeFuncBound
import Derived.RangeFuncCalls
import Derived.RangeFuncLeaves
import Derived.OwnWalkIn
import Derived.OrdersIn
namespace Go.Proofs.YtlpgokcapdjgjaaGreatDoor
open Go.RowKit Go
set_option linter.unusedVariables false
set_option linter.unusedSimpArgs false
structure Tc (c : Nat) (w w' : World) : Prop where
 os : w'.os = w.os
 tape : w'.tape = w.tape
 output : w'.output = w.output
 size : w.1.size ≤ w'.1.size
 keep : ∀ b, b < w.1.size → b ≠ c → w'.1[b]? = w.1[b]?
theorem Tc.trans {c : Nat} {x y z : World} (h : Tc c x y) (k : Tc c y z) : Tc c x z :=
 ⟨k.os.trans h.os, k.tape.trans h.tape, k.output.trans h.output, Nat.le_trans h.size k.size, fun b hb hn => (k.keep b (by have := h.size; omega) hn).trans (h.keep b hb hn)⟩
theorem Tc.of_below {c : Nat} {w w' : World} (h : Below w.1.size w w') : Tc c w w' := ⟨h.os, h.tape, h.output, h.size, fun b hb _ => h.block b hb⟩
theorem Tc.put {w : World} (l : Nat) (o : Obj) : Tc l w (w.putObj l o) :=
 ⟨rfl, rfl, rfl, by simp, fun b hb hn => World.putObj_heap_other hn⟩
theorem Tc.set (c o : Nat) (w : World) (v : Value) : Tc c w (w.setCell ⟨c, o, none⟩ v) :=
 let h : Below c w (w.setCell ⟨c, o, none⟩ v) := (Below.refl c w).setCell nl v
 ⟨h.os, h.tape, h.output, h.size, fun b hb hn => ay _ _ _ _ hn⟩
def AbC {β : Type} (c : Nat) (J : β → World → Prop) : Prop := ∀ s W W', J s W → Tc c W W' → J s W'
def GH {α : Type} (F : Fence) (n : Nat) (P : Program) (g : Nat) (lb : Array Value) (encs : α → Array Value) (Hx : Nat → α → World → Prop) (Kp : Nat → World → World → Prop) (S Sp : List α → Prop) (N : Nat) (c : Nat → Nat) (w : World) : Prop :=
 ∀ (l : Nat) (J Jx : List α → World → Prop) (W : World), Below w.1.size w W → AbC (c W.1.size) J → AbC (c W.1.size) Jx →
  (∀ pre x W1, J pre W1 → pre.length < N → c W.1.size < W1.1.size → Hx (c W.1.size) x W1 → YieldAt F (n - 1) P l (encs x) W1 fun e W' =>
   (e = .returned (.bool true) ∧ J (pre ++ [x]) W' ∧ Kp (c W.1.size) W1 W') ∨ (e = .returned (.bool false) ∧ Jx (pre ++ [x]) W')) →
  J [] W →
  CallsIn F n P g (#[.func (.yield l) #[] #[]] ++ lb) W fun e W' => (∃ v, e = .returned v) ∧ ((∃ xs, S xs ∧ J xs W') ∨ (∃ pre, Sp pre ∧ Jx pre W'))
def Kr (b : Nat) (W W' : World) : Prop := W'.1[b]? = W.1[b]? ∧ W'.1[b + 1]? = W.1[b + 1]?
theorem Kr.refl (b : Nat) (W : World) : Kr b W W := ⟨rfl, rfl⟩
def postC {α : Type} (b : Nat) (Kp : World → World → Prop) (I : List α → World → Prop) (Ix : Code → List α → World → Prop) (xs : List α) (W : World) : Exit → Act → World → Prop
 | .normal, _, W' => Kr b W W' ∧ Kp W W' ∧ I xs W'
 | .ret, _, W' => Kr b W W' ∧ Ix .ret xs W'
 | .exit id, _, W' => Kr b W W' ∧ Ix (.exit id) xs W'
 | .goto t, _, W' => Kr b W W' ∧ Ix (.goto t) xs W'
 | .panic _, _, _ => False
 | .outgrown, _, _ => False
section
variable {F : Fence} {n : Nat} {P : Program}
theorem BG {α : Type} {g : Operand} {ps : Array Tmp} {assign body : Code} {Q : Exit → Act → World → Prop} {a : Act} {w : World}
  (hro : F.round = none) (h1 : 1 ≤ n) {gf : Nat} {lb : Array Value} (hg : a.eval g = .func (.func gf) #[] lb) (hFg : F.fn gf) (eg : ∀ args w, (callFunc gf args).run P w = .ok (.enter gf args) w)
  {encs : α → Array Value} {Hx : Nat → α → World → Prop} {Kp : Nat → World → World → Prop} {S Sp : List α → Prop} {N : Nat} {c : Nat → Nat} {w0 : World} (hseq : GH F (n - 1) P gf lb encs Hx Kp S Sp N c w0)
  (hc : c (w.1.size + 2) ≠ w.1.size ∧ c (w.1.size + 2) ≠ w.1.size + 1)
  (hKt : ∀ {A B C : World}, Kp (c (w.1.size + 2)) A B → Kp (c (w.1.size + 2)) B C → Kp (c (w.1.size + 2)) A C) (hKb : ∀ (W : World) (o : Obj), Kp (c (w.1.size + 2)) W (W.putObj (w.1.size + 1) o)) (hb0 : Below w0.1.size w0 w) (hps : ∀ x, (encs x).size = ps.size)
  (I : List α → World → Prop) (Ix : Code → List α → World → Prop) (hI : ∀ b, b = c (w.1.size + 2) ∨ b = w.1.size + 1 → AbC b I) (hIx : ∀ b cd, b = c (w.1.size + 2) ∨ b = w.1.size + 1 → AbC b (Ix cd)) (h0 : I [] w)
  (Ax : α → Act → World → Prop) (hAx : ∀ x a', AbC (w.1.size + 1) (fun (_ : Unit) W => Ax x a' W))
  (hassign : ∀ (l : Nat) (pre : List α) (x : α) (W : World) (K : Act → World → Prop), I pre W → c (w.1.size + 2) < W.1.size → Hx (c (w.1.size + 2)) x W → (∀ a' W', Kr w.1.size W W' → Kp (c (w.1.size + 2)) W W' → I pre W' → Ax x a' W' → K a' W') →
   assign.wpIn (F.inRound l) (n - 1 - 1) P (Exit.then K (fun _ _ _ => False)) { tmps := (ps.zip (encs x)).foldl (fun t (p, v) => t.setIfInBounds p v) a.tmps, defers := [] } W)
  (hbody : ∀ (l : Nat) (pre : List α) (x : α) (a' : Act) (W : World), w.1.size + 2 ≤ W.1.size → I pre W → Ax x a' W → pre.length < N → body.wpIn (F.inRound l) (n - 1 - 1) P (postC w.1.size (Kp (c (w.1.size + 2))) I Ix (pre ++ [x]) W) a' W)
  (hdone : ∀ (xs : List α) (W : World), S xs → I xs W → W.1[w.1.size]? = some (.deferred (some [])) → Q .normal { a with defers := { target := .collected w.1.size, args := #[] } :: a.defers } W)
  (hstop : ∀ (cd : Code) (pre : List α) (W : World), Sp pre → Ix cd pre W → W.1[w.1.size]? = some (.deferred (some [])) → cd.wpIn F n P Q { a with defers := { target := .collected w.1.size, args := #[] } :: a.defers } W) :
  (Code.rangeFunc g ps assign body).wpIn F n P Q a w := by
 refine wpIn_rangeFunc fun fn hfn => ?_
 rw [hro]
 let rc : LoopState → Option Code → Obj := fun st pe => .loop { state := st, pending := pe, fn, tmps := a.tmps, params := ps, assign, body, defers := w.1.size }
 obtain ⟨V, hV⟩ : ∃ V, V = (w.alloc (.deferred (some []))).alloc (rc .ready none) := ⟨_, rfl⟩;have hVb : Below w.1.size w V := by rw [hV]; exact ((Below.refl _ w).alloc nl _).alloc (by simp) _
 have hVs : V.1.size = w.1.size + 2 := by rw [hV]; simp
 have hVl : V.1[w.1.size + 1]? = some (rc .ready none) := by
  rw [hV];have h := World.alloc_heap_new (w.alloc (.deferred (some []))) (rc .ready none)
  rwa [aD] at h
 have hVk : V.1[w.1.size]? = some (.deferred (some [])) := by
  rw [hV];exact (az _ _ _ (by simp)).trans (World.alloc_heap_new w _)
 refine ⟨w.1.size + 1, [{ target := .collected w.1.size, args := #[] }], V, { target := .fn (.func gf) lb, args := #[.func (.yield (w.1.size + 1)) #[] #[]] }, V, gf, #[.func (.yield (w.1.size + 1)) #[] #[]] ++ lb, V, ?_, ?_, ?_, ?_, fun _ => h1, ?_⟩
 ·rw [hV]; exact run_enterLoop_outer _ _ _ _ _
 ·simp only [resolve, hg]
  simp [go_sem]
 ·intro f' hf'
  simp [Target.leads] at hf';subst hf';exact hFg
 ·simp [invoke, go_sem, eg]
 have hc1 : c V.1.size ≠ w.1.size + 1 := by rw [hVs]; exact hc.2
 have hc0 : c V.1.size ≠ w.1.size := by rw [hVs]; exact hc.1
 have hIc : AbC (c V.1.size) I := by rw [hVs]; exact hI _ (.inl rfl)
 have hIl : AbC (w.1.size + 1) I := hI _ (.inr rfl);have hcV : c V.1.size = c (w.1.size + 2) := by rw [hVs]
 refine (hseq (w.1.size + 1) (fun pre W => I pre W ∧ W.1[w.1.size + 1]? = some (rc .ready none) ∧ W.1[w.1.size]? = some (.deferred (some [])))
  (fun pre W => ∃ cd, Ix cd pre W ∧ W.1[w.1.size + 1]? = some (rc .done (some cd)) ∧ W.1[w.1.size]? = some (.deferred (some []))) V (hb0.trans (hVb.mono hb0.size)) ?_ ?_ ?_ ⟨hIl _ _ _ h0 (Tc.of_below hVb), hVl, hVk⟩).mono ?_
 ·rintro s W W' ⟨i1, i2, i3⟩ ht
  have l2 := (ak i2).1;exact ⟨hIc _ _ _ i1 ht, (ht.keep _ l2 hc1.symm).trans i2, (ht.keep _ (by omega) hc0.symm).trans i3⟩
 ·rintro s W W' ⟨cd, i1, i2, i3⟩ ht
  have l2 := (ak i2).1;exact ⟨cd, hIx _ cd (.inl (by rw [hVs])) _ _ _ i1 ht, (ht.keep _ l2 hc1.symm).trans i2, (ht.keep _ (by omega) hc0.symm).trans i3⟩
 ·-- a round
  rintro pre x W ⟨i1, i2, i3⟩ hlen hcl hhx;refine ⟨fn, _, assign, body, run_yield (P := P) (args := encs x) i2 (hps x), roundIn_of_wpIn hfn (hassign _ pre x W _ i1 (by rw [← hcV]; exact hcl) (by rw [← hcV]; exact hhx) fun a' Wa k1 k2 k3 k4 => ?_)⟩;have j2 := k1.2.trans i2;have j3 := k1.1.trans i3;have lt := (ak j2).1;refine ⟨_, run_beginRound j2 rfl, ?_⟩;have hT : Tc (w.1.size + 1) Wa (Wa.putObj (w.1.size + 1) (rc .busy none)) := Tc.put _ _;refine wpIn_mono (hbody _ pre x a' _ (by simp; omega) (hIl _ _ _ k3 hT) (hAx x a' () _ _ k4 hT) hlen) ?_;have m2 : (Wa.putObj (w.1.size + 1) (rc .busy none)).1[w.1.size + 1]? = some (rc .busy none) := World.putObj_heap_same lt;have m3 : (Wa.putObj (w.1.size + 1) (rc .busy none)).1[w.1.size]? = some (.deferred (some [])) := (World.putObj_heap_other (by omega)).trans j3;have fin : ∀ (j : Option Code) (X : World), Kr w.1.size (Wa.putObj (w.1.size + 1) (rc .busy none)) X →
    (Instr.endRound (w.1.size + 1) j).run P X = .ok (.bool j.isNone) (X.putObj (w.1.size + 1) (rc (if j.isNone then .ready else .done) j)) ∧
    (X.putObj (w.1.size + 1) (rc (if j.isNone then .ready else .done) j)).1[w.1.size + 1]? = some (rc (if j.isNone then .ready else .done) j) ∧
    (X.putObj (w.1.size + 1) (rc (if j.isNone then .ready else .done) j)).1[w.1.size]? = some (.deferred (some [])) := fun j X hX => by
   have n2 := hX.2.trans m2;exact ⟨run_endRound (P := P) j n2, World.putObj_heap_same (ak n2).1, (World.putObj_heap_other (by omega)).trans (hX.1.trans m3)⟩
  rintro e a3 X hp;cases e with
  | normal =>
   obtain ⟨q1, q2, q3⟩ := hp;obtain ⟨f1, f2, f3⟩ := fin none X q1;exact ⟨_, _, f1, .inl ⟨rfl, ⟨hIl _ _ _ q3 (Tc.put _ _), f2, f3⟩, by rw [hcV]; exact hKt k2 (hKt (hKt (hKb _ _) q2) (hKb _ _))⟩⟩
  | ret =>
   obtain ⟨q1, q3⟩ := hp;obtain ⟨f1, f2, f3⟩ := fin (some .ret) X q1;exact ⟨_, _, f1, .inr ⟨rfl, .ret, hIx _ _ (.inr rfl) _ _ _ q3 (Tc.put _ _), f2, f3⟩⟩
  | exit id =>
   obtain ⟨q1, q3⟩ := hp;obtain ⟨f1, f2, f3⟩ := fin (some (.exit id)) X q1;exact ⟨_, _, f1, .inr ⟨rfl, .exit id, hIx _ _ (.inr rfl) _ _ _ q3 (Tc.put _ _), f2, f3⟩⟩
  | goto t =>
   obtain ⟨q1, q3⟩ := hp;obtain ⟨f1, f2, f3⟩ := fin (some (.goto t)) X q1;exact ⟨_, _, f1, .inr ⟨rfl, .goto t, hIx _ _ (.inr rfl) _ _ _ q3 (Tc.put _ _), f2, f3⟩⟩
  | panic ch => exact hp.elim
  | outgrown => exact hp.elim
 ·-- behind the iterator
  rintro e X ⟨⟨v, rfl⟩, (⟨xs, hS, i1, i2, i3⟩ | ⟨pre, hSp, cd, i1, i2, i3⟩)⟩
  ·exact ⟨none, _, run_endLoop (P := P) i2 (by simp), hdone xs _ hS (hIl _ _ _ i1 (Tc.put _ _)) ((World.putObj_heap_other (by omega)).trans i3)⟩
  ·exact ⟨some cd, _, run_endLoop (P := P) i2 (by simp), hstop cd pre _ hSp (hIx _ _ (.inr rfl) _ _ _ i1 (Tc.put _ _)) ((World.putObj_heap_other (by omega)).trans i3)⟩
end
def bu (w : World) (A : Nat → Prop) : Nat → Nat → List Rec → List Value → Prop
 | lo, hi, [], xs => xs = [] ∧ lo ≤ hi
 | lo, hi, r :: rs, xs => ∃ (cs : Array Value) (mid : Nat) (rest : List Value), xs = cs.toList ++ rest ∧ cs.size = 11 ∧ lo ≤ mid ∧ bL w (fun b => A b ∧ lo ≤ b ∧ b < mid) true r (.agg cs) ∧ bu w A mid hi rs rest
theorem bu.le {w : World} {A : Nat → Prop} : ∀ {lo hi : Nat} {rs : List Rec} {xs : List Value}, bu w A lo hi rs xs → lo ≤ hi
 | lo, hi, [], xs, h => h.2
 | lo, hi, r :: rs, xs, h => by
  obtain ⟨cs, mid, rest, _, _, h1, _, h2⟩ := h;exact Nat.le_trans h1 h2.le
theorem bu.length {w : World} {A : Nat → Prop} : ∀ {lo hi : Nat} {rs : List Rec} {xs : List Value}, bu w A lo hi rs xs → xs.length = rs.length * 11
 | lo, hi, [], xs, h => by rw [h.1]; rfl
 | lo, hi, r :: rs, xs, h => by
  obtain ⟨cs, mid, rest, rfl, hc, _, _, h2⟩ := h;have := h2.length;have hcl : cs.toList.length = 11 := by simpa using hc
  rw [aI, hcl, this, aJ];omega
theorem iJ {w : World} {S : Nat → Prop} {own : Bool} {r : Rec} {cs : Array Value} (h : bL w S own r (.agg cs)) : cs.size = 11 ∧ ∀ u ∈ cs.toList, u.oneCell' = true := by
 obtain ⟨_, _, _, _, _, _, _, _, e, _⟩ := h.conc;injection e with e
 subst e;exact ⟨rfl, by simp [Value.oneCell']⟩
theorem bu.keep {w w' : World} {A A' : Nat → Prop} {L H : Nat} (hk : ∀ b, A b → L ≤ b → b < H → b < w.1.size → w'.1[b]? = w.1[b]?) (hA : ∀ b, b < w.1.size → A b → L ≤ b → b < H → A' b) : ∀ {lo hi : Nat} {rs : List Rec} {xs : List Value}, L ≤ lo → hi ≤ H → bu w A lo hi rs xs → bu w' A' lo hi rs xs
 | lo, hi, [], xs, _, _, h => h
 | lo, hi, r :: rs, xs, hl, hh, h => by
  obtain ⟨cs, mid, rest, e, hc, h0, h1, h2⟩ := h;have hm := h2.le;exact ⟨cs, mid, rest, e, hc, h0, h1.keep (fun b hb hlt => hk b hb.1 (by omega) (by omega) hlt) (fun b hlt hb => ⟨hA b hlt hb.1 (by omega) (by omega), hb.2⟩), bu.keep hk hA (by omega) hh h2⟩
theorem bu.snoc {w : World} {A : Nat → Prop} {mid hi : Nat} {q : Rec} {cs : Array Value} (hq : bL w (fun b => A b ∧ mid ≤ b ∧ b < hi) true q (.agg cs)) (hm : mid ≤ hi) : ∀ {lo : Nat} {rs : List Rec} {xs : List Value}, bu w A lo mid rs xs → bu w A lo hi (rs ++ [q]) (xs ++ cs.toList)
 | lo, [], xs, h => by
  obtain ⟨rfl, hl⟩ := h;exact ⟨cs, hi, [], by simp, (iJ hq).1, by omega, hq.wider (fun b _ hb => ⟨hb.1, by omega, hb.2.2⟩), rfl, Nat.le_refl _⟩
 | lo, r :: rs, xs, h => by
  obtain ⟨c0, m0, rest, rfl, hc, h0, h1, h2⟩ := h;exact ⟨c0, m0, rest ++ cs.toList, by simp, hc, h0, h1, bu.snoc hq hm h2⟩
theorem bu.at {w : World} {A : Nat → Prop} : ∀ {lo hi : Nat} {rs : List Rec} {xs : List Value}, bu w A lo hi rs xs → ∀ i (h : i < rs.length),
  ∃ (cs : Array Value) (m m' : Nat), (xs.drop (i * 11)).take 11 = cs.toList ∧ cs.size = 11 ∧ lo ≤ m ∧ m ≤ m' ∧ m' ≤ hi ∧ bL w (fun b => A b ∧ m ≤ b ∧ b < m') true rs[i] (.agg cs) ∧ bu w A m' hi (rs.drop (i + 1)) (xs.drop ((i + 1) * 11))
 | lo, hi, r :: rs, xs, h, 0, _ => by
  obtain ⟨cs, mid, rest, rfl, hc, h0, h1, h2⟩ := h;have hcl : cs.toList.length = 11 := by simpa using hc
  refine ⟨cs, lo, mid, by rw [Nat.zero_mul, List.drop_zero, List.take_left' hcl], hc, Nat.le_refl _, h0, h2.le, h1, ?_⟩;rw [show (0 + 1) * 11 = 11 from rfl, List.drop_left' hcl];exact h2
 | lo, hi, r :: rs, xs, h, i + 1, hi' => by
  obtain ⟨cs, mid, rest, rfl, hc, h0, h1, h2⟩ := h;have hcl : cs.toList.length = 11 := by simpa using hc
  obtain ⟨cs', m, m', e1, e2, e3, e4, e5, e6, e7⟩ := h2.at i (by simpa using hi');refine ⟨cs', m, m', ?_, e2, by omega, e4, e5, by simpa using e6, ?_⟩
  ·rw [show (i + 1) * 11 = 11 + i * 11 by omega, ← List.drop_drop, List.drop_left' hcl]; exact e1
  ·have e : (cs.toList ++ rest).drop ((i + 1 + 1) * 11) = rest.drop ((i + 1) * 11) := by
    rw [show (i + 1 + 1) * 11 = 11 + (i + 1) * 11 by omega, ← List.drop_drop, List.drop_left' hcl]
   rw [e];exact e7
def bE (w : World) (base : Nat) (T : TypeId) (sv : Value) (rs : List Rec) : Prop :=
 ∃ ys hi, hi ≤ w.1.size ∧ w.ownsRow base T 11 sv rs.length ys ∧ bu w (fun b => sv.ownBlock ≠ some b) base hi rs ys
theorem bE.nil (w : World) (base : Nat) (T : TypeId) (h : base ≤ w.1.size) : bE w base T (.slice none 0 0) [] := ⟨[], w.1.size, Nat.le_refl _, World.ownsRow_nil _ _ _ _, rfl, h⟩
theorem su {b base n sz : Nat} {T : TypeId} {v : Value} {xs : List Value} {w w' : World} (h : w.ownsRow base T sz v n xs) (ht : Tc b w w') (hb : b < base) : w'.ownsRow base T sz v n xs := by
 obtain ⟨h1, h2⟩ := h;refine ⟨h1, ?_⟩;rcases h2 with h2 | ⟨g, cap, cur, hv, hg, hh, r⟩
 ·exact Or.inl h2
 ·exact Or.inr ⟨g, cap, cur, hv, hg, (ht.keep g (ak hh).1 (by omega)).trans hh, r⟩
theorem bE.tc {b base : Nat} {T : TypeId} {sv : Value} {rs : List Rec} {w w' : World} (h : bE w base T sv rs) (ht : Tc b w w') (hb : b < base) : bE w' base T sv rs := by
 obtain ⟨ys, hi, h0, h1, h2⟩ := h;have hs := ht.size;exact ⟨ys, hi, by omega, su h1 ht hb, bu.keep (L := base) (H := hi) (fun k _ hk _ hl => ht.keep k hl (by omega)) (fun k _ ha _ _ => ha) nl nl h2⟩
theorem ik {b B : Nat} {w0 w w' : World} (h : Below B w0 w) (ht : Tc b w w') (hb : B ≤ b) (hB : B ≤ w.1.size) : Below B w0 w' :=
 h.trans ⟨ht.os, ht.tape, ht.output, ht.size, fun k hk => ht.keep k (by omega) (by omega)⟩
section
variable {F : Fence} {k : Nat} {P : Program} (w : World)
theorem lu {ops : Array Oper} {rest : List Oper} {o : Oper} {a : Act} {Q : Exit → Act → World → Prop} (hgd : o.guard = none) (s x : Operand) (t : TypeId)
  (ho : o.op = .call { callee := .builtin .append, args := #[s, x], argTypes := #[t, t] })
  (base : Nat) (e : TypeId) (i : TypeInfo) (z : Value) (size bytes : Nat) (ht : P.underlying t = some (.slice e)) (hi : P.info? e = some i) (hz : i.zero = some z)
  (hsize : i.size = size) (hby : i.bytes = bytes) (hzs : z.cells.size = size) (hsz : 0 < size)
  (v : Value) (n : Nat) (xs : List Value) (hs : a.eval s = v) (hown : w.ownsRow base e size v n xs)
  (ad : Addr) (m c : Nat) (news : List Value) (hx : a.eval x = .slice (some ad) m c) (hl : news.length = m * size) (hnews : ∀ j u, news[j]? = some u → w.cell? (ad.add j) = some u) (h1 : ∀ u ∈ news, u.oneCell' = true)
  (hm : 0 < m) (h63 : n + m ≤ maxLen) (hbytes : (n + m) * bytes ≤ 140737488355328) (hbase : base ≤ w.1.size) (H : Nat) (hH : w.1.size = H)
  (h : ∀ g cap w', w'.ownsRow base e size (.slice (some ⟨g, 0, none⟩) (n + m) cap) (n + m) (xs ++ news) → w.grownBy w' v.ownBlock → (v.ownBlock = some g ∨ g = H) → g < w'.1.size → wpListIn F k P ops Q rest (a.put o.dst (.slice (some ⟨g, 0, none⟩) (n + m) cap)) w') :
  wpListIn F k P ops Q (o :: rest) a w := by
 refine wpListIn_plain hgd fun K hK => ?_
 obtain ⟨g, cap, w', hr, h2, h3, h4, h5⟩ := run_append_lies (P := P) w t o.type base e i z size bytes ht hi hz hsize hby hzs hsz v n xs hown ad m c news hl hnews h1 hm h63 hbytes hbase H hH;unfold Oper.wpIn;refine ⟨by simp [Oper.about, ho, resolve, Target.leads, Sem.run_pure], ?_⟩;rw [Oper.semAt_plain F _ _ (by rw [ho]; intro c hc'; cases hc')];simp [execOp, ho, resolve, invoke, builtin, hs, hx, hr, Result.andThen];exact hK _ _ (h g cap w' h2 h3 h4 h5)
end
theorem bE.push' {wr w1 w1' w2 : World} {base B : Nat} {T : TypeId} {sv : Value} {rs : List Rec} {q : Rec} {cs : Array Value} {gg gcap : Nat} {ys : List Value} {hi : Nat}
  (hh : hi ≤ wr.1.size) (hown : wr.ownsRow base T 11 sv rs.length ys) (hrs : bu wr (fun b => sv.ownBlock ≠ some b) base hi rs ys)
  (hb1 : Below B wr w1) (hB : wr.1.size ≤ B) (hv : bL w1 (fun b => wr.1.size ≤ b) true q (.agg cs)) (hb2 : Below w1.1.size w1 w1') (hgrow : w1'.grownBy w2 sv.ownBlock)
  (hown2 : w2.ownsRow base T 11 (.slice (some ⟨gg, 0, none⟩) (rs.length + 1) gcap) (rs.length + 1) (ys ++ cs.toList)) (hat : sv.ownBlock = some gg ∨ w1.1.size ≤ gg) :
  bE w2 base T (.slice (some ⟨gg, 0, none⟩) (rs.length + 1) gcap) (rs ++ [q]) := by
 have hlt := hown.lt;have hs := hb1.size;have hs2 := hgrow.size;have hs1 := hb2.size;have hne : ∀ b, b < w1.1.size → sv.ownBlock ≠ some b → (Value.slice (some ⟨gg, 0, none⟩) (rs.length + 1) gcap).ownBlock ≠ some b := by
  intro b hb hn;simp only [Value.ownBlock, ne_eq, Option.some.injEq];intro e;subst e;rcases hat with h | h
  ·exact hn h
  ·omega
 refine ⟨ys ++ cs.toList, w1.1.size, by omega, by simpa using hown2, bu.snoc (mid := hi) ?_ (by omega) ?_⟩
 ·refine hv.keep (fun b hb hl => ?_) (fun b hl hb => ?_)
  ·have hb : wr.1.size ≤ b := hb
   exact (hgrow.block b (by omega) (fun h => by have := hlt b h.symm; omega)).trans (hb2.block b (by omega))
  ·have hb : wr.1.size ≤ b := hb
   exact ⟨hne b hl (fun h => by have := hlt b h; omega), by omega, hl⟩
 ·refine bu.keep (L := 0) (H := hi) (fun b ha _ hb hl => ?_) (fun b hl ha _ hb => hne b (by omega) ha) (by omega) nl hrs
  exact (hgrow.block b (by omega) (fun h => ha h.symm)).trans ((hb2.block b (by omega)).trans (hb1.block b (by omega)))
theorem sw : ∀ {l : List (List UInt8)} {rs : List Rec}, jD l = some rs → rs.length ≤ l.length
 | [], rs, h => by cases h; simp
 | x :: l, rs, h => by
  rw [jD] at h;split at h
  ·have := sw h
   simp only [aJ];omega
  ·obtain ⟨q, hq, h2⟩ := ae h
   obtain ⟨m, hm, rfl⟩ := aa h2;have := sw hm;simp only [aJ];omega
theorem bu.lo {w : World} {A : Nat → Prop} {lo lo' hi : Nat} (hl : lo' ≤ lo) : ∀ {rs : List Rec} {xs : List Value}, bu w A lo hi rs xs → bu w A lo' hi rs xs
 | [], xs, h => ⟨h.1, Nat.le_trans hl h.2⟩
 | r :: rs, xs, h => by
  obtain ⟨cs, mid, rest, e, hc, h0, h1, h2⟩ := h;exact ⟨cs, mid, rest, e, hc, Nat.le_trans hl h0, h1.wider (fun b _ hb => ⟨hb.1, by omega, hb.2.2⟩), h2⟩
theorem ko {w : World} {base base' n sz : Nat} {T : TypeId} {v : Value} {xs : List Value} (h : w.ownsRow base T sz v n xs) (hb : base' ≤ base) : w.ownsRow base' T sz v n xs := by
 obtain ⟨h1, h2⟩ := h;refine ⟨h1, ?_⟩;rcases h2 with h2 | ⟨g, cap, cur, hv, hg, r⟩
 ·exact Or.inl h2
 ·exact Or.inr ⟨g, cap, cur, hv, Nat.le_trans hb hg, r⟩
theorem bE.form {w : World} {base : Nat} {T : TypeId} {sv : Value} {rs : List Rec} (h : (sv = .slice none 0 0 ∧ rs = []) ∨ bE w base T sv rs) : ∃ ad cap, sv = .slice ad rs.length cap := by
 rcases h with ⟨rfl, rfl⟩ | ⟨ys, hi, _, ho, _⟩
 ·exact ⟨_, _, rfl⟩
 ·exact aQ ho
theorem bE.mk' {w : World} {base : Nat} {T : TypeId} {sv : Value} {rs : List Rec} (h : (sv = .slice none 0 0 ∧ rs = []) ∨ bE w base T sv rs) (hb : base ≤ w.1.size) : bE w base T sv rs := by
 rcases h with ⟨rfl, rfl⟩ | h
 ·exact bE.nil _ _ _ hb
 ·exact h
structure Item (α : Type) where
 k : Nat
 P : World → (Nat → Prop) → α → List Value → Prop
 len : ∀ {w S x cs}, P w S x cs → cs.length = k
 one : ∀ {w S x cs}, P w S x cs → ∀ u ∈ cs, u.oneCell' = true
 keep : ∀ {w w' S S' x cs}, P w S x cs → cz S w w' → (∀ b, b < w.1.size → S b → S' b) → P w' S' x cs
section
variable {α : Type} (I : Item α)
def fT (w : World) (A : Nat → Prop) : Nat → Nat → List α → List Value → Prop
 | lo, hi, [], xs => xs = [] ∧ lo ≤ hi
 | lo, hi, r :: rs, xs => ∃ (cs : List Value) (mid : Nat) (rest : List Value), xs = cs ++ rest ∧ lo ≤ mid ∧ I.P w (fun b => A b ∧ lo ≤ b ∧ b < mid) r cs ∧ fT w A mid hi rs rest
variable {I}
theorem fT.le {w : World} {A : Nat → Prop} : ∀ {lo hi : Nat} {rs : List α} {xs : List Value}, fT I w A lo hi rs xs → lo ≤ hi
 | lo, hi, [], xs, h => h.2
 | lo, hi, r :: rs, xs, h => by
  obtain ⟨cs, mid, rest, _, h1, _, h2⟩ := h;exact Nat.le_trans h1 h2.le
theorem fT.length {w : World} {A : Nat → Prop} : ∀ {lo hi : Nat} {rs : List α} {xs : List Value}, fT I w A lo hi rs xs → xs.length = rs.length * I.k
 | lo, hi, [], xs, h => by rw [h.1]; simp
 | lo, hi, r :: rs, xs, h => by
  obtain ⟨cs, mid, rest, rfl, _, h1, h2⟩ := h;rw [aI, I.len h1, h2.length, aJ, Nat.add_mul];omega
theorem fT.keep {w w' : World} {A A' : Nat → Prop} {L H : Nat} (hk : ∀ b, A b → L ≤ b → b < H → b < w.1.size → w'.1[b]? = w.1[b]?) (hA : ∀ b, b < w.1.size → A b → L ≤ b → b < H → A' b) : ∀ {lo hi : Nat} {rs : List α} {xs : List Value}, L ≤ lo → hi ≤ H → fT I w A lo hi rs xs → fT I w' A' lo hi rs xs
 | lo, hi, [], xs, _, _, h => h
 | lo, hi, r :: rs, xs, hl, hh, h => by
  obtain ⟨cs, mid, rest, e, h0, h1, h2⟩ := h;have hm := h2.le;exact ⟨cs, mid, rest, e, h0, I.keep h1 (fun b hb hlt => hk b hb.1 (by omega) (by omega) hlt) (fun b hlt hb => ⟨hA b hlt hb.1 (by omega) (by omega), hb.2⟩), fT.keep hk hA (by omega) hh h2⟩
theorem fT.snoc {w : World} {A : Nat → Prop} {mid hi : Nat} {q : α} {cs : List Value} (hq : I.P w (fun b => A b ∧ mid ≤ b ∧ b < hi) q cs) (hm : mid ≤ hi) : ∀ {lo : Nat} {rs : List α} {xs : List Value}, fT I w A lo mid rs xs → fT I w A lo hi (rs ++ [q]) (xs ++ cs)
 | lo, [], xs, h => by
  obtain ⟨rfl, hl⟩ := h;exact ⟨cs, hi, [], by simp, by omega, I.keep hq (fun _ _ _ => rfl) (fun b _ hb => ⟨hb.1, by omega, hb.2.2⟩), rfl, Nat.le_refl _⟩
 | lo, r :: rs, xs, h => by
  obtain ⟨c0, m0, rest, rfl, h0, h1, h2⟩ := h;exact ⟨c0, m0, rest ++ cs, by simp, h0, h1, fT.snoc hq hm h2⟩
theorem fT.at {w : World} {A : Nat → Prop} : ∀ {lo hi : Nat} {rs : List α} {xs : List Value}, fT I w A lo hi rs xs → ∀ i (h : i < rs.length),
  ∃ (cs : List Value) (m m' : Nat), (xs.drop (i * I.k)).take I.k = cs ∧ lo ≤ m ∧ m ≤ m' ∧ m' ≤ hi ∧ I.P w (fun b => A b ∧ m ≤ b ∧ b < m') rs[i] cs ∧ fT I w A m' hi (rs.drop (i + 1)) (xs.drop ((i + 1) * I.k))
 | lo, hi, r :: rs, xs, h, 0, _ => by
  obtain ⟨cs, mid, rest, rfl, h0, h1, h2⟩ := h;have hcl := I.len h1;refine ⟨cs, lo, mid, by rw [Nat.zero_mul, List.drop_zero, List.take_left' hcl], Nat.le_refl _, h0, h2.le, h1, ?_⟩;rw [show (0 + 1) * I.k = I.k by omega, List.drop_left' hcl];exact h2
 | lo, hi, r :: rs, xs, h, i + 1, hi' => by
  obtain ⟨cs, mid, rest, rfl, h0, h1, h2⟩ := h;have hcl := I.len h1;obtain ⟨cs', m, m', e1, e3, e4, e5, e6, e7⟩ := h2.at i (by simpa using hi');refine ⟨cs', m, m', ?_, by omega, e4, e5, by simpa using e6, ?_⟩
  ·rw [show (i + 1) * I.k = I.k + i * I.k by rw [Nat.add_mul]; omega, ← List.drop_drop, List.drop_left' hcl]; exact e1
  ·have e : (cs ++ rest).drop ((i + 1 + 1) * I.k) = rest.drop ((i + 1) * I.k) := by
    rw [show (i + 1 + 1) * I.k = I.k + (i + 1) * I.k by rw [Nat.add_mul (i + 1)]; omega, ← List.drop_drop, List.drop_left' hcl]
   rw [e];exact e7
variable (I)
def aS (w : World) (base : Nat) (T : TypeId) (sv : Value) (rs : List α) : Prop :=
 ∃ ys hi, hi ≤ w.1.size ∧ w.ownsRow base T I.k sv rs.length ys ∧ fT I w (fun b => sv.ownBlock ≠ some b) base hi rs ys
variable {I}
theorem aS.nil (w : World) (base : Nat) (T : TypeId) (h : base ≤ w.1.size) : aS I w base T (.slice none 0 0) [] := ⟨[], w.1.size, Nat.le_refl _, World.ownsRow_nil _ _ _ _, rfl, h⟩
theorem aS.below {w w' : World} {base B : Nat} {T : TypeId} {sv : Value} {rs : List α} (h : aS I w base T sv rs) (hb : Below B w w') (hB : w.1.size ≤ B) : aS I w' base T sv rs := by
 obtain ⟨ys, hi, h0, h1, h2⟩ := h;have hs := hb.size;exact ⟨ys, hi, by omega, ownsRow_below h1 hb hB, fT.keep (L := 0) (H := hi) (fun b _ _ _ hl => hb.block b (by omega)) (fun b _ ha _ _ => ha) (by omega) nl h2⟩
theorem aS.tc {b base : Nat} {T : TypeId} {sv : Value} {rs : List α} {w w' : World} (h : aS I w base T sv rs) (ht : Tc b w w') (hb : b < base) : aS I w' base T sv rs := by
 obtain ⟨ys, hi, h0, h1, h2⟩ := h;have hs := ht.size;exact ⟨ys, hi, by omega, su h1 ht hb, fT.keep (L := base) (H := hi) (fun k _ hk _ hl => ht.keep k hl (by omega)) (fun k _ ha _ _ => ha) nl nl h2⟩
theorem aS.push {wr w1 w1' w2 : World} {base B : Nat} {T : TypeId} {sv : Value} {rs : List α} {q : α} {cs : List Value} {gg gcap : Nat} {ys : List Value} {hi : Nat}
  (hh : hi ≤ wr.1.size) (hown : wr.ownsRow base T I.k sv rs.length ys) (hrs : fT I wr (fun b => sv.ownBlock ≠ some b) base hi rs ys)
  (hb1 : Below B wr w1) (hB : wr.1.size ≤ B) (hv : I.P w1 (fun b => wr.1.size ≤ b) q cs) (hb2 : Below w1.1.size w1 w1') (hgrow : w1'.grownBy w2 sv.ownBlock)
  (hown2 : w2.ownsRow base T I.k (.slice (some ⟨gg, 0, none⟩) (rs.length + 1) gcap) (rs.length + 1) (ys ++ cs)) (hat : sv.ownBlock = some gg ∨ w1.1.size ≤ gg) :
  aS I w2 base T (.slice (some ⟨gg, 0, none⟩) (rs.length + 1) gcap) (rs ++ [q]) := by
 have hlt := hown.lt;have hs := hb1.size;have hs2 := hgrow.size;have hs1 := hb2.size;have hne : ∀ b, b < w1.1.size → sv.ownBlock ≠ some b → (Value.slice (some ⟨gg, 0, none⟩) (rs.length + 1) gcap).ownBlock ≠ some b := by
  intro b hb hn;simp only [Value.ownBlock, ne_eq, Option.some.injEq];intro e;subst e;rcases hat with h | h
  ·exact hn h
  ·omega
 refine ⟨ys ++ cs, w1.1.size, by omega, by simpa using hown2, fT.snoc (mid := hi) ?_ (by omega) ?_⟩
 ·refine I.keep hv (fun b hb hl => ?_) (fun b hl hb => ?_)
  ·have hb : wr.1.size ≤ b := hb
   exact (hgrow.block b (by omega) (fun h => by have := hlt b h.symm; omega)).trans (hb2.block b (by omega))
  ·have hb : wr.1.size ≤ b := hb
   exact ⟨hne b hl (fun h => by have := hlt b h; omega), by omega, hl⟩
 ·refine fT.keep (L := 0) (H := hi) (fun b ha _ hb hl => ?_) (fun b hl ha _ hb => hne b (by omega) ha) (by omega) nl hrs
  exact (hgrow.block b (by omega) (fun h => ha h.symm)).trans ((hb2.block b (by omega)).trans (hb1.block b (by omega)))
theorem aS.form {w : World} {base : Nat} {T : TypeId} {sv : Value} {rs : List α} (h : (sv = .slice none 0 0 ∧ rs = []) ∨ aS I w base T sv rs) : ∃ ad cap, sv = .slice ad rs.length cap := by
 rcases h with ⟨rfl, rfl⟩ | ⟨ys, hi, _, ho, _⟩
 ·exact ⟨_, _, rfl⟩
 ·exact aQ ho
theorem aS.mk' {w : World} {base : Nat} {T : TypeId} {sv : Value} {rs : List α} (h : (sv = .slice none 0 0 ∧ rs = []) ∨ aS I w base T sv rs) (hb : base ≤ w.1.size) : aS I w base T sv rs := by
 rcases h with ⟨rfl, rfl⟩ | h
 ·exact aS.nil _ _ _ hb
 ·exact h
end
theorem Ah {l n : Nat} {P : Program} {o : Oper} {a : Act} {w : World} {K : Act → World → Prop} {Q : Exit → Act → World → Prop} (hd : ∀ c, o.op ≠ .defer c) (h : Oper.wp P o a w K Q) : Oper.wpIn (Fence.wide.inRound l) n P o a w K Q := by
 refine ⟨fun _ _ => trivial, ?_⟩;rw [Oper.semAt_plain _ _ _ hd];unfold Oper.wp at h
 revert h
 generalize (execOp a.eval o).run P w = r;intro h;cases r with
 | ok x w' =>
  cases x with
  | value v => exact h
  | skip => exact h
  | defer d => exact h
  | enter f args => exact ⟨(fun h => by cases h), CallsIn.inRound l (callsIn_wide.2 h)⟩
  | row row args =>
   refine ⟨(fun h => by cases h), fun c cs _ => ?_⟩;obtain ⟨v, w'', h1, h2⟩ := h c cs;exact ⟨v, w'', h1, stepsIn_wide.2 h2⟩
  | _ => exact h.elim
 | halt x w' =>
  cases x
  all_goals exact h
theorem nZ {l n : Nat} {P : Program} {md : Region.Mode} {ops : Array Oper} {Q : Exit → Act → World → Prop} (hd : ∀ (i : Nat) o, ops[i]? = some o → ∀ c, o.op ≠ .defer c) (hQ : ¬ LetsOut Q) :
  ∀ (fuel : Nat) (listed : Array Bool) (a : Act) (w : World), wpAny P md ops Q fuel listed a w → wpAnyIn (Fence.wide.inRound l) n P md ops Q fuel listed a w
 | 0, listed, a, w, h => h
 | fuel + 1, listed, a, w, h => by
  refine ⟨h.1, fun i hi => ?_⟩;have h2 := h.2 i hi;unfold wpOp at h2;unfold wpOpIn;cases ho : ops[i]? with
  | none => rw [ho] at h2; exact nZ hd hQ fuel _ _ _ h2
  | some o =>
   rw [ho] at h2;simp only at h2 ⊢;split at h2
   ·rename_i hw
    rw [if_pos hw];rcases h2 with h2 | h2
    ·exact Ah (hd i o ho) (Oper.wp_mono (fun a' w' h' => nZ hd hQ fuel _ _ _ h') h2)
    ·exact absurd h2.2 hQ
   ·rename_i hw
    rw [if_neg hw];exact ⟨fun _ _ => trivial, nZ hd hQ fuel _ _ _ h2⟩
theorem sD {P : Program} {ops : Array Oper} {Q : Exit → Act → World → Prop} {a : Act} {w : World} (Inv : (Nat → Bool) → Act → World → Prop)
  (hdag : ∀ i o, ops[i]? = some o → ∀ e ∈ o.after, Region.binds .any e = true → e.on < i)
  (h0 : Inv (fun _ => false) a w.drew)
  (hstep : ∀ (l : Nat → Bool) (a : Act) (w : World) (i : Nat), Inv l a w → i < ops.size → l i = false → (∀ o, ops[i]? = some o → ∀ e ∈ o.after, Region.binds .any e = true → l e.on = true) → wpOp P ops Q i (fun a' w' => Inv (fun j => j == i || l j) a' w') a w)
  (hdone : ∀ (l : Nat → Bool) (a : Act) (w : World), (∀ i, i < ops.size → l i = true) → Inv l a w → Q .normal a w) : wpAny P .any ops Q ops.size (Array.replicate ops.size false) a w.drew := by
 refine vB Inv hstep hdone hdag ops.size _ a _ (by simp) ?_ ?_
 ·unfold unl
  exact Nat.le_trans (List.length_filter_le _ _) (by simp)
 ·have he : (fun j => (Array.replicate ops.size false).getD j false) = fun _ => false := by
   funext j
   rw [Array.getD_eq_getD_getElem?, Array.getElem?_replicate];split <;> rfl
  rw [he]; exact h0
theorem uC {P : Program} {ops : Array Oper} {Q : Exit → Act → World → Prop} {a0 : Act} {w0 : World} (G : List Cv) (Z : Nat → (Nat → Value) → World → Prop) (hok : (okC ops G (fe ops.toList) a0.tmps.size && decide (fe ops.toList).Nodup) = true) (h0 : ∃ vs, Z 0 vs w0.drew) (hsteps : eU P ops G (fe ops.toList) a0 Z 0 0 G)
  (L : (Nat → Value) → List (Nat × Value)) (hL : ∀ vs, rW vs 0 ops.toList G = L vs) (n : Nat) (hn : nW G ops.size = n) (hdone : ∀ (vs : Nat → Value) (w : World), Z n vs w → Q .normal (bS a0 (L vs)) w) : wpAny P .any ops Q ops.size (Array.replicate ops.size false) a0 w0.drew := by
 simp only [aH, decide_eq_true_eq] at hok;obtain ⟨hok, hnd⟩ := hok;have hlen := wR hok;refine sD (fun l a w => Ct ops G (fe ops.toList) a0 Z l a w) (fun i o ho e he hb => ?_) ?_ (fun l a w i hI hi hl ha => DV rfl hok hsteps hI hi hl ha) (fun l a w hl hI => ?_)
 ·have hi := (ak ho).1
  exact (ed (ni hok hi) ho (af (by omega))).1 e he hb
 ·obtain ⟨vs, hZ⟩ := h0
  exact ⟨Fr.refl _ _, (fun i o _ h => by cases h), (fun i d _ _ => rfl), vs, 0, Nat.zero_le _, (fun c g _ _ => by simp), hZ, (fun i g d _ h => by cases h)⟩
 ·obtain ⟨vs, t, hle, hst, hZ, hvals⟩ := hI.st
  have ht : t = n := by
   have h1 : n ≤ t := by
    cases hm2 : n with
    | zero => omega
    | succ m =>
     obtain ⟨j, g', q1, q2, q3, q4⟩ := nY (hn.trans hm2);have h2 := hst j g' q2 q3;rw [hl j q1] at h2;have : nW G j < t := (by simpa using h2.symm);omega
   omega
  subst ht;have hfr : a = bS a0 (L vs) := by
   rw [← hL vs];have hfst := rX vs ops.toList G 0 (by simpa using hlen.symm);refine kV _ (by rw [hfst]; exact hI.fr) (by rw [hfst]; exact hnd) (fun x hx => ?_) (fun x hx => ?_)
   ·obtain ⟨j, o, p, h1, h2, h3, h4⟩ := ll vs ops.toList G 0 (by simpa using hlen.symm) x hx
    have h1' : ops[j]? = some o := (by simpa using h1);have hj : j < ops.size := (ak h1').1;exact ((ed (ni hok hj) h1' h2).2.2.2.2.1 x.1 h3).2
   ·obtain ⟨j, o, p, h1, h2, h3, h4⟩ := ll vs ops.toList G 0 (by simpa using hlen.symm) x hx
    have h1' : ops[j]? = some o := (by simpa using h1);have hd : aP ops j = some x.1 := (by unfold aP; rw [h1']; exact h3);have h5 := hvals j p x.1 h2 (hl j (fG hd)) hd;rw [Nat.zero_add] at h4;rw [h4];simp only [Act.eval, Array.getD_eq_getD_getElem?, h5]; rfl
  rw [hfr];exact hdone vs w hZ
def BH (ops : Array Oper) : Bool := ops.all fun o => match o.op with
 | .defer _ => false
 | _ => true
theorem Ai {ops : Array Oper} (h : BH ops = true) (i : Nat) (o : Oper) (ho : ops[i]? = some o) (c) : o.op ≠ .defer c := by
 intro e;obtain ⟨hi, rfl⟩ := ak ho;have h1 := Array.all_eq_true.1 h i hi;rw [e] at h1;cases h1
theorem jc {l m : Nat} {P : Program} {ops : Array Oper} {Q : Exit → Act → World → Prop} {a0 : Act} {id : Nat} {w0 : World} (hm : P.follows .mixedOrders = true) (hnd : BH ops = true) (G : List Cv) (Z : Nat → (Nat → Value) → World → Prop) (hok : (okC ops G (fe ops.toList) a0.tmps.size && decide (fe ops.toList).Nodup) = true) (h0 : ∃ vs, Z 0 vs w0.drew) (hsteps : eU P ops G (fe ops.toList) a0 Z 0 0 G)
  (L : (Nat → Value) → List (Nat × Value)) (hL : ∀ vs, rW vs 0 ops.toList G = L vs) (n : Nat) (hn : nW G ops.size = n) (hdone : ∀ (vs : Nat → Value) (w : World), Z n vs w → Q .normal (bS a0 (L vs)) w) : (Code.region id ops true).wpIn (Fence.wide.inRound l) m P Q a0 w0 := by
 refine wpIn_mono (Q := fun e a w => e = .normal ∧ Q e a w) ?_ (fun e a w h => h.2);refine wpIn_region_any hm ?_;exact nZ (fun i o ho c => Ai hnd i o ho c) (fun h => by obtain ⟨a, w, h, _⟩ := h; cases h) _ _ _ _ (uC G Z hok h0 hsteps L hL n hn (fun vs w h => ⟨rfl, hdone vs w h⟩))
section
variable {α : Type} (I : Item α)
def sF (w : World) (S : Nat → Prop) : List α → List Value → Prop
 | [], xs => xs = []
 | r :: rs, xs => ∃ (cs rest : List Value), xs = cs ++ rest ∧ I.P w S r cs ∧ sF w S rs rest
variable {I}
theorem sF.length {w : World} {S : Nat → Prop} : ∀ {rs : List α} {xs : List Value}, sF I w S rs xs → xs.length = rs.length * I.k
 | [], xs, h => by rw [show xs = [] from h]; simp
 | r :: rs, xs, h => by
  obtain ⟨cs, rest, rfl, h1, h2⟩ := h;rw [aI, I.len h1, h2.length, aJ, Nat.add_mul];omega
theorem sF.keep {w w' : World} {S S' : Nat → Prop} (hk : cz S w w') (hS : ∀ b, b < w.1.size → S b → S' b) : ∀ {rs : List α} {xs : List Value}, sF I w S rs xs → sF I w' S' rs xs
 | [], xs, h => h
 | r :: rs, xs, h => by
  obtain ⟨cs, rest, e, h1, h2⟩ := h;exact ⟨cs, rest, e, I.keep h1 hk hS, sF.keep hk hS h2⟩
theorem sF.at {w : World} {S : Nat → Prop} : ∀ {rs : List α} {xs : List Value}, sF I w S rs xs → ∀ i (h : i < rs.length), I.P w S rs[i] ((xs.drop (i * I.k)).take I.k)
 | r :: rs, xs, h, 0, _ => by
  obtain ⟨cs, rest, rfl, h1, h2⟩ := h;have hcl := I.len h1;rw [Nat.zero_mul, List.drop_zero, List.take_left' hcl];exact h1
 | r :: rs, xs, h, i + 1, hi => by
  obtain ⟨cs, rest, rfl, h1, h2⟩ := h;have hcl := I.len h1;rw [show (i + 1) * I.k = I.k + i * I.k by rw [Nat.add_mul]; omega, ← List.drop_drop, List.drop_left' hcl];simpa using h2.at i (by simpa using hi)
theorem fT.repL {w : World} {A S : Nat → Prop} : ∀ {lo hi : Nat} {rs : List α} {xs : List Value}, (∀ b, A b → lo ≤ b → b < hi → S b) → fT I w A lo hi rs xs → sF I w S rs xs
 | lo, hi, [], xs, hS, h => h.1
 | lo, hi, r :: rs, xs, hS, h => by
  obtain ⟨cs, mid, rest, e, h0, h1, h2⟩ := h;have := h2.le;exact ⟨cs, rest, e, I.keep h1 (fun _ _ _ => rfl) (fun b _ hb => hS b hb.1 hb.2.1 (by omega)), fT.repL (fun b ha hb hc => hS b ha (by omega) hc) h2⟩
variable (I)
def oh (w : World) (S : Nat → Prop) (xs : List α) (v : Value) : Prop := ∃ ys, Sl w S false I.k xs.length ys v ∧ sF I w S xs ys
variable {I}
theorem oh.keep {w w' : World} {S S' : Nat → Prop} {xs : List α} {v : Value} (hk0 : 0 < I.k) (h : oh I w S xs v) (hk : cz S w w') (hS : ∀ b, b < w.1.size → S b → S' b) : oh I w' S' xs v := by
 obtain ⟨ys, h1, h2⟩ := h;exact ⟨ys, Sl.keep h1 hk0 hk hS, h2.keep hk hS⟩
theorem oh.shape {w : World} {S : Nat → Prop} {xs : List α} {v : Value} (h : oh I w S xs v) : xs.length ≤ 9223372036854775807 ∧ ∃ ad cap, v = .slice ad xs.length cap ∧ xs.length ≤ cap := by
 obtain ⟨ys, h1, _⟩ := h;exact ⟨h1.2.1, (Sl.shape h1).2.2⟩
theorem oh.at {w : World} {S : Nat → Prop} {xs : List α} {ad : Option Addr} {cap : Nat} (hk0 : 0 < I.k) (h : oh I w S xs (.slice ad xs.length cap)) (i : Nat) (hi : i < xs.length) :
  ∃ bl off cs, ad = some ⟨bl, off, none⟩ ∧ S bl ∧ I.P w S xs[i] cs ∧ ∀ j, j < I.k → w.cell? ⟨bl, off + i * I.k + j, none⟩ = cs[j]? := by
 obtain ⟨ys, h1, h2⟩ := h;have hl := h2.length;have hle : (i + 1) * I.k ≤ xs.length * I.k := Nat.mul_le_mul_right _ hi;rw [Nat.add_mul] at hle;obtain ⟨bl, off, ha, hS, hc⟩ := Sl.cells h1 (by omega);refine ⟨bl, off, _, ha, hS, h2.at i hi, fun j hj => ?_⟩;rw [Nat.add_assoc, (hc (i * I.k + j) (by omega)).1, List.getElem?_take, if_pos hj, List.getElem?_drop, af]
theorem aS.pK {w : World} {base : Nat} {T : TypeId} {sv : Value} {rs : List α} (hk0 : 0 < I.k) (h : aS I w base T sv rs) : oh I w (fun b => base ≤ b) rs sv := by
 obtain ⟨ys, hi, h0, h1, h2⟩ := h;exact ⟨ys, (Sl.unown ((Sl.of_owns h1 hk0).keep hk0 (fun _ _ _ => rfl) (fun b _ hb => hb.2))), h2.repL (fun b _ hb _ => hb)⟩
end
def Ea : Item Rec where
 k := 11
 P w S r cs := bL w S false r (.agg cs.toArray)
 len h := by have := (iJ h).1; simpa using this
 one h := by have := (iJ h).2; simpa using this
 keep h hk hS := h.keep hk hS
end Go.Proofs.YtlpgokcapdjgjaaGreatDoor
