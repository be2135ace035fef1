/- Frames taken off bytes. -/
import Derived.Test.YtagnalfkmdjajaaGreatDoorY22
import Derived.Test.YtagnalfkmdjajaaGreatDoorY8
import Derived.Deep.RegionHeld3
import Derived.Laws.IdiomStrings
namespace Go.Proofs.YtagnalfkmdjajaaGreatDoor
open Go.RowKit Go
set_option linter.unusedVariables false
set_option linter.unusedSimpArgs false
structure Rg (rb : Nat) (w w' : World) : Prop where
 os : w'.os = w.os
 tape : w'.tape = w.tape
 output : w'.output = w.output
 size : w.heap.size ≤ w'.heap.size
 keep : ∀ b, b < w.heap.size → b ≠ rb → w'.heap[b]? = w.heap[b]?
theorem Rg.refl (rb : Nat) (w : World) : Rg rb w w := ⟨rfl, rfl, rfl, Nat.le_refl _, fun _ _ _ => rfl⟩
theorem Rg.trans {rb : Nat} {a b c : World} (h : Rg rb a b) (k : Rg rb b c) : Rg rb a c :=
 ⟨k.os.trans h.os, k.tape.trans h.tape, k.output.trans h.output, Nat.le_trans h.size k.size, fun i hi hn => (k.keep i (by have := h.size; omega) hn).trans (h.keep i hi hn)⟩
theorem Rg.of_below {rb : Nat} {w w' : World} (h : Below w.heap.size w w') : Rg rb w w' := ⟨h.os, h.tape, h.output, h.size, fun b hb _ => h.block b hb⟩
theorem Rg.setCell {rb : Nat} {w w' : World} (h : Rg rb w w') (o : Nat) (v : Value) : Rg rb w (w'.setCell ⟨rb, o, none⟩ v) :=
 h.trans ⟨rfl, rfl, rfl, by simp, fun b _ hn => Below.heap_setCell _ _ _ _ (by simpa using hn)⟩
def aB : Option (List UInt8) → Nat × Option (List UInt8)
 | none => (0, none)
 | some l => match bX l with
  | some x => (x.1, some x.2)
  | none => (0, none)
theorem kV {l r : List UInt8} {v : Nat} (h : bX l = some (v, r)) : aB (some l) = (v, some r) := by simp [aB, h]
theorem Ao {l : List UInt8} (h : bX l = none) : aB (some l) = (0, none) := by simp [aB, h]
def Vr (w : World) (rb : Nat) (a : Nat) (e : Int) (l : List UInt8) (sv : Value) : Prop :=
 w.heap[rb]? = some (.cells #[.int .i64 a, .int .i64 e, sv] 150 (0, 0)) ∧ au w (fun b => b < rb) false l sv ∧ a ≤ l.length ∧ l.length ≤ 1000000
theorem Vr.lt {w : World} {rb a : Nat} {e : Int} {l : List UInt8} {sv : Value} (h : Vr w rb a e l sv) : rb < w.heap.size := (Array.getElem?_eq_some_iff.1 h.1).1
theorem Vr.cells {w : World} {rb a : Nat} {e : Int} {l : List UInt8} {sv : Value} (h : Vr w rb a e l sv) : w.cell? ⟨rb, 0, none⟩ = some (.int .i64 a) ∧ w.cell? ⟨rb, 1, none⟩ = some (.int .i64 e) ∧ w.cell? ⟨rb, 2, none⟩ = some sv ∧ (∀ o, w.frozen? ⟨rb, o, none⟩ = false) :=
 ⟨by rw [cell_of_row w _ 0 _ _ _ h.1]; rfl, by rw [cell_of_row w _ 1 _ _ _ h.1]; rfl, by rw [cell_of_row w _ 2 _ _ _ h.1]; rfl, fun o => by rw [frozen_of_row w _ o _ _ h.1]⟩
theorem Vr.keep {w w' : World} {rb a : Nat} {e : Int} {l : List UInt8} {sv : Value} (h : Vr w rb a e l sv) (hk : ∀ b, b ≤ rb → w'.heap[b]? = w.heap[b]?) : Vr w' rb a e l sv :=
 ⟨(hk rb nl).trans h.1, Sl.keep h.2.1 (by omega) (fun b hb _ => hk b (by omega)) (fun _ _ h => h), h.2.2⟩
theorem Vr.below {w w' : World} {rb a : Nat} {e : Int} {l : List UInt8} {sv : Value} (h : Vr w rb a e l sv) (hb : Below w.heap.size w w') : Vr w' rb a e l sv :=
 h.keep fun b hb' => hb.block b (by have := h.lt; omega)
theorem Vr.set {w : World} {rb a a' : Nat} {e e' : Int} {l : List UInt8} {sv : Value} {w' : World} (h : Vr w rb a e l sv) (ha : a' ≤ l.length) (h1 : w'.heap[rb]? = some (.cells #[.int .i64 a', .int .i64 e', sv] 150 (0, 0))) (hk : ∀ b, b < rb → w'.heap[b]? = w.heap[b]?) : Vr w' rb a' e' l sv :=
 ⟨h1, Sl.keep h.2.1 (by omega) (fun b hb _ => hk b hb) (fun _ _ h => h), ha, h.2.2.2⟩
theorem Vr.fail {w : World} {rb a : Nat} {e : Int} {l : List UInt8} {sv : Value} (h : Vr w rb a e l sv) (e' : Int) : Vr (w.setCell ⟨rb, 1, none⟩ (.int .i64 e')) rb a e' l sv :=
 h.set h.2.2.1 (aQ h.1 rfl) (fun b hb => Below.heap_setCell _ _ _ _ (by simp; omega))
theorem Vr.move {w : World} {rb a : Nat} {e : Int} {l : List UInt8} {sv : Value} (h : Vr w rb a e l sv) (a' : Nat) (ha : a' ≤ l.length) : Vr (w.setCell ⟨rb, 0, none⟩ (.int .i64 a')) rb a' e l sv :=
 h.set ha (aQ h.1 rfl) (fun b hb => Below.heap_setCell _ _ _ _ (by simp; omega))
theorem qX (rb a : Nat) (e : Int) (l : List UInt8) (sv : Value) (w : World) (h : Vr w rb a e l sv) :
  Calls Tryz.prog 177 #[.pointer (some ⟨rb, 0, none⟩)] w fun r w' => r = .returned (.bool (e == 0)) ∧ w = w' := by
 obtain ⟨c0, c1, c2, f⟩ := h.cells
 clear h f
 go_enter Tryz.func177, Tryz.ntmps177
 go_wp2_with fail
 go_ret
 exact ⟨rfl, rfl⟩
theorem Bl (rb a : Nat) (e : Int) (l : List UInt8) (sv : Value) (w : World) (h : Vr w rb a e l sv) :
  Calls Tryz.prog 37 #[.pointer (some ⟨rb, 0, none⟩)] w fun r w' => r = .returned (.int .i64 e) ∧ w = w' := by
 obtain ⟨c0, c1, c2, f⟩ := h.cells
 clear h f
 go_enter Tryz.func37, Tryz.ntmps37
 go_wp2_with fail
 go_ret
 exact ⟨rfl, rfl⟩
theorem yZ (rb a : Nat) (e : Int) (l : List UInt8) (sv : Value) (w : World) (h : Vr w rb a e l sv) :
  Calls Tryz.prog 38 #[.pointer (some ⟨rb, 0, none⟩)] w fun r w' => r = .returned (.int .i64 ((l.length : Int) - (a : Int))) ∧ ∃ n, w' = w.drewN n := by
 obtain ⟨c0, c1, c2, f⟩ := h.cells
 have ha := h.2.2
 obtain ⟨_, ad, cap, rfl, hc⟩ := h.2.1.shape
 clear h f
 go_enter Tryz.func38, Tryz.ntmps38
 go_wp2_with fail
 go_quiet (fail)
 go_wp2_with fail
 go_ret
 exact ⟨rfl, nq, rfl⟩
theorem xA (rb a : Nat) (e : Int) (l : List UInt8) (sv : Value) (w : World) (h : Vr w rb a 0 l sv) :
  Calls Tryz.prog 178 #[.pointer (some ⟨rb, 0, none⟩), .int .i64 e] w fun r w' => r = .returned (.tuple #[]) ∧ Vr w' rb a e l sv ∧ Rg rb w w' ∧ w'.heap.size = w.heap.size := by
 obtain ⟨c0, c1, c2, f⟩ := h.cells
 have f1 := f 1
 have H := hid h
 clear h f
 go_enter Tryz.func178, Tryz.ntmps178
 go_wp2_with fail
 go_end0
 exact ⟨rfl, H.out.fail e, (Rg.refl _ _).setCell _ _, by simp⟩
def Fu (rb a : Nat) (l : List UInt8) (sv : Value) (w : World) (r : Ending) (w' : World) : Prop :=
 ∃ (v a' : Nat) (e' : Int), r = .returned (.int .u64 v) ∧ v < 18446744073709551616 ∧ Vr w' rb a' e' l sv ∧ Rg rb w w' ∧ a ≤ a' ∧
  (e' = 0 → bX (l.drop a) = some (v, l.drop a')) ∧ (e' ≠ 0 → v = 0 ∧ a' = a ∧ bX (l.drop a) = none ∧ e' = dn (l.drop a))
theorem vE (rb a : Nat) (e : Int) (l : List UInt8) (sv : Value) (w : World) (h : Vr w rb a e l sv) (he : e ≠ 0) :
  Calls Tryz.prog 176 #[.pointer (some ⟨rb, 0, none⟩)] w fun r w' => r = .returned (.int .u64 0) ∧ w = w' := by
 have t : (e == 0) = false := by simpa using he
 have H := hid (qX rb a e l sv w h)
 clear h he
 go_enter Tryz.func176, Tryz.ntmps176
 go_wp2_with fail
 refine H.out.mono ?_
 rintro r w' ⟨rfl, rfl⟩
 go_wp2_with fail
 go_ret
 exact ⟨rfl, rfl⟩
theorem jk {l r : List UInt8} {n : Nat} (h : bX l = some (n, r)) : r = l.drop (l.length - r.length) := by
 obtain ⟨p, hp⟩ := xn h
 rw [← hp]; simp
theorem vF (rb a : Nat) (l : List UInt8) (sv : Value) (w : World) (h : Vr w rb a 0 l sv) :
  Calls Tryz.prog 176 #[.pointer (some ⟨rb, 0, none⟩)] w (Fu rb a l sv w) := by
 have hlt := h.lt
 obtain ⟨c0, c1, c2, f⟩ := h.cells
 have ha := h.2.2
 have HWl := hid (qX rb a 0 l sv w h)
 have HV := hid h
 obtain ⟨_, ad, cap, rfl, hc⟩ := h.2.1.shape
 clear h f
 go_enter Tryz.func176, Tryz.ntmps176
 go_wp2_with fail
 refine HWl.out.mono ?_
 rintro r w0 ⟨rfl, rfl⟩
 go_wp2_with fail
 have hbW : Below w.heap.size w w := br
 go_region_held3 (fun w' => w'.cell? ⟨rb, 0, none⟩ = some (.int .i64 a) ∧ w'.cell? ⟨rb, 2, none⟩ = some (.slice ad l.length cap))
  (first
   | exact ⟨(hbW.cell hlt).trans c0, (hbW.cell hlt).trans c2⟩
   | go_keep)
  (first
   | (go_at_call 73; go_fit (qW _ _ l _ a _ (HV.out.below (by first | exact hbW | exact hbW.drew)).2.1 ha.1 ha.2); rintro e w2 ⟨rfl, hb2⟩; unfold sQ; replace hbW := (by first | exact hbW.trans (hb2.mono hbW.size) | exact hbW.drew.trans (hb2.mono hbW.size)); clear hb2))
 have hv2 := HV.out.below hbW
 have hlt2 := hv2.lt
 obtain ⟨k0, k1, k2, f⟩ := hv2.cells
 have f0 := f 0
 have HV2 := hid hv2
 have HB2 := hid hbW
 clear hv2 f hbW c0 c1 c2
 by_cases h0 : dn (l.drop a) = 0
 ·have t1 : (dn (l.drop a) != 0) = false := by simp [h0]
  obtain ⟨x, hx⟩ := Option.isSome_iff_exists.1 ((dA _).1 h0)
  obtain ⟨v, r⟩ := x
  have hr : r = l.drop (dP a (l.drop a)) ∧ a ≤ dP a (l.drop a) ∧ dP a (l.drop a) ≤ l.length := by
   have h1 := jk hx
   have h2 := ko hx
   have h3 : dP a (l.drop a) = a + ((l.drop a).length - r.length) := by unfold dP; rw [hx]
   refine ⟨?_, by omega, ?_⟩
   ·rw [h3, ← List.drop_drop]; exact h1
   ·rw [h3]; simp; omega
  have hn : mQ (l.drop a) = v := by unfold mQ; rw [hx]
  have hv := mP hx
  have HR := hid (And.intro hx hr)
  rw [hn]
  have hr2 := hr.2.2
  generalize dP a (l.drop a) = a' at HR hr2 ⊢
  clear h0 hx hr hn
  go_wp2_with fail
  go_ret
  exact ⟨v, a', 0, rfl, hv, HV2.out.move a' hr2, (Rg.of_below HB2.out).setCell _ _, HR.out.2.2.1, fun _ => by rw [HR.out.1, ← HR.out.2.1], fun h => absurd rfl h⟩
 ·have t1 : (dn (l.drop a) != 0) = true := by simp [h0]
  have hn : bX (l.drop a) = none := by
   cases hv : bX (l.drop a) with
   | none => rfl
   | some x => exact absurd ((dA _).2 (by rw [hv]; rfl)) h0
  have H0 := hid (And.intro h0 hn)
  obtain ⟨c, hc⟩ : ∃ c, c = dn (l.drop a) := ⟨_, rfl⟩
  rw [← hc] at t1 ⊢
  have HC := hid hc
  clear h0 hn hc
  go_wp2_with fail
  refine (xA rb a c l _ _ HV2.out).mono ?_
  rintro r w3 ⟨rfl, hv3, hg3, hz3⟩
  go_wp2_with fail
  go_ret
  exact ⟨0, a, c, rfl, by omega, hv3, (Rg.of_below HB2.out).trans hg3, Nat.le_refl _, fun h => absurd (HC.out.symm.trans h) H0.out.1, fun _ => ⟨rfl, rfl, H0.out.2, HC.out⟩⟩
def VrS (w : World) (rb : Nat) (l : List UInt8) (sv : Value) (s : Option (List UInt8)) : Prop := ∃ a e, Vr w rb a e l sv ∧ s = if e = 0 then some (l.drop a) else none
theorem VrS.lt {w : World} {rb : Nat} {l : List UInt8} {sv : Value} {s : Option (List UInt8)} (h : VrS w rb l sv s) : rb < w.heap.size := by
 obtain ⟨a, e, h, _⟩ := h
 exact h.lt
theorem VrS.len {w : World} {rb : Nat} {l : List UInt8} {sv : Value} {s : Option (List UInt8)} (h : VrS w rb l sv s) : l.length ≤ 1000000 := by
 obtain ⟨a, e, h, _⟩ := h
 exact h.2.2.2
theorem VrS.left {w : World} {rb : Nat} {l r : List UInt8} {sv : Value} (h : VrS w rb l sv (some r)) : r.length ≤ l.length := by
 obtain ⟨a, e, h, h2⟩ := h
 by_cases he : e = 0
 ·rw [if_pos he] at h2; injection h2 with h2; rw [h2]; simp
 ·rw [if_neg he] at h2; cases h2
theorem VrS.below {w w' : World} {rb : Nat} {l : List UInt8} {sv : Value} {s : Option (List UInt8)} (h : VrS w rb l sv s) (hb : Below w.heap.size w w') : VrS w' rb l sv s := by
 obtain ⟨a, e, h, h2⟩ := h
 exact ⟨a, e, h.below hb, h2⟩
theorem VrS.keep {w w' : World} {rb : Nat} {l : List UInt8} {sv : Value} {s : Option (List UInt8)} (h : VrS w rb l sv s) (hk : ∀ b, b ≤ rb → w'.heap[b]? = w.heap[b]?) : VrS w' rb l sv s := by
 obtain ⟨a, e, h, h2⟩ := h
 exact ⟨a, e, h.keep hk, h2⟩
theorem zg (rb : Nat) (l : List UInt8) (sv : Value) (s : Option (List UInt8)) (w : World) (h : VrS w rb l sv s) :
  Calls Tryz.prog 37 #[.pointer (some ⟨rb, 0, none⟩)] w fun r w' => ∃ e : Int, r = .returned (.int .i64 e) ∧ (e = 0 ↔ s.isSome = true) ∧ w = w' := by
 obtain ⟨a, e, h, rfl⟩ := h
 refine (Bl rb a e l sv w h).mono ?_
 rintro r w' ⟨rfl, rfl⟩
 refine ⟨e, rfl, ?_, rfl⟩
 by_cases he : e = 0 <;> simp [he]
theorem jc (rb : Nat) (l : List UInt8) (sv : Value) (s : Option (List UInt8)) (w : World) (h : VrS w rb l sv s) :
  Calls Tryz.prog 176 #[.pointer (some ⟨rb, 0, none⟩)] w fun r w' => r = .returned (.int .u64 ((aB s).1 : Nat)) ∧ VrS w' rb l sv (aB s).2 ∧ Rg rb w w' := by
 obtain ⟨a, e, h, rfl⟩ := h
 by_cases he : e = 0
 ·subst he
  refine (vF rb a l sv w h).mono ?_
  rintro r w' ⟨v, a', e', rfl, hv, hv', hg, _, h1, h2⟩
  by_cases he : e' = 0
  ·have := h1 he
   rw [if_pos rfl, kV this]
   exact ⟨rfl, ⟨a', e', hv', by rw [if_pos he]⟩, hg⟩
  ·obtain ⟨rfl, rfl, h3, _⟩ := h2 he
   rw [if_pos rfl, Ao h3]
   exact ⟨rfl, ⟨a', e', hv', by rw [if_neg he]⟩, hg⟩
 ·refine (vE rb a e l sv w h he).mono ?_
  rintro r w' ⟨rfl, rfl⟩
  rw [if_neg he]
  exact ⟨rfl, ⟨a, e, h, by rw [if_neg he]; rfl⟩, Rg.refl _ _⟩
structure Frm where
 rule : Int
 kind : Nat
 pay : List UInt8
 len : Nat
def Frm.no (r : Int) : Frm := ⟨r, 0, [], 0⟩
def aO (l : List UInt8) : Frm := match l with
 | [] => .no 1
 | k :: r => if dn r = 10 then .no 2 else match bX r with
  | none => .no 1
  | some x => if x.2.length < x.1 + 4 then .no 1 else
   if l.take (aS k.toNat (x.2.take x.1)).length = aS k.toNat (x.2.take x.1) then ⟨0, k.toNat, x.2.take x.1, (aS k.toNat (x.2.take x.1)).length⟩ else .no 3
theorem xB : aO [] = .no 1 := rfl
theorem xC {k : UInt8} {r : List UInt8} (h : dn r = 10) : aO (k :: r) = .no 2 := by unfold aO; simp only [if_pos h]
theorem uB {k : UInt8} {r : List UInt8} (h : dn r ≠ 10) (h2 : bX r = none) : aO (k :: r) = .no 1 := by unfold aO; simp only [if_neg h, h2]
theorem qY {k : UInt8} {r s : List UInt8} {n : Nat} (h2 : bX r = some (n, s)) (h3 : s.length < n + 4) : aO (k :: r) = .no 1 := by
 have h : dn r ≠ 10 := fun e => by have := (dA r).2 (by rw [h2]; rfl); omega
 unfold aO; simp only [if_neg h, h2, if_pos h3]
theorem lY {k : UInt8} {r s : List UInt8} {n : Nat} (h2 : bX r = some (n, s)) (h3 : n + 4 ≤ s.length) : (k :: r).take (1 + (r.length - s.length) + n) = aM k.toNat (s.take n) ∧ (aM k.toNat (s.take n)).length = 1 + (r.length - s.length) + n := by
 obtain ⟨e, hn⟩ := iy h2
 have hl : (s.take n).length = n := by simp; omega
 have hp : r.length - s.length = (bi n).length := by rw [e]; simp
 have hh : aM k.toNat (s.take n) = k :: (bi n ++ s.take n) := by
  unfold aM
  rw [hl]
  simp [ae]
 rw [hp, hh]
 refine ⟨?_, by simp; omega⟩
 rw [e, show 1 + (bi n).length + n = ((bi n).length + n) + 1 from by omega, List.take_succ_cons, List.take_append]
 simp
 exact List.take_of_length_le (by omega)
theorem nJ (k : Nat) (p : List UInt8) : (gL (Crc.fw (aM k p))).length = 4 := by unfold gL; rw [gF]
theorem qZ {k : UInt8} {r s : List UInt8} {n : Nat} (h2 : bX r = some (n, s)) (h3 : n + 4 ≤ s.length) :
  aO (k :: r) = if gL (Crc.fw (aM k.toNat (s.take n))) = (s.drop n).take 4 then ⟨0, k.toNat, s.take n, 1 + (r.length - s.length) + n + 4⟩ else .no 3 := by
 have h : dn r ≠ 10 := fun e => by have := (dA r).2 (by rw [h2]; rfl); omega
 obtain ⟨g1, g2⟩ := lY (k := k) h2 h3
 have g3 := nJ k.toNat (s.take n)
 have hb : (aS k.toNat (s.take n)).length = 1 + (r.length - s.length) + n + 4 := by unfold aS; rw [List.length_append, g2, g3]
 obtain ⟨e, hn⟩ := iy h2
 have hd : (k :: r).drop (1 + (r.length - s.length) + n) = s.drop n := by
  have hp : r.length - s.length = (bi n).length := by rw [e]; simp
  rw [hp, e, show 1 + (bi n).length + n = ((bi n).length + n) + 1 from by omega, List.drop_succ_cons, List.drop_append]
  simp
 have ht : (k :: r).take (1 + (r.length - s.length) + n + 4) = aM k.toNat (s.take n) ++ (s.drop n).take 4 := by rw [List.take_add, g1, hd]
 unfold aO
 simp only [if_neg h, h2, if_neg (show ¬ s.length < n + 4 from by omega)]
 rw [hb, ht]
 unfold aS
 by_cases hc : gL (Crc.fw (aM k.toNat (s.take n))) = (s.drop n).take 4
 ·rw [if_pos hc, if_pos (by rw [hc])]
 ·rw [if_neg hc, if_neg (fun e => hc (List.append_cancel_left e).symm)]
theorem jl (S : Nat → Prop) (own : Bool) (l : List UInt8) (v : Value) (w : World) (h : au w S own l v) : (convert 29 9 v).run Tryz.prog w = .ok (.string ⟨l.toArray⟩) w := by
 obtain ⟨_, ad, cap, rfl, _⟩ := h.shape
 cases l with
 | nil =>
  cases ad with
  | none => rw [show ([] : List UInt8).length = 0 from rfl, run_convert_bytes_string (P := Tryz.prog) w 29 9 5 none 0 cap Tryz.underlying29 Tryz.underlying5 Tryz.underlying9]; rfl
  | some a => exact run_convert_bytes_back (P := Tryz.prog) w 29 9 5 a cap [] Tryz.underlying29 Tryz.underlying5 Tryz.underlying9 (fun j hj => by simp at hj)
 | cons c l =>
  obtain ⟨bl, off, rfl, _, hc⟩ := h.cell (by simp)
  exact run_convert_bytes_back (P := Tryz.prog) w 29 9 5 ⟨bl, off, none⟩ cap (c :: l) Tryz.underlying29 Tryz.underlying5 Tryz.underlying9 (fun j hj => by rw [Addr.add_lit]; exact (hc j hj).1)
theorem rf (S S' : Nat → Prop) (own own' : Bool) (l l' : List UInt8) (v v' : Value) (w : World) (h : au w S own l v) (h' : au w S' own' l' v') :
  Calls Tryz.prog 74 #[v, v'] w fun e w' => e = .returned (.bool (decide (l = l'))) ∧ w' = w := by
 have q1 := jl S own l v w h
 have q2 := jl S' own' l' v' w h'
 obtain ⟨A, hA⟩ : ∃ A : ByteArray, A = ⟨l.toArray⟩ := ⟨_, rfl⟩
 obtain ⟨B, hB⟩ : ∃ B : ByteArray, B = ⟨l'.toArray⟩ := ⟨_, rfl⟩
 rw [← hA] at q1
 rw [← hB] at q2
 have hd : (A.toList == B.toList) = decide (l = l') := by
  rw [hA, hB, ByteArray.toList_eq, ByteArray.toList_eq, Bool.eq_iff_iff]
  simp
 have HD := hid hd
 obtain ⟨_, ad, cap, rfl, _⟩ := h.shape
 obtain ⟨_, ad', cap', rfl, _⟩ := h'.shape
 clear h h' hA hB hd
 go_enter Tryz.func74, Tryz.ntmps74
 go_wp2_with fail
 go_ret
 refine ⟨ai ?_, rfl⟩
 rw [← HD.out]
end Go.Proofs.YtagnalfkmdjajaaGreatDoor
