/- Walks. -/
import Derived.Test.YtlpgokcapdjgjaaGreatDoorY43
import Derived.Test.YtlpgokcapdjgjaaGreatDoorY31
set_option maxHeartbeats 4000000
set_option maxRecDepth 100000
namespace Go.Proofs.YtlpgokcapdjgjaaGreatDoor
open Go.RowKit Go
set_option linter.unusedVariables false
set_option linter.unusedSimpArgs false
def Vr (w : World) (rb : Nat) (a : Nat) (e : Int) (l : List UInt8) (sv : Value) : Prop :=
 w.1[rb]? = some (.cells #[.int .i64 a, .int .i64 e, sv] 227 (0, 0)) ∧ aO w (fun b => b < rb) false l sv ∧ a ≤ l.length ∧ l.length ≤ 1000000
theorem Vr.lt {w : World} {rb a : Nat} {e : Int} {l : List UInt8} {sv : Value} (h : Vr w rb a e l sv) : rb < w.1.size := (ak h.1).1
theorem Vr.cells {w : World} {rb a : Nat} {e : Int} {l : List UInt8} {sv : Value} (h : Vr w rb a e l sv) : w.cell? ⟨rb, 0, none⟩ = some (.int .i64 a) ∧ w.cell? ⟨rb, 1, none⟩ = some (.int .i64 e) ∧ w.cell? ⟨rb, 2, none⟩ = some sv ∧ (∀ o, w.frozen? ⟨rb, o, none⟩ = false) :=
 ⟨by rw [ax w _ 0 _ _ _ h.1]; rfl, by rw [ax w _ 1 _ _ _ h.1]; rfl, by rw [ax w _ 2 _ _ _ h.1]; rfl, fun o => by rw [aA w _ o _ _ h.1]⟩
theorem Vr.keep {w w' : World} {rb a : Nat} {e : Int} {l : List UInt8} {sv : Value} (h : Vr w rb a e l sv) (hk : ∀ b, b ≤ rb → w'.1[b]? = w.1[b]?) : Vr w' rb a e l sv :=
 ⟨(hk rb nl).trans h.1, Sl.keep h.2.1 (by omega) (fun b hb _ => hk b (by omega)) (fun _ _ h => h), h.2.2⟩
theorem Vr.below {w w' : World} {rb a : Nat} {e : Int} {l : List UInt8} {sv : Value} (h : Vr w rb a e l sv) (hb : Below w.1.size w w') : Vr w' rb a e l sv :=
 h.keep fun b hb' => hb.block b (by have := h.lt; omega)
theorem Vr.set {w : World} {rb a a' : Nat} {e e' : Int} {l : List UInt8} {sv : Value} {w' : World} (h : Vr w rb a e l sv) (ha : a' ≤ l.length) (h1 : w'.1[rb]? = some (.cells #[.int .i64 a', .int .i64 e', sv] 227 (0, 0))) (hk : ∀ b, b < rb → w'.1[b]? = w.1[b]?) : Vr w' rb a' e' l sv :=
 ⟨h1, Sl.keep h.2.1 (by omega) (fun b hb _ => hk b hb) (fun _ _ h => h), ha, h.2.2.2⟩
theorem Vr.fail {w : World} {rb a : Nat} {e : Int} {l : List UInt8} {sv : Value} (h : Vr w rb a e l sv) (e' : Int) : Vr (w.setCell ⟨rb, 1, none⟩ (.int .i64 e')) rb a e' l sv :=
 h.set h.2.2.1 (aM h.1 rfl) (fun b hb => ay _ _ _ _ (by simp; omega))
theorem Vr.move {w : World} {rb a : Nat} {e : Int} {l : List UInt8} {sv : Value} (h : Vr w rb a e l sv) (a' : Nat) (ha : a' ≤ l.length) : Vr (w.setCell ⟨rb, 0, none⟩ (.int .i64 a')) rb a' e l sv :=
 h.set ha (aM h.1 rfl) (fun b hb => ay _ _ _ _ (by simp; omega))
theorem eu (rb a : Nat) (e : Int) (l : List UInt8) (sv : Value) (w : World) (h : Vr w rb a e l sv) :
  Calls Tryz.prog 116 #[.pointer (some ⟨rb, 0, none⟩)] w fun r w' => r = .returned (.bool (e == 0)) ∧ w = w' := by
 obtain ⟨c0, c1, c2, f⟩ := h.cells;clear h f
 go_enter Tryz.func116, Tryz.ntmps116
 go_wp2_with fail;go_ret
 exact ⟨rfl, rfl⟩
theorem dn (rb a : Nat) (e : Int) (l : List UInt8) (sv : Value) (w : World) (h : Vr w rb a e l sv) :
  Calls Tryz.prog 71 #[.pointer (some ⟨rb, 0, none⟩)] w fun r w' => r = .returned (.int .i64 e) ∧ w = w' := by
 obtain ⟨c0, c1, c2, f⟩ := h.cells;clear h f
 go_enter Tryz.func71, Tryz.ntmps71
 go_wp2_with fail;go_ret
 exact ⟨rfl, rfl⟩
theorem El (rb a : Nat) (e : Int) (l : List UInt8) (sv : Value) (w : World) (h : Vr w rb a e l sv) :
  Calls Tryz.prog 250 #[.pointer (some ⟨rb, 0, none⟩)] w fun r w' => r = .returned (.int .i64 a) ∧ w = w' := by
 obtain ⟨c0, c1, c2, f⟩ := h.cells;clear h f
 go_enter Tryz.func250, Tryz.ntmps250
 go_wp2_with fail;go_ret
 exact ⟨rfl, rfl⟩
theorem nu (rb a : Nat) (e : Int) (l : List UInt8) (sv : Value) (w : World) (h : Vr w rb a e l sv) :
  Calls Tryz.prog 72 #[.pointer (some ⟨rb, 0, none⟩)] w fun r w' => r = .returned (.int .i64 ((l.length : Int) - (a : Int))) ∧ ∃ n, w' = w.drewN n := by
 obtain ⟨c0, c1, c2, f⟩ := h.cells;have ha := h.2.2;obtain ⟨_, ad, cap, rfl, hc⟩ := h.2.1.shape;clear h f
 go_enter Tryz.func72, Tryz.ntmps72
 go_wp2_with fail
 go_quiet (fail)
 go_wp2_with fail;go_ret
 exact ⟨rfl, nq, rfl⟩
theorem jm (rb a : Nat) (e : Int) (l : List UInt8) (sv : Value) (w : World) (h : Vr w rb a 0 l sv) :
  Calls Tryz.prog 118 #[.pointer (some ⟨rb, 0, none⟩), .int .i64 e] w fun r w' => r = .returned (.tuple #[]) ∧ Vr w' rb a e l sv ∧ Rg rb w w' ∧ w'.1.size = w.1.size := by
 obtain ⟨c0, c1, c2, f⟩ := h.cells;have f1 := f 1;have H := hid h;clear h f
 go_enter Tryz.func118, Tryz.ntmps118
 go_wp2_with fail
 go_end0
 exact ⟨rfl, H.out.fail e, (Rg.refl _ _).setCell _ _, by simp⟩
def Ic (rb a : Nat) (l : List UInt8) (sv : Value) (w : World) (r : Ending) (w' : World) : Prop :=
 ∃ (v a' : Nat) (e' : Int), r = .returned (.int .u64 v) ∧ v < 18446744073709551616 ∧ Vr w' rb a' e' l sv ∧ Rg rb w w' ∧ a ≤ a' ∧
  (e' = 0 → bf (l.drop a) = some (v, l.drop a')) ∧ (e' ≠ 0 → v = 0 ∧ a' = a ∧ bf (l.drop a) = none ∧ e' = dJ (l.drop a))
theorem ow (rb a : Nat) (e : Int) (l : List UInt8) (sv : Value) (w : World) (h : Vr w rb a e l sv) (he : e ≠ 0) :
  Calls Tryz.prog 70 #[.pointer (some ⟨rb, 0, none⟩)] w fun r w' => r = .returned (.int .u64 0) ∧ w = w' := by
 have t : (e == 0) = false := by simpa using he
 have H := hid (eu rb a e l sv w h);clear h he
 go_enter Tryz.func70, Tryz.ntmps70
 go_wp2_with fail;refine H.out.mono ?_;rintro r w' ⟨rfl, rfl⟩;go_wp2_with fail;go_ret
 exact ⟨rfl, rfl⟩
theorem jI {l r : List UInt8} {n : Nat} (h : bf l = some (n, r)) : r = l.drop (l.length - r.length) := by
 obtain ⟨p, hp⟩ := kI h;rw [← hp]; simp
theorem kv (rb a : Nat) (l : List UInt8) (sv : Value) (w : World) (h : Vr w rb a 0 l sv) :
  Calls Tryz.prog 70 #[.pointer (some ⟨rb, 0, none⟩)] w (Ic rb a l sv w) := by
 have hlt := h.lt;obtain ⟨c0, c1, c2, f⟩ := h.cells;have ha := h.2.2;have HWl := hid (eu rb a 0 l sv w h);have HV := hid h;obtain ⟨_, ad, cap, rfl, hc⟩ := h.2.1.shape;clear h f
 go_enter Tryz.func70, Tryz.ntmps70
 go_wp2_with fail;refine HWl.out.mono ?_;rintro r w0 ⟨rfl, rfl⟩;go_wp2_with fail;have hbW : Below w.1.size w w := br
 go_region_held3 (fun w' => w'.cell? ⟨rb, 0, none⟩ = some (.int .i64 a) ∧ w'.cell? ⟨rb, 2, none⟩ = some (.slice ad l.length cap))
  (first
   | exact ⟨(hbW.cell hlt).trans c0, (hbW.cell hlt).trans c2⟩
   | go_keep)
  (first
   | (go_at_call 117; go_fit (sP _ _ l _ a _ (HV.out.below (by first | exact hbW | exact hbW.drew)).2.1 ha.1 ha.2); rintro e w2 ⟨rfl, hb2⟩; unfold pG; replace hbW := (by first | exact hbW.trans (hb2.mono hbW.size) | exact hbW.drew.trans (hb2.mono hbW.size)); clear hb2))
 have hv2 := HV.out.below hbW;have hlt2 := hv2.lt;obtain ⟨k0, k1, k2, f⟩ := hv2.cells;have f0 := f 0;have HV2 := hid hv2;have HB2 := hid hbW;clear hv2 f hbW c0 c1 c2;by_cases h0 : dJ (l.drop a) = 0
 ·have t1 : (dJ (l.drop a) != 0) = false := by simp [h0]
  obtain ⟨x, hx⟩ := Option.isSome_iff_exists.1 ((dG _).1 h0);obtain ⟨v, r⟩ := x;have hr : r = l.drop (fI a (l.drop a)) ∧ a ≤ fI a (l.drop a) ∧ fI a (l.drop a) ≤ l.length := by
   have h1 := jI hx;have h2 := dX hx;have h3 : fI a (l.drop a) = a + ((l.drop a).length - r.length) := (by unfold fI; rw [hx]);refine ⟨?_, by omega, ?_⟩
   ·rw [h3, ← List.drop_drop]; exact h1
   ·rw [h3]; simp; omega
  have hn : kK (l.drop a) = v := by unfold kK; rw [hx]
  have hv := nJ hx;have HR := hid (au hx hr);rw [hn];have hr2 := hr.2.2;generalize fI a (l.drop a) = a' at HR hr2 ⊢;clear h0 hx hr hn;go_wp2_with fail;go_ret
  exact ⟨v, a', 0, rfl, hv, HV2.out.move a' hr2, (Rg.of_below HB2.out).setCell _ _, HR.out.2.2.1, fun _ => by rw [HR.out.1, ← HR.out.2.1], fun h => absurd rfl h⟩
 ·have t1 : (dJ (l.drop a) != 0) = true := by simp [h0]
  have hn : bf (l.drop a) = none := by
   cases hv : bf (l.drop a) with
   | none => rfl
   | some x => exact absurd ((dG _).2 (by rw [hv]; rfl)) h0
  have H0 := hid (au h0 hn);obtain ⟨c, hc⟩ : ∃ c, c = dJ (l.drop a) := ⟨_, rfl⟩;rw [← hc] at t1 ⊢;have HC := hid hc;clear h0 hn hc;go_wp2_with fail;refine (jm rb a c l _ _ HV2.out).mono ?_;rintro r w3 ⟨rfl, hv3, hg3, hz3⟩;go_wp2_with fail;go_ret
  exact ⟨0, a, c, rfl, by omega, hv3, (Rg.of_below HB2.out).trans hg3, Nat.le_refl _, fun h => absurd (HC.out.symm.trans h) H0.out.1, fun _ => ⟨rfl, rfl, H0.out.2, HC.out⟩⟩
def Ie (rb a : Nat) (l : List UInt8) (sv : Value) (n : Nat) (w : World) (r : Ending) (w' : World) : Prop :=
 ∃ (v : Value) (p : List UInt8) (a' : Nat) (e' : Int), r = .returned v ∧ Vr w' rb a' e' l sv ∧ Rg rb w w' ∧ w'.ownsRow w.1.size 5 1 v p.length (bytes p) ∧
  (n ≤ l.length - a → e' = 0 ∧ p = (l.drop a).take n ∧ a' = a + n) ∧ (¬ n ≤ l.length - a → e' = 4 ∧ p = [] ∧ a' = a)
theorem pI (rb a : Nat) (e n : Int) (l : List UInt8) (sv : Value) (w : World) (h : Vr w rb a e l sv) (he : e ≠ 0) :
  Calls Tryz.prog 200 #[.pointer (some ⟨rb, 0, none⟩), .int .i64 n] w fun r w' => r = .returned (.slice none 0 0) ∧ w = w' := by
 have t : (e == 0) = false := by simpa using he
 have H := hid (eu rb a e l sv w h);clear h he
 go_enter Tryz.func200, Tryz.ntmps200
 go_wp2_with fail;refine H.out.mono ?_;rintro r w' ⟨rfl, rfl⟩;go_wp2_with fail;go_ret
 exact ⟨rfl, rfl⟩
theorem fO (rb a n : Nat) (l : List UInt8) (sv : Value) (w : World) (h : Vr w rb a 0 l sv) (hn : n ≤ 1000000) :
  Calls Tryz.prog 200 #[.pointer (some ⟨rb, 0, none⟩), .int .i64 n] w (Ie rb a l sv n w) := by
 have hlt := h.lt;obtain ⟨c0, c1, c2, f⟩ := h.cells;have f0 := f 0;have ha := h.2.2;have HWl := hid (eu rb a 0 l sv w h);have HLf := hid (nu rb a 0 l sv w h);have HV := hid h;obtain ⟨_, ad, cap, rfl, hc⟩ := h.2.1.shape;clear h f
 go_enter Tryz.func200, Tryz.ntmps200
 go_wp2_with fail;refine HWl.out.mono ?_;rintro r w0 ⟨rfl, rfl⟩;go_wp2_with fail;refine HLf.out.mono ?_;rintro r w0 ⟨rfl, nq, rfl⟩;have hb0 : Below w.1.size w (w.drewN nq) := below_drewN br _;have HV0 := hid (HV.out.below hb0);have HB0 := hid hb0;clear hb0;by_cases hle : n ≤ l.length - a
 ·have t1 : decide ((l.length : Int) - (a : Int) < (n : Int)) = false := by simp; omega
  have HN := hid hle;go_wp2_with fail;have hvm := HV0.out.move (a + n) (by omega);rw [show ((a + n : Nat) : Int) = (a : Int) + (n : Int) from by omega] at hvm;have hgm : Rg rb w ((w.drewN nq).setCell ⟨rb, 0, none⟩ (.int .i64 ((a : Int) + (n : Int)))) := (Rg.of_below HB0.out).setCell _ _;generalize (w.drewN nq).setCell ⟨rb, 0, none⟩ (.int .i64 ((a : Int) + (n : Int))) = W1 at hvm hgm ⊢;obtain ⟨k0, k1, k2, _⟩ := hvm.cells;have hl1 := hvm.lt;rw [show ((a + n : Nat) : Int) = (a : Int) + (n : Int) from by omega] at k0;have hsz1 := hgm.size;have x1 : IntKind.i64.wrap (a : Int) = (a : Int) := IntWalk.i64_in _ (by omega);have x3 : (0 : Int) ≤ (a : Int) := by omega
  have x4 : (a : Int) ≤ (a : Int) + (n : Int) := by omega
  have x5 : (a : Int) + (n : Int) ≤ (cap : Int) := by omega
  have x6 : ((a : Int) + (n : Int)).toNat = a + n := by omega
  have x7 : ((a : Int)).toNat = a := by omega
  have hbW : Below W1.1.size W1 W1 := br;obtain ⟨pt, hpt⟩ : ∃ pt, pt = (l.drop a).take n := ⟨_, rfl⟩;have hptl : pt.length ≤ 1000000 := by rw [hpt]; simp; omega
  have HPT := hid hpt;by_cases hac : a < cap
  ·have y1 : (a == cap) = false := by simp; omega
   have y2 : ¬ a = cap := (by omega);have y3 : ¬ cap = a := (by omega);have HS : Hid (aO W1 (fun b => b < rb) false pt (.slice (ad.map fun x => x.add a) n (cap - a))) := hid (by rw [hpt]; exact aO.cut hvm.2.1 a n (cap - a) (by omega) (by omega));have HVm := hid (au hgm hvm);clear hgm hvm hle hpt
   go_region_held3 (fun w' => w'.cell? ⟨rb, 0, none⟩ = some (.int .i64 ((a : Int) + (n : Int))) ∧ w'.cell? ⟨rb, 2, none⟩ = some (.slice ad l.length cap))
    (first
     | exact ⟨(hbW.cell hl1).trans k0, (hbW.cell hl1).trans k2⟩
     | go_keep)
    (first
     | (go_at_call 65; go_fit (dM _ _ pt _ _ (HS.out.below (by first | exact hbW | exact hbW.drew) nl) (by omega)); rintro e w2 ⟨v2, rfl, hown2, hb2⟩; obtain ⟨sa2, sc2, rfl⟩ := aQ hown2; replace hbW := (by first | exact hbW.trans (hb2.mono hbW.size) | exact hbW.drew.trans (hb2.mono hbW.size))))
   go_wp2_with fail;go_ret
   exact ⟨.slice sa2 pt.length sc2, pt, a + n, 0, rfl, HVm.out.2.below hbW, HVm.out.1.trans (Rg.of_below hbW), iD hown2 (by show _ ≤ W1.1.size; omega), fun _ => ⟨rfl, HPT.out, rfl⟩, fun h => absurd HN.out h⟩
  ·have hn0 : n = 0 := by omega
   have y1 : cap = a := (by omega);subst hn0;have HS : Hid (aO W1 (fun b => b < rb) false pt (.slice ad 0 0)) := hid (by rw [hpt]; simp only [List.take_zero]; exact aO.none);have HVm := hid (au hgm hvm);clear hgm hvm hle hpt hac
   go_region_held3 (fun w' => w'.cell? ⟨rb, 0, none⟩ = some (.int .i64 ((a : Int) + ((0 : Nat) : Int))) ∧ w'.cell? ⟨rb, 2, none⟩ = some (.slice ad l.length cap))
    (first
     | exact ⟨(hbW.cell hl1).trans k0, (hbW.cell hl1).trans k2⟩
     | go_keep)
    (first
     | (go_at_call 65; go_fit (dM _ _ pt _ _ (HS.out.below (by first | exact hbW | exact hbW.drew) nl) (by omega)); rintro e w2 ⟨v2, rfl, hown2, hb2⟩; obtain ⟨sa2, sc2, rfl⟩ := aQ hown2; replace hbW := (by first | exact hbW.trans (hb2.mono hbW.size) | exact hbW.drew.trans (hb2.mono hbW.size))))
   go_wp2_with fail;go_ret
   exact ⟨.slice sa2 pt.length sc2, pt, a + 0, 0, rfl, HVm.out.2.below hbW, HVm.out.1.trans (Rg.of_below hbW), iD hown2 (by show _ ≤ W1.1.size; omega), fun _ => ⟨rfl, HPT.out, rfl⟩, fun h => absurd HN.out h⟩
 ·have t1 : decide ((l.length : Int) - (a : Int) < (n : Int)) = true := by simp; omega
  have HN := hid hle;clear hle;go_wp2_with fail;refine (jm rb a 4 l _ _ HV0.out).mono ?_;rintro r w3 ⟨rfl, hv3, hg3, hz3⟩;go_wp2_with fail;go_ret
  exact ⟨_, [], a, 4, rfl, hv3, (Rg.of_below HB0.out).trans hg3, World.ownsRow_nil _ _ _ _, fun h => absurd h HN.out, fun _ => ⟨rfl, rfl, rfl⟩⟩
theorem ny (S : Nat → Prop) (own : Bool) (l : List UInt8) (v : Value) (w : World) (hr : aO w S own l v) (hl : l.length ≤ 1000000) :
  Calls Tryz.prog 69 #[v] w fun e w' => ∃ rb sv, e = .returned (.pointer (some ⟨rb, 0, none⟩)) ∧ Vr w' rb 0 0 l sv ∧ w.1.size ≤ rb ∧ Below w.1.size w w' := by
 have HC := hid (dM S own l v w hr (by omega));clear hr
 go_enter Tryz.func69, Tryz.ntmps69
 go_wp2_with fail;refine HC.out.mono ?_;rintro e w1 ⟨v1, rfl, hown1, hb1⟩;have HO := hid (au hown1 hb1);obtain ⟨sa, sc, rfl⟩ := aQ hown1;clear hown1 hb1;go_wp2_with fail;go_ret
 have hs := HO.out.2.size;refine ⟨w1.1.size, _, rfl, ⟨aK _ _ _ rfl, ?_, by omega, hl⟩, hs, HO.out.2.alloc hs _⟩;have hlt := HO.out.1.lt;exact Sl.keep ((Sl.of_owns HO.out.1 (by omega)).unown) (by omega) (fun b hb hbl => aL _ _ _ hbl) (fun b hb h => hb)
def kE (b : List UInt8) (o : Option (List UInt8)) (n : Int) : Prop := (n = -1 ∧ o = none) ∨ ∃ q : Nat, q ≤ b.length ∧ n = q ∧ o = some (b.drop q)
theorem kE.bounds {b : List UInt8} {o : Option (List UInt8)} {n : Int} (h : kE b o n) : -1 ≤ n ∧ n ≤ b.length := by
 rcases h with ⟨h, _⟩ | ⟨_, _, h, _⟩ <;> omega
theorem kE.obd {b : List UInt8} {o : Option (List UInt8)} {n : Int} (h : kE b o n) : ∀ r, o = some r → r.length ≤ b.length := by
 intro r hr;rcases h with ⟨_, h⟩ | ⟨q, _, _, h⟩
 ·rw [h] at hr; cases hr
 ·rw [h] at hr; injection hr with hr; subst hr; simp
theorem yJ (b : List UInt8) (a : Nat) (ha : a ≤ b.length) : kE b (dV (some (b.drop a))) (sO a (b.drop a)) ∧ kK (b.drop a) = iT (some (b.drop a)) := by
 unfold sO kK fI dV iT;simp only [ai];cases h : bf (b.drop a) with
 | none => exact ⟨Or.inl ⟨by simp, by simp⟩, by first | rfl | trivial⟩
 | some x =>
  obtain ⟨v, r⟩ := x;have h1 := qV (kI h);have h2 := dX h;simp at h2;refine ⟨Or.inr ⟨a + ((b.drop a).length - r.length), by simp; omega, by simp, ?_⟩, by first | rfl | trivial⟩;simp only [Option.map_some, Option.some.injEq];rw [← List.drop_drop]; exact h1
def Em (b : List UInt8) (o : Option (List UInt8)) (w : World) (e : Ending) (w' : World) : Prop :=
 ∃ (A : Nat) (n : Int), e = .returned (.tuple #[.int .u64 (A : Nat), .int .i64 n]) ∧ A = iT o ∧ kE b (dV o) n ∧ Below w.1.size w w'
theorem jo (S : Nat → Prop) (own : Bool) (b : List UInt8) (v : Value) (o : Option (List UInt8)) (n : Int) (w : World) (hr : aO w S own b v) (h : kE b o n) (hb : b.length ≤ 1000000) :
  Calls Tryz.prog 231 #[v, .int .i64 n] w (Em b o w) := by
 rcases h with ⟨rfl, rfl⟩ | ⟨q, hq, rfl, rfl⟩
 ·obtain ⟨_, ad, cap, rfl, _⟩ := hr.shape
  exact (uF ad b.length cap (-1) (by omega) hb w).mono fun e w' ⟨h1, h2⟩ => by subst h2; exact ⟨0, -1, h1, rfl, Or.inl ⟨rfl, rfl⟩, br⟩
 ·exact (xe S own b v q w hr hq hb).mono fun e w' ⟨h1, h2⟩ => ⟨_, _, h1, (yJ b q hq).2, (yJ b q hq).1, h2⟩
def gD (b : List UInt8) (o : Option (Ex × List UInt8)) (w : World) (e : Ending) (w' : World) : Prop :=
 ∃ (t : Ex) (v : Value) (n : Int), e = .returned (.tuple #[v, .int .i64 n]) ∧ aT w' (fun b => w.1.size ≤ b) true t v ∧ Below w.1.size w w' ∧
  ((n = -1 ∧ o = none) ∨ ∃ q : Nat, q ≤ b.length ∧ n = q ∧ o = some (t, b.drop q))
def dP (d : Nat) (b : List UInt8) (o : Option (List UInt8)) (j : Nat) (es : List Ex) (n : Int) : Prop :=
 (n = -1 ∧ o.bind (bi (tkE d) j) = none) ∨ ∃ q : Nat, q ≤ b.length ∧ n = q ∧ o.bind (bi (tkE d) j) = some (es, b.drop q) ∧ es.length ≤ b.length
theorem dP.start {d : Nat} {b : List UInt8} {o : Option (List UInt8)} {n : Int} (h : kE b o n) : dP d b o 0 [] n := by
 rcases h with ⟨h1, h2⟩ | ⟨q, h1, h2, h3⟩
 ·exact Or.inl ⟨h1, by rw [h2]; rfl⟩
 ·exact Or.inr ⟨q, h1, h2, by rw [h3]; rfl, by simp⟩
theorem dP.step {d j q : Nat} {b : List UInt8} {o : Option (List UInt8)} {es : List Ex} {t : Ex} {n : Int} (h : o.bind (bi (tkE d) j) = some (es, b.drop q)) (hq : q ≤ b.length) (hob : ∀ r, o = some r → r.length ≤ b.length)
  (ht : (n = -1 ∧ tkE d (b.drop q) = none) ∨ ∃ q' : Nat, q' ≤ b.length ∧ n = q' ∧ tkE d (b.drop q) = some (t, b.drop q')) : dP d b o (j + 1) (es ++ [t]) n ∧ (n = -1 ∨ (q : Int) < n) := by
 cases o with
 | none => cases h
 | some r =>
  simp only [ai] at h;have hs := jk (tkE d) j r;rw [h] at hs;rcases ht with ⟨h1, h2⟩ | ⟨q', h1, h2, h3⟩
  ·refine ⟨Or.inl ⟨h1, ?_⟩, Or.inl h1⟩
   simp only [ai, hs, h2]; rfl
  ·have hz := qU d _ _ _ h3
   have hp := t.size_pos;simp at hz;have e : bi (tkE d) (j + 1) r = some (es ++ [t], b.drop q') := (by simp only [hs, h3]; rfl);refine ⟨Or.inr ⟨q', h1, h2, e, ?_⟩, Or.inr (by omega)⟩;have := (qa _ (qU d) _ _ _ _ e).1;have h5 := Ex.length_le_sizes (es ++ [t]);have := hob r rfl;omega
theorem dP.ends {d m j : Nat} {b : List UInt8} {o : Option (List UInt8)} {es : List Ex} {n : Int} (h : dP d b o j es n) (hj : j ≤ m) (hm : n = -1 ∨ j = m) (k A B : Nat) :
  (n = -1 ∧ ((o.bind (bi (tkE d) m)).map fun x => ((.mk k A B x.1, x.2) : Ex × List UInt8)) = none) ∨ ∃ q : Nat, q ≤ b.length ∧ n = q ∧ ((o.bind (bi (tkE d) m)).map fun x => ((.mk k A B x.1, x.2) : Ex × List UInt8)) = some (.mk k A B es, b.drop q) := by
 rcases h with ⟨h1, h2⟩ | ⟨q, h1, h2, h3, _⟩
 ·refine Or.inl ⟨h1, ?_⟩
  cases o with
  | none => rfl
  | some r =>
   simp only [ai] at h2 ⊢;rw [qR _ j m r hj h2]; rfl
 ·have : j = m := by omega
  subst this;exact Or.inr ⟨q, h1, h2, by rw [h3]; rfl⟩
def mz (len : Nat) (n : Int) : Nat := if n < 0 then 0 else len + 1 - n.toNat
theorem Gj {len p : Nat} {n : Int} (h : n = -1 ∨ (p : Int) < n) (h2 : n ≤ len) (hp : p ≤ len) : mz len n < mz len (p : Int) := by
 unfold mz;rw [if_neg (show ¬ (p : Int) < 0 by omega)];rcases h with h | h
 ·subst h; simp; omega
 ·rw [if_neg (by omega)]; omega
def gF (d : Nat) (b : List UInt8) (q : Nat) : Option (Ex × List UInt8) := (iU (tkE d) (bK (at8 b q) (b.drop (q + 1)))).map fun x => (.mk (at8 b q : Nat) (bK (at8 b q) (b.drop (q + 1))).1 (bK (at8 b q) (b.drop (q + 1))).2.1 x.1, x.2)
theorem CK {d : Nat} {b : List UInt8} {q : Nat} (hq : q < b.length) (h1 : 1 ≤ at8 b q) (h7 : at8 b q ≤ 7) : tkE (d + 1) (b.drop q) = gF d b q := by
 have e : b.drop q = b[q] :: b.drop (q + 1) := List.drop_eq_getElem_cons hq;rw [dB b q hq] at h1 h7;unfold gF;rw [e, tkE, if_pos ⟨h1, h7⟩, dB b q hq]
theorem jJ {d k q A B m : Nat} {b : List UInt8} {o : Option (List UInt8)} (hk : k = at8 b q) (h : bK k (b.drop (q + 1)) = (A, B, m, o)) : gF d b q = (o.bind (bi (tkE d) m)).map fun x => (.mk (k : Nat) A B x.1, x.2) := by
 unfold gF iU;rw [← hk, h]
theorem cz.of_row {w : World} {g B : Nat} {cs : Array Value} (h : g < B) : cz (fun b => B ≤ b) w (w.setRow g cs) := fun b hb _ => setRow_other _ _ _ _ (by omega)
theorem cz.refl (S : Nat → Prop) (w : World) : cz S w w := fun _ _ _ => rfl
theorem nz (d q : Nat) (S : Nat → Prop) (own : Bool) (b : List UInt8) (v : Value) (w : World) (hr : aO w S own b v) (hq : q ≤ b.length) (hb : b.length ≤ 100000) (o : Option (Ex × List UInt8)) (ho : o = none)
  (hc : d = 0 ∨ q = b.length ∨ (q < b.length ∧ (at8 b q < 1 ∨ 7 < at8 b q))) : Calls Tryz.prog 209 #[v, .int .i64 q, .int .i64 d] w (gD b o w) := by
 obtain ⟨_, ad, cap, rfl, _⟩ := hr.shape;have HZ : (w.alloc (.cells #[.int .i64 0, .int .u64 0, .int .u64 0, .slice none 0 0] 62)).1[w.1.size]? = some (.cells #[.int .i64 0, .int .u64 0, .int .u64 0, .slice none 0 0] 62 (0, 0)) := aK _ _ _ rfl;have HF : Hid (gD b o w (.returned (.tuple #[.agg #[.int .i64 0, .int .u64 0, .int .u64 0, .slice none 0 0], .int .i64 (-1)])) ((w.alloc (.cells #[.int .i64 0, .int .u64 0, .int .u64 0, .slice none 0 0] 62)).setRow w.1.size #[.int .i64 0, .int .u64 0, .int .u64 0, .slice none 0 0])) := hid
  ⟨.zero, _, -1, rfl, bN (by omega) (by omega) (by omega) (by omega), below_setRow (br.alloc nl _) _ _ nl, Or.inl ⟨rfl, ho⟩⟩
 have HR := hid hr;have HZ0 := hid HZ;clear hr HZ ho;rcases hc with rfl | hc
 ·go_enter Tryz.func209, Tryz.ntmps209
  go_wp2_with (refine wpList_store_row rfl 62 (.tmp 6) (.tmp 39) rfl rfl w.1.size rfl _ rfl 62 #[.int .i64 0, .int .u64 0, .int .u64 0, .slice none 0 0] HZ0.out (by kernel_rfl) rfl (by simp [Value.oneCell']) ?_)
  exact aC (v := .tuple #[.agg #[.int .i64 0, .int .u64 0, .int .u64 0, .slice none 0 0], .int .i64 (-1)]) (aN rfl _ _ w.1.size 62 _ _ _ _ rfl (aB _ _ _ _ _ _ HZ0.out) Tryz.underlying62 rfl (by kernel_rfl) rfl) rfl HF.out
 by_cases hd : d = 0
 ·subst hd
  clear hc
  go_enter Tryz.func209, Tryz.ntmps209
  go_wp2_with (refine wpList_store_row rfl 62 (.tmp 6) (.tmp 39) rfl rfl w.1.size rfl _ rfl 62 #[.int .i64 0, .int .u64 0, .int .u64 0, .slice none 0 0] HZ0.out (by kernel_rfl) rfl (by simp [Value.oneCell']) ?_)
  exact aC (v := .tuple #[.agg #[.int .i64 0, .int .u64 0, .int .u64 0, .slice none 0 0], .int .i64 (-1)]) (aN rfl _ _ w.1.size 62 _ _ _ _ rfl (aB _ _ _ _ _ _ HZ0.out) Tryz.underlying62 rfl (by kernel_rfl) rfl) rfl HF.out
 have t0 : ((d : Int) == 0) = false := by simp; omega
 have t1 : decide ((q : Int) < 0) = false := by simp
 rcases hc with hc | ⟨hlt, hc⟩
 ·have t2 : b.length ≤ q := by omega
  clear hd hc
  go_enter Tryz.func209, Tryz.ntmps209
  go_wp2_with (refine wpList_store_row rfl 62 (.tmp 6) (.tmp 39) rfl rfl w.1.size rfl _ rfl 62 #[.int .i64 0, .int .u64 0, .int .u64 0, .slice none 0 0] HZ0.out (by kernel_rfl) rfl (by simp [Value.oneCell']) ?_)
  exact aC (v := .tuple #[.agg #[.int .i64 0, .int .u64 0, .int .u64 0, .slice none 0 0], .int .i64 (-1)]) (aN rfl _ _ w.1.size 62 _ _ _ _ rfl (aB _ _ _ _ _ _ HZ0.out) Tryz.underlying62 rfl (by kernel_rfl) rfl) rfl HF.out
 have t2 : decide ((b.length : Int) ≤ (q : Int)) = false := by simp; omega
 obtain ⟨bl, off, rfl, _, g⟩ := aO.at8 HR.out hlt;have g' : (w.alloc (.cells #[.int .i64 0, .int .u64 0, .int .u64 0, .slice none 0 0] 62)).cell? ⟨bl, off + q, none⟩ = some (.int .u8 (at8 b q : Nat)) := by rw [World.cell?_alloc_past _ _ _ (aG w _ g)]; exact g
 have hbl := aG w _ g;rcases hc with hc | hc
 ·have hc0 : at8 b q = 0 := by omega
  rw [hc0] at g g';clear hc hc0;clear hd
  go_enter Tryz.func209, Tryz.ntmps209
  go_wp2_with (refine wpList_store_row rfl 62 (.tmp 6) (.tmp 39) rfl rfl w.1.size rfl _ rfl 62 #[.int .i64 0, .int .u64 0, .int .u64 0, .slice none 0 0] HZ0.out (by kernel_rfl) rfl (by simp [Value.oneCell']) ?_)
  exact aC (v := .tuple #[.agg #[.int .i64 0, .int .u64 0, .int .u64 0, .slice none 0 0], .int .i64 (-1)]) (aN rfl _ _ w.1.size 62 _ _ _ _ rfl (aB _ _ _ _ _ _ HZ0.out) Tryz.underlying62 rfl (by kernel_rfl) rfl) rfl HF.out
 ·have t3 : decide ((at8 b q : Int) < 1) = false := by simp; omega
  have t4 : decide ((7 : Int) < (at8 b q : Int)) = true := by simp; omega
  clear hd
  go_enter Tryz.func209, Tryz.ntmps209
  go_wp2_with (refine wpList_store_row rfl 62 (.tmp 6) (.tmp 39) rfl rfl w.1.size rfl _ rfl 62 #[.int .i64 0, .int .u64 0, .int .u64 0, .slice none 0 0] HZ0.out (by kernel_rfl) rfl (by simp [Value.oneCell']) ?_)
  exact aC (v := .tuple #[.agg #[.int .i64 0, .int .u64 0, .int .u64 0, .slice none 0 0], .int .i64 (-1)]) (aN rfl _ _ w.1.size 62 _ _ _ _ rfl (aB _ _ _ _ _ _ HZ0.out) Tryz.underlying62 rfl (by kernel_rfl) rfl) rfl HF.out
theorem FJ (d : Nat) (hd : d ≤ 100) (IH : Hid (∀ (S : Nat → Prop) (own : Bool) (b : List UInt8) (v : Value) (q : Nat) (w : World), b.length ≤ 100000 → q ≤ b.length → aO w S own b v → Calls Tryz.prog 209 #[v, .int .i64 q, .int .i64 d] w (gD b (tkE d (b.drop q)) w))) (S : Nat → Prop) (own : Bool) (b : List UInt8) (v : Value) (q : Nat) (w : World) (hr : aO w S own b v) (hq : q < b.length) (hb : b.length ≤ 100000) (hk1 : 1 ≤ at8 b q) (hk2 : at8 b q ≤ 1) :
  Calls Tryz.prog 209 #[v, .int .i64 q, .int .i64 ((d : Int) + 1)] w (gD b (gF d b q) w) := by
 obtain ⟨i0, hi0, hz0, hz01, hz02⟩ := info_parts lV;obtain ⟨_, ad, cap, rfl, hcap⟩ := hr.shape;obtain ⟨k, hk⟩ : ∃ k, k = at8 b q := ⟨_, rfl⟩;obtain ⟨bl, off, rfl, _, g⟩ := aO.at8 hr hq;rw [← hk] at g hk1 hk2;have hbl := aG w _ g;have HR := hid hr;obtain ⟨W1, hW1⟩ : ∃ W1, W1 = (w.alloc (.cells #[.int .i64 0, .int .u64 0, .int .u64 0, .slice none 0 0] 62)).alloc (.cells #[.int .i64 (k : Nat), .int .u64 0, .int .u64 0, .slice none 0 0] 62) := ⟨_, rfl⟩;have HW1 : Hid (W1.1[w.1.size]? = some (.cells #[.int .i64 0, .int .u64 0, .int .u64 0, .slice none 0 0] 62 (0, 0)) ∧ W1.1[w.1.size + 1]? = some (.cells #[.int .i64 (k : Nat), .int .u64 0, .int .u64 0, .slice none 0 0] 62 (0, 0)) ∧ Below w.1.size w W1) := by
  refine hid ⟨?_, ?_, ?_⟩
  ·rw [hW1]; exact (aL _ _ _ (by simp)).trans (aK _ _ _ rfl)
  ·rw [hW1]; exact aK _ _ _ (by simp)
  ·rw [hW1]; exact (br.alloc nl _).alloc (by simp) _
 have t0 : (((d : Int) + 1) == 0) = false := by simp; omega
 have t1 : decide ((q : Int) < 0) = false := by simp
 have t2 : decide ((b.length : Int) ≤ (q : Int)) = false := by simp; omega
 have t2' : ¬ b.length ≤ q := by omega
 have t3 : decide ((k : Int) < 1) = false := by simp; omega
 have t4 : decide ((7 : Int) < (k : Int)) = false := by simp; omega
 have HK := hid hk;have HW1e := hid hW1;have hn0 : kE b (some (b.drop (q + 1))) ((q : Int) + 1) := Or.inr ⟨q + 1, by omega, by omega, rfl⟩;clear hr hk hW1;have s1 : ((k : Int) == 4) = false := by simp; omega
 have s2 : ((k : Int) == 5) = false := by simp; omega
 have s3 : ¬ (2 : Int) ≤ (k : Int) := by omega
 have s4 : (k : Int) ≤ 4 := by omega
 have s5 : ¬ (6 : Int) ≤ (k : Int) := by omega
 go_enter Tryz.func209, Tryz.ntmps209
 go_wp2_with fail;rw [← HW1e.out];obtain ⟨o, ho⟩ : ∃ o, o = some (b.drop (q + 1)) := ⟨_, rfl⟩;have HN0 : Hid (kE b o ((q : Int) + 1)) := hid (by rw [ho]; exact hn0);have HFIN : Hid (gF d b q = (o.bind (bi (tkE d) 0)).map fun x => (.mk (k : Nat) 0 0 x.1, x.2)) := hid (jJ HK.out (by
  unfold bK;rw [ho];rw [if_neg (by omega), if_neg (by omega), if_neg (by omega), if_neg (by omega)]))
 have HO := hid HN0.out.obd;clear ho
 go_loop [1, 10] (fun av i => av = .int .i64 ((q : Int) + 1) ∧ i = .int .u64 0) (fun _ _ => 0)
 case atStart => exact ⟨rfl, rfl⟩
 case round =>
  obtain ⟨rfl, rfl⟩ := hrel;have c0 : ∀ o, W1.cell? ⟨w.1.size + 1, o, none⟩ = (#[.int .i64 (k : Nat), .int .u64 0, .int .u64 0, .slice none 0 0] : Array Value)[o]? := fun o => ax W1 _ o _ _ _ HW1.out.2.1
  have l0 : w.1.size + 1 < W1.1.size := (ak HW1.out.2.1).1
  go_wp2_with (refine wpList_store_row rfl 62 (.tmp 6) (.tmp 109) rfl rfl w.1.size rfl _ rfl 62 #[.int .i64 0, .int .u64 0, .int .u64 0, .slice none 0 0] HW1.out.1 (by kernel_rfl) rfl (by simp [Value.oneCell']) ?_)
  refine aC (v := .tuple #[.agg #[.int .i64 (k : Nat), .int .u64 0, .int .u64 0, .slice none 0 0], .int .i64 ((q : Int) + 1)]) (aN rfl _ _ w.1.size 62 _ _ _ _ rfl (aB _ _ _ _ _ _ HW1.out.1) Tryz.underlying62 rfl (by kernel_rfl) rfl) rfl ?_;exact ⟨.mk k 0 0 [], _, ((q : Int) + 1), rfl, bN (by omega) (by omega) (by omega) (by omega), below_setRow HW1.out.2.2 _ _ nl, by
   rw [HFIN.out];exact dP.ends (dP.start HN0.out) (Nat.le_refl 0) (Or.inr rfl) k 0 0⟩
theorem FK (d : Nat) (hd : d ≤ 100) (IH : Hid (∀ (S : Nat → Prop) (own : Bool) (b : List UInt8) (v : Value) (q : Nat) (w : World), b.length ≤ 100000 → q ≤ b.length → aO w S own b v → Calls Tryz.prog 209 #[v, .int .i64 q, .int .i64 d] w (gD b (tkE d (b.drop q)) w))) (S : Nat → Prop) (own : Bool) (b : List UInt8) (v : Value) (q : Nat) (w : World) (hr : aO w S own b v) (hq : q < b.length) (hb : b.length ≤ 100000) (hk1 : 2 ≤ at8 b q) (hk2 : at8 b q ≤ 3) :
  Calls Tryz.prog 209 #[v, .int .i64 q, .int .i64 ((d : Int) + 1)] w (gD b (gF d b q) w) := by
 obtain ⟨i0, hi0, hz0, hz01, hz02⟩ := info_parts lV;obtain ⟨_, ad, cap, rfl, hcap⟩ := hr.shape;obtain ⟨k, hk⟩ : ∃ k, k = at8 b q := ⟨_, rfl⟩;obtain ⟨bl, off, rfl, _, g⟩ := aO.at8 hr hq;rw [← hk] at g hk1 hk2;have hbl := aG w _ g;have HR := hid hr;obtain ⟨W1, hW1⟩ : ∃ W1, W1 = (w.alloc (.cells #[.int .i64 0, .int .u64 0, .int .u64 0, .slice none 0 0] 62)).alloc (.cells #[.int .i64 (k : Nat), .int .u64 0, .int .u64 0, .slice none 0 0] 62) := ⟨_, rfl⟩;have HW1 : Hid (W1.1[w.1.size]? = some (.cells #[.int .i64 0, .int .u64 0, .int .u64 0, .slice none 0 0] 62 (0, 0)) ∧ W1.1[w.1.size + 1]? = some (.cells #[.int .i64 (k : Nat), .int .u64 0, .int .u64 0, .slice none 0 0] 62 (0, 0)) ∧ Below w.1.size w W1) := by
  refine hid ⟨?_, ?_, ?_⟩
  ·rw [hW1]; exact (aL _ _ _ (by simp)).trans (aK _ _ _ rfl)
  ·rw [hW1]; exact aK _ _ _ (by simp)
  ·rw [hW1]; exact (br.alloc nl _).alloc (by simp) _
 have t0 : (((d : Int) + 1) == 0) = false := by simp; omega
 have t1 : decide ((q : Int) < 0) = false := by simp
 have t2 : decide ((b.length : Int) ≤ (q : Int)) = false := by simp; omega
 have t2' : ¬ b.length ≤ q := by omega
 have t3 : decide ((k : Int) < 1) = false := by simp; omega
 have t4 : decide ((7 : Int) < (k : Int)) = false := by simp; omega
 have HK := hid hk;have HW1e := hid hW1;have hn0 : kE b (some (b.drop (q + 1))) ((q : Int) + 1) := Or.inr ⟨q + 1, by omega, by omega, rfl⟩;clear hr hk hW1;have s1 : ((k : Int) == 4) = false := by simp; omega
 have s2 : ((k : Int) == 5) = false := by simp; omega
 have s3 : (2 : Int) ≤ (k : Int) := by omega
 have s4 : (k : Int) ≤ 4 := by omega
 have s5 : ¬ (6 : Int) ≤ (k : Int) := by omega
 go_enter Tryz.func209, Tryz.ntmps209
 go_wp2_with fail;rw [← HW1e.out];refine (jo S own b _ (some (b.drop (q + 1))) _ W1 (HR.out.below (HW1.out.2.2.mono nl) nl) hn0 (by omega)).mono ?_;rintro e w2 ⟨N0, n0, rfl, hN0, hn1, hb2⟩;have hN0l : N0 < 18446744073709551616 := by rw [hN0]; exact fV _
 have HNE0 := hid hN0;have HX : Hid (w2.1[w.1.size]? = some (.cells #[.int .i64 0, .int .u64 0, .int .u64 0, .slice none 0 0] 62 (0, 0)) ∧ w2.1[w.1.size + 1]? = some (.cells #[.int .i64 (k : Nat), .int .u64 0, .int .u64 0, .slice none 0 0] 62 (0, 0)) ∧ Below w.1.size w w2) := hid ⟨(hb2.block _ (by have := (ak HW1.out.1).1; omega)).trans HW1.out.1, (hb2.block _ (by have := (ak HW1.out.2.1).1; omega)).trans HW1.out.2.1, HW1.out.2.2.trans (hb2.mono HW1.out.2.2.size)⟩;have hl2 : w.1.size + 1 < w2.1.size := (ak HX.out.2.1).1;have c2 : ∀ o, w2.cell? ⟨w.1.size + 1, o, none⟩ = (#[.int .i64 (k : Nat), .int .u64 0, .int .u64 0, .slice none 0 0] : Array Value)[o]? := fun o => ax w2 _ o _ _ _ HX.out.2.1
 have f2 : ∀ o, w2.frozen? ⟨w.1.size + 1, o, none⟩ = false := fun o => by rw [aA w2 _ o _ _ HX.out.2.1]
 have f2s := f2 1;have hn1b := hn1.bounds;have HNN0 := hid hn1;clear hN0 hn1 hb2 f2;go_wp2_with fail;obtain ⟨W0, hW0⟩ : ∃ W0, W0 = w2.setCell ⟨w.1.size + 1, 1, none⟩ (.int .u64 (N0 : Nat)) := ⟨_, rfl⟩;have HW0 : Hid (W0.1[w.1.size]? = some (.cells #[.int .i64 0, .int .u64 0, .int .u64 0, .slice none 0 0] 62 (0, 0)) ∧ W0.1[w.1.size + 1]? = some (.cells #[.int .i64 (k : Nat), .int .u64 (N0 : Nat), .int .u64 0, .slice none 0 0] 62 (0, 0)) ∧ Below w.1.size w W0) := by
  refine hid ⟨?_, ?_, ?_⟩
  ·rw [hW0, ay _ _ _ _ (by simp)]; exact HX.out.1
  ·rw [hW0]; exact aM HX.out.2.1 rfl
  ·rw [hW0]; exact HX.out.2.2.setCell (by simp) _
 rw [← hW0];clear hW0 c2 f2s HX hl2;obtain ⟨o, ho⟩ : ∃ o, o = dV (some (b.drop (q + 1))) := ⟨_, rfl⟩;have HN0 : Hid (kE b o n0) := hid (by rw [ho]; exact HNN0.out);have HFIN : Hid (gF d b q = (o.bind (bi (tkE d) 0)).map fun x => (.mk (k : Nat) N0 0 x.1, x.2)) := hid (jJ HK.out (by
  unfold bK;rw [ho];rw [if_pos (by omega), HNE0.out]))
 have HO := hid HN0.out.obd;clear ho
 go_loop [1, 10] (fun av i => av = .int .i64 n0 ∧ i = .int .u64 0) (fun _ _ => 0)
 case atStart => exact ⟨rfl, rfl⟩
 case round =>
  obtain ⟨rfl, rfl⟩ := hrel;have c0 : ∀ o, W0.cell? ⟨w.1.size + 1, o, none⟩ = (#[.int .i64 (k : Nat), .int .u64 N0, .int .u64 0, .slice none 0 0] : Array Value)[o]? := fun o => ax W0 _ o _ _ _ HW0.out.2.1
  have l0 : w.1.size + 1 < W0.1.size := (ak HW0.out.2.1).1
  go_wp2_with (refine wpList_store_row rfl 62 (.tmp 6) (.tmp 109) rfl rfl w.1.size rfl _ rfl 62 #[.int .i64 0, .int .u64 0, .int .u64 0, .slice none 0 0] HW0.out.1 (by kernel_rfl) rfl (by simp [Value.oneCell']) ?_)
  refine aC (v := .tuple #[.agg #[.int .i64 (k : Nat), .int .u64 N0, .int .u64 0, .slice none 0 0], .int .i64 n0]) (aN rfl _ _ w.1.size 62 _ _ _ _ rfl (aB _ _ _ _ _ _ HW0.out.1) Tryz.underlying62 rfl (by kernel_rfl) rfl) rfl ?_;exact ⟨.mk k N0 0 [], _, n0, rfl, bN (by omega) (by omega) (by omega) (by omega), below_setRow HW0.out.2.2 _ _ nl, by
   rw [HFIN.out];exact dP.ends (dP.start HN0.out) (Nat.le_refl 0) (Or.inr rfl) k N0 0⟩
theorem FL (d : Nat) (hd : d ≤ 100) (IH : Hid (∀ (S : Nat → Prop) (own : Bool) (b : List UInt8) (v : Value) (q : Nat) (w : World), b.length ≤ 100000 → q ≤ b.length → aO w S own b v → Calls Tryz.prog 209 #[v, .int .i64 q, .int .i64 d] w (gD b (tkE d (b.drop q)) w))) (S : Nat → Prop) (own : Bool) (b : List UInt8) (v : Value) (q : Nat) (w : World) (hr : aO w S own b v) (hq : q < b.length) (hb : b.length ≤ 100000) (hk1 : 4 ≤ at8 b q) (hk2 : at8 b q ≤ 4) :
  Calls Tryz.prog 209 #[v, .int .i64 q, .int .i64 ((d : Int) + 1)] w (gD b (gF d b q) w) := by
 obtain ⟨i0, hi0, hz0, hz01, hz02⟩ := info_parts lV;obtain ⟨_, ad, cap, rfl, hcap⟩ := hr.shape;obtain ⟨k, hk⟩ : ∃ k, k = at8 b q := ⟨_, rfl⟩;obtain ⟨bl, off, rfl, _, g⟩ := aO.at8 hr hq;rw [← hk] at g hk1 hk2;have hbl := aG w _ g;have HR := hid hr;obtain ⟨W1, hW1⟩ : ∃ W1, W1 = (w.alloc (.cells #[.int .i64 0, .int .u64 0, .int .u64 0, .slice none 0 0] 62)).alloc (.cells #[.int .i64 (k : Nat), .int .u64 0, .int .u64 0, .slice none 0 0] 62) := ⟨_, rfl⟩;have HW1 : Hid (W1.1[w.1.size]? = some (.cells #[.int .i64 0, .int .u64 0, .int .u64 0, .slice none 0 0] 62 (0, 0)) ∧ W1.1[w.1.size + 1]? = some (.cells #[.int .i64 (k : Nat), .int .u64 0, .int .u64 0, .slice none 0 0] 62 (0, 0)) ∧ Below w.1.size w W1) := by
  refine hid ⟨?_, ?_, ?_⟩
  ·rw [hW1]; exact (aL _ _ _ (by simp)).trans (aK _ _ _ rfl)
  ·rw [hW1]; exact aK _ _ _ (by simp)
  ·rw [hW1]; exact (br.alloc nl _).alloc (by simp) _
 have t0 : (((d : Int) + 1) == 0) = false := by simp; omega
 have t1 : decide ((q : Int) < 0) = false := by simp
 have t2 : decide ((b.length : Int) ≤ (q : Int)) = false := by simp; omega
 have t2' : ¬ b.length ≤ q := by omega
 have t3 : decide ((k : Int) < 1) = false := by simp; omega
 have t4 : decide ((7 : Int) < (k : Int)) = false := by simp; omega
 have HK := hid hk;have HW1e := hid hW1;have hn0 : kE b (some (b.drop (q + 1))) ((q : Int) + 1) := Or.inr ⟨q + 1, by omega, by omega, rfl⟩;clear hr hk hW1;have s1 : ((k : Int) == 4) = true := by simp; omega
 have s2 : ((k : Int) == 5) = false := by simp; omega
 have s3 : (2 : Int) ≤ (k : Int) := by omega
 have s4 : (k : Int) ≤ 4 := by omega
 have s5 : ¬ (6 : Int) ≤ (k : Int) := by omega
 go_enter Tryz.func209, Tryz.ntmps209
 go_wp2_with fail;rw [← HW1e.out];refine (jo S own b _ (some (b.drop (q + 1))) _ W1 (HR.out.below (HW1.out.2.2.mono nl) nl) hn0 (by omega)).mono ?_;rintro e w2 ⟨N0, n0, rfl, hN0, hn1, hb2⟩;have hN0l : N0 < 18446744073709551616 := by rw [hN0]; exact fV _
 have HNE0 := hid hN0;have HX : Hid (w2.1[w.1.size]? = some (.cells #[.int .i64 0, .int .u64 0, .int .u64 0, .slice none 0 0] 62 (0, 0)) ∧ w2.1[w.1.size + 1]? = some (.cells #[.int .i64 (k : Nat), .int .u64 0, .int .u64 0, .slice none 0 0] 62 (0, 0)) ∧ Below w.1.size w w2) := hid ⟨(hb2.block _ (by have := (ak HW1.out.1).1; omega)).trans HW1.out.1, (hb2.block _ (by have := (ak HW1.out.2.1).1; omega)).trans HW1.out.2.1, HW1.out.2.2.trans (hb2.mono HW1.out.2.2.size)⟩;have hl2 : w.1.size + 1 < w2.1.size := (ak HX.out.2.1).1;have c2 : ∀ o, w2.cell? ⟨w.1.size + 1, o, none⟩ = (#[.int .i64 (k : Nat), .int .u64 0, .int .u64 0, .slice none 0 0] : Array Value)[o]? := fun o => ax w2 _ o _ _ _ HX.out.2.1
 have f2 : ∀ o, w2.frozen? ⟨w.1.size + 1, o, none⟩ = false := fun o => by rw [aA w2 _ o _ _ HX.out.2.1]
 have f2s := f2 1;have hn1b := hn1.bounds;have HNN0 := hid hn1;clear hN0 hn1 hb2 f2;go_wp2_with fail;obtain ⟨W2, hW2⟩ : ∃ W2, W2 = w2.setCell ⟨w.1.size + 1, 1, none⟩ (.int .u64 (N0 : Nat)) := ⟨_, rfl⟩;have HW2 : Hid (W2.1[w.1.size]? = some (.cells #[.int .i64 0, .int .u64 0, .int .u64 0, .slice none 0 0] 62 (0, 0)) ∧ W2.1[w.1.size + 1]? = some (.cells #[.int .i64 (k : Nat), .int .u64 (N0 : Nat), .int .u64 0, .slice none 0 0] 62 (0, 0)) ∧ Below w.1.size w W2) := by
  refine hid ⟨?_, ?_, ?_⟩
  ·rw [hW2, ay _ _ _ _ (by simp)]; exact HX.out.1
  ·rw [hW2]; exact aM HX.out.2.1 rfl
  ·rw [hW2]; exact HX.out.2.2.setCell (by simp) _
 rw [← hW2];clear hW2 c2 f2s HX hl2;have hn1 := HNN0.out;refine (jo S own b _ (dV (some (b.drop (q + 1)))) _ W2 (HR.out.below (HW2.out.2.2.mono nl) nl) hn1 (by omega)).mono ?_;rintro e w3 ⟨N1, n1, rfl, hN1, hn2, hb3⟩;have hN1l : N1 < 18446744073709551616 := by rw [hN1]; exact fV _
 have HNE1 := hid hN1;have HX : Hid (w3.1[w.1.size]? = some (.cells #[.int .i64 0, .int .u64 0, .int .u64 0, .slice none 0 0] 62 (0, 0)) ∧ w3.1[w.1.size + 1]? = some (.cells #[.int .i64 (k : Nat), .int .u64 (N0 : Nat), .int .u64 0, .slice none 0 0] 62 (0, 0)) ∧ Below w.1.size w w3) := hid ⟨(hb3.block _ (by have := (ak HW2.out.1).1; omega)).trans HW2.out.1, (hb3.block _ (by have := (ak HW2.out.2.1).1; omega)).trans HW2.out.2.1, HW2.out.2.2.trans (hb3.mono HW2.out.2.2.size)⟩;have hl3 : w.1.size + 1 < w3.1.size := (ak HX.out.2.1).1;have c3 : ∀ o, w3.cell? ⟨w.1.size + 1, o, none⟩ = (#[.int .i64 (k : Nat), .int .u64 (N0 : Nat), .int .u64 0, .slice none 0 0] : Array Value)[o]? := fun o => ax w3 _ o _ _ _ HX.out.2.1
 have f3 : ∀ o, w3.frozen? ⟨w.1.size + 1, o, none⟩ = false := fun o => by rw [aA w3 _ o _ _ HX.out.2.1]
 have f3s := f3 2;have hn2b := hn2.bounds;have HNN1 := hid hn2;clear hN1 hn2 hb3 f3;go_wp2_with fail;obtain ⟨W0, hW0⟩ : ∃ W0, W0 = w3.setCell ⟨w.1.size + 1, 2, none⟩ (.int .u64 (N1 : Nat)) := ⟨_, rfl⟩;have HW0 : Hid (W0.1[w.1.size]? = some (.cells #[.int .i64 0, .int .u64 0, .int .u64 0, .slice none 0 0] 62 (0, 0)) ∧ W0.1[w.1.size + 1]? = some (.cells #[.int .i64 (k : Nat), .int .u64 (N0 : Nat), .int .u64 (N1 : Nat), .slice none 0 0] 62 (0, 0)) ∧ Below w.1.size w W0) := by
  refine hid ⟨?_, ?_, ?_⟩
  ·rw [hW0, ay _ _ _ _ (by simp)]; exact HX.out.1
  ·rw [hW0]; exact aM HX.out.2.1 rfl
  ·rw [hW0]; exact HX.out.2.2.setCell (by simp) _
 rw [← hW0];clear hW0 c3 f3s HX hl3;obtain ⟨o, ho⟩ : ∃ o, o = dV (dV (some (b.drop (q + 1)))) := ⟨_, rfl⟩;have HN0 : Hid (kE b o n1) := hid (by rw [ho]; exact HNN1.out);have HFIN : Hid (gF d b q = (o.bind (bi (tkE d) 0)).map fun x => (.mk (k : Nat) N0 N1 x.1, x.2)) := hid (jJ HK.out (by
  unfold bK;rw [ho];rw [if_neg (by omega), if_pos (by omega), HNE0.out, HNE1.out]))
 have HO := hid HN0.out.obd;clear ho
 go_loop [1, 10] (fun av i => av = .int .i64 n1 ∧ i = .int .u64 0) (fun _ _ => 0)
 case atStart => exact ⟨rfl, rfl⟩
 case round =>
  obtain ⟨rfl, rfl⟩ := hrel;have c0 : ∀ o, W0.cell? ⟨w.1.size + 1, o, none⟩ = (#[.int .i64 (k : Nat), .int .u64 N0, .int .u64 N1, .slice none 0 0] : Array Value)[o]? := fun o => ax W0 _ o _ _ _ HW0.out.2.1
  have l0 : w.1.size + 1 < W0.1.size := (ak HW0.out.2.1).1
  go_wp2_with (refine wpList_store_row rfl 62 (.tmp 6) (.tmp 109) rfl rfl w.1.size rfl _ rfl 62 #[.int .i64 0, .int .u64 0, .int .u64 0, .slice none 0 0] HW0.out.1 (by kernel_rfl) rfl (by simp [Value.oneCell']) ?_)
  refine aC (v := .tuple #[.agg #[.int .i64 (k : Nat), .int .u64 N0, .int .u64 N1, .slice none 0 0], .int .i64 n1]) (aN rfl _ _ w.1.size 62 _ _ _ _ rfl (aB _ _ _ _ _ _ HW0.out.1) Tryz.underlying62 rfl (by kernel_rfl) rfl) rfl ?_;exact ⟨.mk k N0 N1 [], _, n1, rfl, bN (by omega) (by omega) (by omega) (by omega), below_setRow HW0.out.2.2 _ _ nl, by
   rw [HFIN.out];exact dP.ends (dP.start HN0.out) (Nat.le_refl 0) (Or.inr rfl) k N0 N1⟩
theorem FM (d : Nat) (hd : d ≤ 100) (IH : Hid (∀ (S : Nat → Prop) (own : Bool) (b : List UInt8) (v : Value) (q : Nat) (w : World), b.length ≤ 100000 → q ≤ b.length → aO w S own b v → Calls Tryz.prog 209 #[v, .int .i64 q, .int .i64 d] w (gD b (tkE d (b.drop q)) w))) (S : Nat → Prop) (own : Bool) (b : List UInt8) (v : Value) (q : Nat) (w : World) (hr : aO w S own b v) (hq : q < b.length) (hb : b.length ≤ 100000) (hk1 : 5 ≤ at8 b q) (hk2 : at8 b q ≤ 5) :
  Calls Tryz.prog 209 #[v, .int .i64 q, .int .i64 ((d : Int) + 1)] w (gD b (gF d b q) w) := by
 obtain ⟨i0, hi0, hz0, hz01, hz02⟩ := info_parts lV;obtain ⟨_, ad, cap, rfl, hcap⟩ := hr.shape;obtain ⟨k, hk⟩ : ∃ k, k = at8 b q := ⟨_, rfl⟩;obtain ⟨bl, off, rfl, _, g⟩ := aO.at8 hr hq;rw [← hk] at g hk1 hk2;have hbl := aG w _ g;have HR := hid hr;obtain ⟨W1, hW1⟩ : ∃ W1, W1 = (w.alloc (.cells #[.int .i64 0, .int .u64 0, .int .u64 0, .slice none 0 0] 62)).alloc (.cells #[.int .i64 (k : Nat), .int .u64 0, .int .u64 0, .slice none 0 0] 62) := ⟨_, rfl⟩;have HW1 : Hid (W1.1[w.1.size]? = some (.cells #[.int .i64 0, .int .u64 0, .int .u64 0, .slice none 0 0] 62 (0, 0)) ∧ W1.1[w.1.size + 1]? = some (.cells #[.int .i64 (k : Nat), .int .u64 0, .int .u64 0, .slice none 0 0] 62 (0, 0)) ∧ Below w.1.size w W1) := by
  refine hid ⟨?_, ?_, ?_⟩
  ·rw [hW1]; exact (aL _ _ _ (by simp)).trans (aK _ _ _ rfl)
  ·rw [hW1]; exact aK _ _ _ (by simp)
  ·rw [hW1]; exact (br.alloc nl _).alloc (by simp) _
 have t0 : (((d : Int) + 1) == 0) = false := by simp; omega
 have t1 : decide ((q : Int) < 0) = false := by simp
 have t2 : decide ((b.length : Int) ≤ (q : Int)) = false := by simp; omega
 have t2' : ¬ b.length ≤ q := by omega
 have t3 : decide ((k : Int) < 1) = false := by simp; omega
 have t4 : decide ((7 : Int) < (k : Int)) = false := by simp; omega
 have HK := hid hk;have HW1e := hid hW1;have hn0 : kE b (some (b.drop (q + 1))) ((q : Int) + 1) := Or.inr ⟨q + 1, by omega, by omega, rfl⟩;clear hr hk hW1;have s1 : ((k : Int) == 4) = false := by simp; omega
 have s2 : ((k : Int) == 5) = true := by simp; omega
 have s3 : (2 : Int) ≤ (k : Int) := by omega
 have s4 : ¬ (k : Int) ≤ 4 := by omega
 have s5 : ¬ (6 : Int) ≤ (k : Int) := by omega
 go_enter Tryz.func209, Tryz.ntmps209
 go_wp2_with fail;rw [← HW1e.out];obtain ⟨o, ho⟩ : ∃ o, o = some (b.drop (q + 1)) := ⟨_, rfl⟩;have HN0 : Hid (kE b o ((q : Int) + 1)) := hid (by rw [ho]; exact hn0);have HFIN : Hid (gF d b q = (o.bind (bi (tkE d) 1)).map fun x => (.mk (k : Nat) 0 0 x.1, x.2)) := hid (jJ HK.out (by
  unfold bK;rw [ho];rw [if_neg (by omega), if_neg (by omega), if_pos (by omega)]))
 have HO := hid HN0.out.obd;clear ho
 go_loopw [1, 10] (fun av i wr => ∃ (j : Nat) (es : List Ex) (sv : Value) (n : Int), av = .int .i64 n ∧ i = .int .u64 j ∧ j ≤ 1 ∧ -1 ≤ n ∧ n ≤ b.length ∧ Making wr (w.1.size + 2) 62 sv es ∧
   wr.1[w.1.size]? = some (.cells #[.int .i64 0, .int .u64 0, .int .u64 0, .slice none 0 0] 62 (0, 0)) ∧ wr.1[w.1.size + 1]? = some (.cells #[.int .i64 (k : Nat), .int .u64 0, .int .u64 0, sv] 62 (0, 0)) ∧ Below w.1.size w wr ∧ Hid (dP d b o j es n)) (fun av _ _ => mz b.length (intOf av))
 case atStart =>
  exact ⟨0, [], _, ((q : Int) + 1), rfl, rfl, by omega, by omega, by omega, Making.nil _ _ _, HW1.out.1, HW1.out.2.1, HW1.out.2.2, hid (dP.start HN0.out)⟩
 case round =>
  obtain ⟨j, es, sv, n, rfl, rfl, hjm, hn1', hn2', ⟨ys, hown, hey⟩, hh0, hh1, hbel, hst⟩ := hrel;obtain ⟨sa, sc, rfl⟩ := aQ hown;have hob := hown.lt;have hs2 : w.1.size + 1 < wr.1.size := (ak hh1).1;have HM := hid (au hown hey);have HH := hid (au hh0 (au hh1 hbel));by_cases hlt : j < 1 ∧ 0 ≤ n
  ·obtain ⟨hlt, hn0⟩ := hlt
   obtain ⟨p, rfl⟩ := Int.eq_ofNat_of_zero_le hn0;obtain ⟨hes, hbind⟩ : es.length ≤ b.length ∧ o.bind (bi (tkE d) j) = some (es, b.drop p) := by
    rcases hst.out with ⟨h1, _⟩ | ⟨p', h1, h2, h3, h4⟩
    ·omega
    ·obtain rfl : p = p' := by omega
     exact ⟨h4, h3⟩
   have HBIND := hid hbind;have hpb : p ≤ b.length := (by omega);clear hh0 hh1 hown hey hbel hn0 hbind;go_wp2_with fail;refine (IH.out S own b _ p wr hb hpb (HR.out.below (HH.out.2.2.mono (by omega)) nl)).mono ?_;rintro e w1 ⟨t, v, n1, rfl, hv, hb1, hcase⟩;obtain ⟨q0, q1, q2, q3, q4, q5, rfl⟩ := hv.conc;have hz1 := hb1.size;have hx1 := (hb1.block _ hs2).trans HH.out.2.1;have c0 : ∀ o, w1.cell? ⟨w.1.size + 1, o, none⟩ = (#[.int .i64 (k : Nat), .int .u64 0, .int .u64 0, .slice sa es.length sc] : Array Value)[o]? := fun o => ax w1 _ o _ _ _ hx1
   have HX1 := hid hx1;have hl1 : w.1.size + 1 < w1.1.size := (by omega);obtain ⟨hst2, hnn⟩ := dP.step HBIND.out hpb HO.out hcase;have hn3 : -1 ≤ n1 ∧ n1 ≤ b.length := (by rcases hcase with ⟨h, _⟩ | ⟨_, _, h, _⟩ <;> omega);have HV := hid (au hv (au hb1 hst2));clear hv hb1 hst2 hcase hx1
   go_wp2_with (at_builtin; go_loud (refine wpList_append_lies _ rfl (.tmp 103) (.tmp 105) 60 rfl (w.1.size + 2) 62 i0 _ 4 48 Tryz.underlying60 hi0 hz0 hz01 hz02 rfl (by omega) (.slice sa es.length sc) es.length ys rfl (((ownsRow_below HM.out.1 HV.out.2.1 nl).alloc _).alloc _) ⟨w1.1.size + 1, 0, none⟩ 1 1 [.int .i64 q0, .int .u64 q1, .int .u64 q2, .slice q3 q4 q5] rfl rfl (World.news_of_block (cs := #[.int .i64 q0, .int .u64 q1, .int .u64 q2, .slice q3 q4 q5]) (t := 62) (fr := (0, 0)) (aK _ _ _ (by simp))) (by simp [Value.oneCell']) (by omega) (by unfold maxLen; omega) (by omega) (by simp; omega) (w1.1.size + 1 + 1) (by simp) ?_); intro gg gcap w2 hown2 hgrow hat hlt2
                go_loud (have hne : some (w.1.size + 1) ≠ (Value.slice sa es.length sc).ownBlock := fun e => (by have := hob _ e.symm; omega))
                go_loud (have c5 : w2.cell? ⟨w.1.size + 1, 3, none⟩ = some (.slice sa es.length sc) := (by rw [hgrow.cell_far _ (by simp; omega) hne, World.cell?_alloc_past _ _ _ (by simp; omega), World.cell?_alloc_past _ _ _ (by omega)]; exact c0 3))
                go_loud (have f5 : w2.frozen? ⟨w.1.size + 1, 3, none⟩ = false := (by rw [hgrow.frozen_far _ (by simp; omega) hne, World.frozen?_alloc_past _ _ _ (by simp; omega), World.frozen?_alloc_past _ _ _ (by omega), aA w1 _ 3 _ _ HX1.out]))
                have HP := hid (qY (T := 62) HM.out (by omega) (Nat.lt_succ_self _) HH.out.2.1 HV.out.1 HV.out.2.1 hgrow hown2 hat))
   go_roundw
   case rel =>
    exact ⟨j + 1, es ++ [t], _, n1, rfl, by go_num, by omega, hn3.1, hn3.2, by simpa [Making] using HP.out.1, (HP.out.2.2.1 _ (by omega) (by omega)).trans HH.out.1, HP.out.2.1, HH.out.2.2.trans (HP.out.2.2.2.mono (by omega)), hid HV.out.2.2⟩
   case measure => exact Gj hnn hn3.2 hpb
  ·have hend : n = -1 ∨ j = 1 := by omega
   have c0 : ∀ o, wr.cell? ⟨w.1.size + 1, o, none⟩ = (#[.int .i64 (k : Nat), .int .u64 0, .int .u64 0, .slice sa es.length sc] : Array Value)[o]? := fun o => ax wr _ o _ _ _ hh1
   have HE := hid (dP.ends hst.out hjm hend k 0 0);have HREP := hid (fZ (S := fun b => w.1.size + 1 ≤ b) (k := (k : Nat)) (A := 0) (B := 0) ⟨ys, HM.out.1, HM.out.2⟩ (cz.refl _ _) (fun b h => by omega) (by omega) (by omega) (by omega) (by omega));clear hh0 hh1 hown hey hbel hst;have l0 : w.1.size + 1 < wr.1.size := hs2
   go_wp2_with (refine wpList_store_row rfl 62 (.tmp 6) (.tmp 109) rfl rfl w.1.size rfl _ rfl 62 #[.int .i64 0, .int .u64 0, .int .u64 0, .slice none 0 0] HH.out.1 (by kernel_rfl) rfl (by simp [Value.oneCell']) ?_)
   all_goals first
    | (exfalso; omega)
    | (refine aC (v := .tuple #[.agg #[.int .i64 (k : Nat), .int .u64 0, .int .u64 0, .slice sa es.length sc], .int .i64 n]) (aN rfl _ _ w.1.size 62 _ _ _ _ rfl (aB _ _ _ _ _ _ HH.out.1) Tryz.underlying62 rfl (by kernel_rfl) rfl) rfl ?_
       exact ⟨.mk k 0 0 es, _, n, rfl, aT.keep (cz.of_row (Nat.lt_succ_self _)) (fun _ _ h => Nat.le_of_succ_le h) HREP.out, below_setRow HH.out.2.2 _ _ nl, by rw [HFIN.out]; exact HE.out⟩)
theorem FN (d : Nat) (hd : d ≤ 100) (IH : Hid (∀ (S : Nat → Prop) (own : Bool) (b : List UInt8) (v : Value) (q : Nat) (w : World), b.length ≤ 100000 → q ≤ b.length → aO w S own b v → Calls Tryz.prog 209 #[v, .int .i64 q, .int .i64 d] w (gD b (tkE d (b.drop q)) w))) (S : Nat → Prop) (own : Bool) (b : List UInt8) (v : Value) (q : Nat) (w : World) (hr : aO w S own b v) (hq : q < b.length) (hb : b.length ≤ 100000) (hk1 : 6 ≤ at8 b q) (hk2 : at8 b q ≤ 7) :
  Calls Tryz.prog 209 #[v, .int .i64 q, .int .i64 ((d : Int) + 1)] w (gD b (gF d b q) w) := by
 obtain ⟨i0, hi0, hz0, hz01, hz02⟩ := info_parts lV;obtain ⟨_, ad, cap, rfl, hcap⟩ := hr.shape;obtain ⟨k, hk⟩ : ∃ k, k = at8 b q := ⟨_, rfl⟩;obtain ⟨bl, off, rfl, _, g⟩ := aO.at8 hr hq;rw [← hk] at g hk1 hk2;have hbl := aG w _ g;have HR := hid hr;obtain ⟨W1, hW1⟩ : ∃ W1, W1 = (w.alloc (.cells #[.int .i64 0, .int .u64 0, .int .u64 0, .slice none 0 0] 62)).alloc (.cells #[.int .i64 (k : Nat), .int .u64 0, .int .u64 0, .slice none 0 0] 62) := ⟨_, rfl⟩;have HW1 : Hid (W1.1[w.1.size]? = some (.cells #[.int .i64 0, .int .u64 0, .int .u64 0, .slice none 0 0] 62 (0, 0)) ∧ W1.1[w.1.size + 1]? = some (.cells #[.int .i64 (k : Nat), .int .u64 0, .int .u64 0, .slice none 0 0] 62 (0, 0)) ∧ Below w.1.size w W1) := by
  refine hid ⟨?_, ?_, ?_⟩
  ·rw [hW1]; exact (aL _ _ _ (by simp)).trans (aK _ _ _ rfl)
  ·rw [hW1]; exact aK _ _ _ (by simp)
  ·rw [hW1]; exact (br.alloc nl _).alloc (by simp) _
 have t0 : (((d : Int) + 1) == 0) = false := by simp; omega
 have t1 : decide ((q : Int) < 0) = false := by simp
 have t2 : decide ((b.length : Int) ≤ (q : Int)) = false := by simp; omega
 have t2' : ¬ b.length ≤ q := by omega
 have t3 : decide ((k : Int) < 1) = false := by simp; omega
 have t4 : decide ((7 : Int) < (k : Int)) = false := by simp; omega
 have HK := hid hk;have HW1e := hid hW1;have hn0 : kE b (some (b.drop (q + 1))) ((q : Int) + 1) := Or.inr ⟨q + 1, by omega, by omega, rfl⟩;clear hr hk hW1;have s1 : ((k : Int) == 4) = false := by simp; omega
 have s2 : ((k : Int) == 5) = false := by simp; omega
 have s3 : (2 : Int) ≤ (k : Int) := by omega
 have s4 : ¬ (k : Int) ≤ 4 := by omega
 have s5 : (6 : Int) ≤ (k : Int) := by omega
 go_enter Tryz.func209, Tryz.ntmps209
 go_wp2_with fail;rw [← HW1e.out];refine (jo S own b _ (some (b.drop (q + 1))) _ W1 (HR.out.below (HW1.out.2.2.mono nl) nl) hn0 (by omega)).mono ?_;rintro e w2 ⟨N0, n0, rfl, hN0, hn1, hb2⟩;have hN0l : N0 < 18446744073709551616 := by rw [hN0]; exact fV _
 have HNE0 := hid hN0;have HX : Hid (w2.1[w.1.size]? = some (.cells #[.int .i64 0, .int .u64 0, .int .u64 0, .slice none 0 0] 62 (0, 0)) ∧ w2.1[w.1.size + 1]? = some (.cells #[.int .i64 (k : Nat), .int .u64 0, .int .u64 0, .slice none 0 0] 62 (0, 0)) ∧ Below w.1.size w w2) := hid ⟨(hb2.block _ (by have := (ak HW1.out.1).1; omega)).trans HW1.out.1, (hb2.block _ (by have := (ak HW1.out.2.1).1; omega)).trans HW1.out.2.1, HW1.out.2.2.trans (hb2.mono HW1.out.2.2.size)⟩;have hl2 : w.1.size + 1 < w2.1.size := (ak HX.out.2.1).1;have c2 : ∀ o, w2.cell? ⟨w.1.size + 1, o, none⟩ = (#[.int .i64 (k : Nat), .int .u64 0, .int .u64 0, .slice none 0 0] : Array Value)[o]? := fun o => ax w2 _ o _ _ _ HX.out.2.1
 have f2 : ∀ o, w2.frozen? ⟨w.1.size + 1, o, none⟩ = false := fun o => by rw [aA w2 _ o _ _ HX.out.2.1]
 have f2s := f2 1;have hn1b := hn1.bounds;have HNN0 := hid hn1;clear hN0 hn1 hb2 f2;go_wp2_with fail;obtain ⟨W0, hW0⟩ : ∃ W0, W0 = w2 := ⟨_, rfl⟩;rw [← hW0];have HW0 : Hid (W0.1[w.1.size]? = some (.cells #[.int .i64 0, .int .u64 0, .int .u64 0, .slice none 0 0] 62 (0, 0)) ∧ W0.1[w.1.size + 1]? = some (.cells #[.int .i64 (k : Nat), .int .u64 0, .int .u64 0, .slice none 0 0] 62 (0, 0)) ∧ Below w.1.size w W0) := by rw [hW0]; exact HX
 clear hW0 c2 f2s HX hl2;obtain ⟨o, ho⟩ : ∃ o, o = dV (some (b.drop (q + 1))) := ⟨_, rfl⟩;have HN0 : Hid (kE b o n0) := hid (by rw [ho]; exact HNN0.out);have HFIN : Hid (gF d b q = (o.bind (bi (tkE d) N0)).map fun x => (.mk (k : Nat) 0 0 x.1, x.2)) := hid (jJ HK.out (by
  unfold bK;rw [ho];rw [if_neg (by omega), if_neg (by omega), if_neg (by omega), if_pos (by omega), HNE0.out]))
 have HO := hid HN0.out.obd;clear ho
 go_loopw [1, 10] (fun av i wr => ∃ (j : Nat) (es : List Ex) (sv : Value) (n : Int), av = .int .i64 n ∧ i = .int .u64 j ∧ j ≤ N0 ∧ -1 ≤ n ∧ n ≤ b.length ∧ Making wr (w.1.size + 2) 62 sv es ∧
   wr.1[w.1.size]? = some (.cells #[.int .i64 0, .int .u64 0, .int .u64 0, .slice none 0 0] 62 (0, 0)) ∧ wr.1[w.1.size + 1]? = some (.cells #[.int .i64 (k : Nat), .int .u64 0, .int .u64 0, sv] 62 (0, 0)) ∧ Below w.1.size w wr ∧ Hid (dP d b o j es n)) (fun av _ _ => mz b.length (intOf av))
 case atStart =>
  exact ⟨0, [], _, n0, rfl, rfl, by omega, by omega, by omega, Making.nil _ _ _, HW0.out.1, HW0.out.2.1, HW0.out.2.2, hid (dP.start HN0.out)⟩
 case round =>
  obtain ⟨j, es, sv, n, rfl, rfl, hjm, hn1', hn2', ⟨ys, hown, hey⟩, hh0, hh1, hbel, hst⟩ := hrel;obtain ⟨sa, sc, rfl⟩ := aQ hown;have hob := hown.lt;have hs2 : w.1.size + 1 < wr.1.size := (ak hh1).1;have HM := hid (au hown hey);have HH := hid (au hh0 (au hh1 hbel));by_cases hlt : j < N0 ∧ 0 ≤ n
  ·obtain ⟨hlt, hn0⟩ := hlt
   obtain ⟨p, rfl⟩ := Int.eq_ofNat_of_zero_le hn0;obtain ⟨hes, hbind⟩ : es.length ≤ b.length ∧ o.bind (bi (tkE d) j) = some (es, b.drop p) := by
    rcases hst.out with ⟨h1, _⟩ | ⟨p', h1, h2, h3, h4⟩
    ·omega
    ·obtain rfl : p = p' := by omega
     exact ⟨h4, h3⟩
   have HBIND := hid hbind;have hpb : p ≤ b.length := (by omega);clear hh0 hh1 hown hey hbel hn0 hbind;go_wp2_with fail;refine (IH.out S own b _ p wr hb hpb (HR.out.below (HH.out.2.2.mono (by omega)) nl)).mono ?_;rintro e w1 ⟨t, v, n1, rfl, hv, hb1, hcase⟩;obtain ⟨q0, q1, q2, q3, q4, q5, rfl⟩ := hv.conc;have hz1 := hb1.size;have hx1 := (hb1.block _ hs2).trans HH.out.2.1;have c0 : ∀ o, w1.cell? ⟨w.1.size + 1, o, none⟩ = (#[.int .i64 (k : Nat), .int .u64 0, .int .u64 0, .slice sa es.length sc] : Array Value)[o]? := fun o => ax w1 _ o _ _ _ hx1
   have HX1 := hid hx1;have hl1 : w.1.size + 1 < w1.1.size := (by omega);obtain ⟨hst2, hnn⟩ := dP.step HBIND.out hpb HO.out hcase;have hn3 : -1 ≤ n1 ∧ n1 ≤ b.length := (by rcases hcase with ⟨h, _⟩ | ⟨_, _, h, _⟩ <;> omega);have HV := hid (au hv (au hb1 hst2));clear hv hb1 hst2 hcase hx1
   go_wp2_with (at_builtin; go_loud (refine wpList_append_lies _ rfl (.tmp 103) (.tmp 105) 60 rfl (w.1.size + 2) 62 i0 _ 4 48 Tryz.underlying60 hi0 hz0 hz01 hz02 rfl (by omega) (.slice sa es.length sc) es.length ys rfl (((ownsRow_below HM.out.1 HV.out.2.1 nl).alloc _).alloc _) ⟨w1.1.size + 1, 0, none⟩ 1 1 [.int .i64 q0, .int .u64 q1, .int .u64 q2, .slice q3 q4 q5] rfl rfl (World.news_of_block (cs := #[.int .i64 q0, .int .u64 q1, .int .u64 q2, .slice q3 q4 q5]) (t := 62) (fr := (0, 0)) (aK _ _ _ (by simp))) (by simp [Value.oneCell']) (by omega) (by unfold maxLen; omega) (by omega) (by simp; omega) (w1.1.size + 1 + 1) (by simp) ?_); intro gg gcap w2 hown2 hgrow hat hlt2
                go_loud (have hne : some (w.1.size + 1) ≠ (Value.slice sa es.length sc).ownBlock := fun e => (by have := hob _ e.symm; omega))
                go_loud (have c5 : w2.cell? ⟨w.1.size + 1, 3, none⟩ = some (.slice sa es.length sc) := (by rw [hgrow.cell_far _ (by simp; omega) hne, World.cell?_alloc_past _ _ _ (by simp; omega), World.cell?_alloc_past _ _ _ (by omega)]; exact c0 3))
                go_loud (have f5 : w2.frozen? ⟨w.1.size + 1, 3, none⟩ = false := (by rw [hgrow.frozen_far _ (by simp; omega) hne, World.frozen?_alloc_past _ _ _ (by simp; omega), World.frozen?_alloc_past _ _ _ (by omega), aA w1 _ 3 _ _ HX1.out]))
                have HP := hid (qY (T := 62) HM.out (by omega) (Nat.lt_succ_self _) HH.out.2.1 HV.out.1 HV.out.2.1 hgrow hown2 hat))
   go_roundw
   case rel =>
    exact ⟨j + 1, es ++ [t], _, n1, rfl, by go_num, by omega, hn3.1, hn3.2, by simpa [Making] using HP.out.1, (HP.out.2.2.1 _ (by omega) (by omega)).trans HH.out.1, HP.out.2.1, HH.out.2.2.trans (HP.out.2.2.2.mono (by omega)), hid HV.out.2.2⟩
   case measure => exact Gj hnn hn3.2 hpb
  ·have hend : n = -1 ∨ j = N0 := by omega
   have c0 : ∀ o, wr.cell? ⟨w.1.size + 1, o, none⟩ = (#[.int .i64 (k : Nat), .int .u64 0, .int .u64 0, .slice sa es.length sc] : Array Value)[o]? := fun o => ax wr _ o _ _ _ hh1
   have HE := hid (dP.ends hst.out hjm hend k 0 0);have HREP := hid (fZ (S := fun b => w.1.size + 1 ≤ b) (k := (k : Nat)) (A := 0) (B := 0) ⟨ys, HM.out.1, HM.out.2⟩ (cz.refl _ _) (fun b h => by omega) (by omega) (by omega) (by omega) (by omega));clear hh0 hh1 hown hey hbel hst;have l0 : w.1.size + 1 < wr.1.size := hs2
   go_wp2_with (refine wpList_store_row rfl 62 (.tmp 6) (.tmp 109) rfl rfl w.1.size rfl _ rfl 62 #[.int .i64 0, .int .u64 0, .int .u64 0, .slice none 0 0] HH.out.1 (by kernel_rfl) rfl (by simp [Value.oneCell']) ?_)
   all_goals first
    | (exfalso; omega)
    | (refine aC (v := .tuple #[.agg #[.int .i64 (k : Nat), .int .u64 0, .int .u64 0, .slice sa es.length sc], .int .i64 n]) (aN rfl _ _ w.1.size 62 _ _ _ _ rfl (aB _ _ _ _ _ _ HH.out.1) Tryz.underlying62 rfl (by kernel_rfl) rfl) rfl ?_
       exact ⟨.mk k 0 0 es, _, n, rfl, aT.keep (cz.of_row (Nat.lt_succ_self _)) (fun _ _ h => Nat.le_of_succ_le h) HREP.out, below_setRow HH.out.2.2 _ _ nl, by rw [HFIN.out]; exact HE.out⟩)
theorem Av (d : Nat) : ∀ (S : Nat → Prop) (own : Bool) (b : List UInt8) (v : Value) (q : Nat) (w : World), d ≤ 100 → b.length ≤ 100000 → q ≤ b.length → aO w S own b v →
  Calls Tryz.prog 209 #[v, .int .i64 q, .int .i64 d] w (gD b (tkE d (b.drop q)) w) := by
 induction d with
 | zero => intro S own b v q w _ hb hq hr; exact nz 0 q S own b v w hr hq hb _ rfl (Or.inl rfl)
 | succ d ih =>
  intro S own b v q w hd hb hq hr;have IH : Hid (∀ (S : Nat → Prop) (own : Bool) (b : List UInt8) (v : Value) (q : Nat) (w : World), b.length ≤ 100000 → q ≤ b.length → aO w S own b v → Calls Tryz.prog 209 #[v, .int .i64 q, .int .i64 d] w (gD b (tkE d (b.drop q)) w)) := hid fun S own b v q w h1 h2 h3 => ih S own b v q w (by omega) h1 h2 h3
  by_cases hql : q = b.length
  ·exact nz (d + 1) q S own b v w hr hq hb _ (by rw [hql, List.drop_length]; rfl) (Or.inr (Or.inl hql))
  have hlt : q < b.length := by omega
  by_cases hk : 1 ≤ at8 b q ∧ at8 b q ≤ 7
  ·rw [CK hlt hk.1 hk.2]
   have e : (((d + 1 : Nat) : Int)) = (d : Int) + 1 := (by omega);rw [e];by_cases k1 : at8 b q ≤ 1
   ·exact FJ d (by omega) IH S own b v q w hr hlt hb hk.1 k1
   by_cases k3 : at8 b q ≤ 3
   ·exact FK d (by omega) IH S own b v q w hr hlt hb (by omega) k3
   by_cases k4 : at8 b q ≤ 4
   ·exact FL d (by omega) IH S own b v q w hr hlt hb (by omega) k4
   by_cases k5 : at8 b q ≤ 5
   ·exact FM d (by omega) IH S own b v q w hr hlt hb (by omega) k5
   ·exact FN d (by omega) IH S own b v q w hr hlt hb (by omega) hk.2
  ·refine nz (d + 1) q S own b v w hr hq hb _ ?_ (Or.inr (Or.inr ⟨hlt, by omega⟩))
   rw [dB b q hlt] at hk;rw [List.drop_eq_getElem_cons hlt, tkE, if_neg hk]
def sQ (o : Option (Ex × Nat)) (w : World) (e : Ending) (w' : World) : Prop :=
 ∃ v, e = .returned (.tuple #[v, .int .i64 ((o.map (·.2)).getD 0 : Nat), .int .i64 (xN o)]) ∧ aT w' (fun b => w.1.size ≤ b) true ((o.map (·.1)).getD .zero) v ∧ Below w.1.size w w'
theorem fq {w w' : World} {o : Option (Ex × Nat)} (h : o = none) (hb : Below w.1.size w w') : sQ o w (.returned (.tuple #[.agg #[.int .i64 0, .int .u64 0, .int .u64 0, .slice none 0 0], .int .i64 0, .int .i64 40])) w' := by
 subst h;exact ⟨_, rfl, bN (by omega) (by omega) (by omega) (by omega), hb⟩
theorem yK (d : Nat) (S : Nat → Prop) (own : Bool) (b : List UInt8) (v : Value) (i : Int) (w : World) (hr : aO w S own b v) (hb : b.length ≤ 100000) (hi : i < 0 ∨ (b.length : Int) < i) (h1 : -9223372036854775808 ≤ i) (h2 : i ≤ 9223372036854775807) :
  Calls Tryz.prog 209 #[v, .int .i64 i, .int .i64 ((d : Int) + 1)] w fun e w' => e = .returned (.tuple #[.agg #[.int .i64 0, .int .u64 0, .int .u64 0, .slice none 0 0], .int .i64 (-1)]) ∧ Below w.1.size w w' := by
 obtain ⟨_, ad, cap, rfl, _⟩ := hr.shape;have HZ0 := hid (show (w.alloc (.cells #[.int .i64 0, .int .u64 0, .int .u64 0, .slice none 0 0] 62)).1[w.1.size]? = some (.cells #[.int .i64 0, .int .u64 0, .int .u64 0, .slice none 0 0] 62 (0, 0)) from aK _ _ _ rfl);have t0 : (((d : Int) + 1) == 0) = false := by simp; omega
 clear hr;by_cases hn : i < 0
 ·clear hi
  go_enter Tryz.func209, Tryz.ntmps209
  go_wp2_with (refine wpList_store_row rfl 62 (.tmp 6) (.tmp 39) rfl rfl w.1.size rfl _ rfl 62 #[.int .i64 0, .int .u64 0, .int .u64 0, .slice none 0 0] HZ0.out (by kernel_rfl) rfl (by simp [Value.oneCell']) ?_)
  exact aC (v := .tuple #[.agg #[.int .i64 0, .int .u64 0, .int .u64 0, .slice none 0 0], .int .i64 (-1)]) (aN rfl _ _ w.1.size 62 _ _ _ _ rfl (aB _ _ _ _ _ _ HZ0.out) Tryz.underlying62 rfl (by kernel_rfl) rfl) rfl ⟨rfl, below_setRow (br.alloc nl _) _ _ nl⟩
 ·have hg : (b.length : Int) ≤ i := by omega
  clear hi
  go_enter Tryz.func209, Tryz.ntmps209
  go_wp2_with (refine wpList_store_row rfl 62 (.tmp 6) (.tmp 39) rfl rfl w.1.size rfl _ rfl 62 #[.int .i64 0, .int .u64 0, .int .u64 0, .slice none 0 0] HZ0.out (by kernel_rfl) rfl (by simp [Value.oneCell']) ?_)
  exact aC (v := .tuple #[.agg #[.int .i64 0, .int .u64 0, .int .u64 0, .slice none 0 0], .int .i64 (-1)]) (aN rfl _ _ w.1.size 62 _ _ _ _ rfl (aB _ _ _ _ _ _ HZ0.out) Tryz.underlying62 rfl (by kernel_rfl) rfl) rfl ⟨rfl, below_setRow (br.alloc nl _) _ _ nl⟩
theorem yL (S : Nat → Prop) (own : Bool) (b : List UInt8) (v : Value) (i : Int) (w : World) (hr : aO w S own b v) (hb : b.length ≤ 800) (h1 : -9223372036854775808 ≤ i) (h2 : i ≤ 9223372036854775807) :
  Calls Tryz.prog 209 #[v, .int .i64 i, .int .i64 8] w fun e w' => ∃ (t : Ex) (v : Value) (n : Int), e = .returned (.tuple #[v, .int .i64 n]) ∧ aT w' (fun b => w.1.size ≤ b) true t v ∧ Below w.1.size w w' ∧
   ((n = -1 ∧ mQ b i = none) ∨ ∃ q : Nat, q ≤ b.length ∧ n = q ∧ t.size ≤ 900 ∧ mQ b i = if t.right then some (t, q) else none) := by
 by_cases hi : 0 ≤ i ∧ i ≤ b.length
 ·obtain ⟨q, rfl⟩ := Int.eq_ofNat_of_zero_le hi.1
  refine (Av 8 S own b v q w (by omega) (by omega) (by omega) hr).mono ?_;rintro e w' ⟨t, u, n, h3, h4, h5, h6⟩;rcases h6 with ⟨rfl, h7⟩ | ⟨p, hp, rfl, h7⟩
  ·exact ⟨t, u, -1, h3, h4, h5, Or.inl ⟨rfl, uR (by omega) h7⟩⟩
  ·have hz := qU 8 _ _ _ h7
   simp at hz;refine ⟨t, u, p, h3, h4, h5, Or.inr ⟨p, hp, rfl, by omega, ?_⟩⟩;rw [oN (by omega) h7];simp; rw [show b.length - (b.length - p) = p from by omega]
 ·refine (yK 7 S own b v i w hr (by omega) (by omega) h1 h2).mono ?_
  rintro e w' ⟨h3, h4⟩;exact ⟨.zero, _, -1, h3, bN (by omega) (by omega) (by omega) (by omega), h4, Or.inl ⟨rfl, xO (by omega)⟩⟩
theorem xg (S : Nat → Prop) (own : Bool) (b : List UInt8) (v : Value) (i : Int) (w : World) (hr : aO w S own b v) (hb : b.length ≤ 800) (h1 : -9223372036854775808 ≤ i) (h2 : i ≤ 9223372036854775807) :
  Calls Tryz.prog 178 #[v, .int .i64 i] w (sQ (mQ b i) w) := by
 have hb0 : Below w.1.size w (w.alloc (.cells #[.int .i64 0, .int .u64 0, .int .u64 0, .slice none 0 0] 62)) := br.alloc nl _;have HT := hid (yL S own b v i (w.alloc (.cells #[.int .i64 0, .int .u64 0, .int .u64 0, .slice none 0 0] 62)) (hr.below hb0 nl) hb h1 h2);have HB0 := hid hb0;clear hr hb0
 go_enter Tryz.func178, Tryz.ntmps178
 go_wp2_with fail;refine HT.out.mono ?_;rintro e w1 ⟨t, u, n, rfl, hv, hb1, hcase⟩;obtain ⟨q0, q1, q2, q3, q4, q5, rfl⟩ := hv.conc;have hz1 := hb1.size;simp only [aD] at hz1;have hbw : Below w.1.size w w1 := HB0.out.trans (hb1.mono (by simp));have hh : w1.1[w.1.size]? = some (.cells #[.int .i64 0, .int .u64 0, .int .u64 0, .slice none 0 0] 62 (0, 0)) := (hb1.block _ (by simp)).trans (aK _ _ _ rfl);have l1 : w.1.size < w1.1.size := by omega
 have HH := hid ((aL w1 (.cells #[.int .i64 q0, .int .u64 q1, .int .u64 q2, .slice q3 q4 q5] 62) _ l1).trans hh);have hvw : aT w1 (fun b => w.1.size + 1 ≤ b) true t (.agg #[.int .i64 q0, .int .u64 q1, .int .u64 q2, .slice q3 q4 q5]) := hv.wider (fun b _ h => by simpa using h);have HV := hid (au hvw hbw);clear hv hvw hbw hh hb1;rcases hcase with ⟨rfl, hn⟩ | ⟨q, hq, rfl, hts, hn⟩
 ·have HN := hid hn
  clear hn
  go_wp2_with (refine wpList_store_row rfl 62 (.tmp 4) (.tmp 22) rfl rfl w.1.size rfl _ rfl 62 _ HH.out (by kernel_rfl) rfl (by simp [Value.oneCell']) ?_)
  refine aC (v := .tuple #[.agg #[.int .i64 0, .int .u64 0, .int .u64 0, .slice none 0 0], .int .i64 0, .int .i64 40])
   (aU rfl _ _ w.1.size 62 _ _ _ _ _ rfl (aB _ _ _ _ _ _ HH.out) Tryz.underlying62 rfl (by kernel_rfl) rfl rfl) rfl ?_
  exact fq HN.out (below_setRow (HV.out.2.alloc (by omega) _) _ _ nl)
 ·have HN := hid hn
  clear hn;go_wp2_with fail;have hbq : Below w1.1.size w1 (w1.alloc (.cells #[.int .i64 q0, .int .u64 q1, .int .u64 q2, .slice q3 q4 q5] 62)) := br.alloc nl _;refine (wz _ _ t _ _ hts (HV.out.1.below hbq nl)).mono ?_;rintro e2 w2 ⟨rfl, hb2⟩;have hbw2 : Below w.1.size w w2 := (HV.out.2.alloc (by omega) _).trans (hb2.mono (by simp; omega));have hbox : ∀ o, w2.cell? ⟨w1.1.size, o, none⟩ = (w1.alloc (.cells #[.int .i64 q0, .int .u64 q1, .int .u64 q2, .slice q3 q4 q5] 62)).cell? ⟨w1.1.size, o, none⟩ := fun o => hb2.cell (by simp)
  have hsz2 : w1.1.size < w2.1.size := by have := hb2.size; simp at this; omega
  have HH2 := hid ((hb2.block w.1.size (by simp; omega)).trans HH.out);have HV2 := hid (au ((HV.out.1.below hbq nl).below hb2 nl) hbw2);clear hb2 hbq hbw2;cases hrt2 : t.right with
  | false =>
   have HT := hid hrt2;clear hrt2
   go_wp2_with (refine wpList_store_row rfl 62 (.tmp 4) (.tmp 22) rfl rfl w.1.size rfl _ rfl 62 _ HH2.out (by kernel_rfl) rfl (by simp [Value.oneCell']) ?_)
   refine aC (v := .tuple #[.agg #[.int .i64 0, .int .u64 0, .int .u64 0, .slice none 0 0], .int .i64 0, .int .i64 40])
    (aU rfl _ _ w.1.size 62 _ _ _ _ _ rfl (aB _ _ _ _ _ _ HH2.out) Tryz.underlying62 rfl (by kernel_rfl) rfl rfl) rfl ?_
   exact fq (by rw [HN.out, HT.out]; rfl) (below_setRow HV2.out.2 _ _ nl)
  | true =>
   have HT := hid hrt2;clear hrt2
   go_wp2_with (refine wpList_store_row rfl 62 (.tmp 4) (.tmp 23) rfl rfl w.1.size rfl _ rfl 62 _ HH2.out (by kernel_rfl) rfl (by simp [Value.oneCell']) ?_)
   refine aC (v := .tuple #[.agg #[.int .i64 q0, .int .u64 q1, .int .u64 q2, .slice q3 q4 q5], .int .i64 q, .int .i64 0])
    (aU rfl _ _ w.1.size 62 _ _ _ _ _ rfl (aB _ _ _ _ _ _ HH2.out) Tryz.underlying62 rfl (by kernel_rfl) rfl rfl) rfl ?_
   rw [HN.out, HT.out];exact ⟨_, rfl, aT.keep (w := w2) (S := fun b => w.1.size + 1 ≤ b) (fun b hb _ => setRow_other _ _ _ _ (by omega)) (fun b _ h => Nat.le_of_succ_le h) HV2.out.1, below_setRow HV2.out.2 _ _ nl⟩
theorem xh (S : Nat → Prop) (own : Bool) (b : List UInt8) (v : Value) (w : World) (hr : aO w S own b v) (hb : b.length ≤ 800) :
  Calls Tryz.prog 112 #[v] w (kP (bM b) w) := by
 have hb0 : Below w.1.size w (w.alloc (.cells #[.int .i64 0, .int .u64 0, .int .u64 0, .slice none 0 0] 62)) := br.alloc nl _;have HT := hid (xg S own b v 0 (w.alloc (.cells #[.int .i64 0, .int .u64 0, .int .u64 0, .slice none 0 0] 62)) (hr.below hb0 nl) hb (by omega) (by omega));have HB0 := hid hb0;obtain ⟨_, ad, cap, rfl, _⟩ := hr.shape;clear hr hb0
 go_enter Tryz.func112, Tryz.ntmps112
 go_wp2_with fail;refine HT.out.mono ?_;rintro e w1 ⟨u, rfl, hv, hb1⟩;obtain ⟨q0, q1, q2, q3, q4, q5, rfl⟩ := hv.conc;have hz1 := hb1.size;simp only [aD] at hz1;have hbw : Below w.1.size w w1 := HB0.out.trans (hb1.mono (by simp));have hh : w1.1[w.1.size]? = some (.cells #[.int .i64 0, .int .u64 0, .int .u64 0, .slice none 0 0] 62 (0, 0)) := (hb1.block _ (by simp)).trans (aK _ _ _ rfl);have l1 : w.1.size < w1.1.size := by omega
 have HH := hid ((aL w1 (.cells #[.int .i64 q0, .int .u64 q1, .int .u64 q2, .slice q3 q4 q5] 62) _ l1).trans hh);obtain ⟨o, ho⟩ : ∃ o, o = mQ b 0 := ⟨_, rfl⟩;have HO := hid ho;rw [← ho] at hv ⊢;have hvw : aT w1 (fun b => w.1.size + 1 ≤ b) true ((o.map (·.1)).getD .zero) (.agg #[.int .i64 q0, .int .u64 q1, .int .u64 q2, .slice q3 q4 q5]) := hv.wider (fun b _ h => by simpa using h);have HV := hid (au hvw hbw);clear hv hvw hbw hh hb1 ho;have HF0 : Hid (bM b = none → ∀ W, Below w.1.size w W → kP (bM b) w (.returned (.tuple #[.agg #[.int .i64 0, .int .u64 0, .int .u64 0, .slice none 0 0], .int .i64 40])) W) := hid fun h W hW => mr h hW
 cases o with
 | none =>
  have HN : Hid (bM b = none) := hid (by unfold bM; rw [← HO.out]);rw [show xN (none : Option (Ex × Nat)) = 40 from rfl]
  go_wp2_with (refine wpList_store_row rfl 62 (.tmp 2) (.tmp 21) rfl rfl w.1.size rfl _ rfl 62 _ HH.out (by kernel_rfl) rfl (by simp [Value.oneCell']) ?_)
  refine aC (v := .tuple #[.agg #[.int .i64 0, .int .u64 0, .int .u64 0, .slice none 0 0], .int .i64 40])
   (aN rfl _ _ w.1.size 62 _ _ _ _ rfl (aB _ _ _ _ _ _ HH.out) Tryz.underlying62 rfl (by kernel_rfl) rfl) rfl ?_
  exact HF0.out HN.out _ (below_setRow (HV.out.2.alloc (by omega) _) _ _ nl)
 | some x =>
  obtain ⟨t, n⟩ := x;rw [show xN (some (t, n)) = 0 from rfl];simp only [Option.map_some, Option.getD_some] at HV ⊢;by_cases hn : n = b.length
  ·have HN : Hid (bM b = some t) := hid (by unfold bM; rw [← HO.out]; simp [hn])
   have t1 : ((n : Int) != (b.length : Int)) = false := (by simp; omega);clear hn
   go_wp2_with (refine wpList_store_row rfl 62 (.tmp 2) (.tmp 22) rfl rfl w.1.size rfl _ rfl 62 _ HH.out (by kernel_rfl) rfl (by simp [Value.oneCell']) ?_)
   refine aC (v := .tuple #[.agg #[.int .i64 q0, .int .u64 q1, .int .u64 q2, .slice q3 q4 q5], .int .i64 0])
    (aN rfl _ _ w.1.size 62 _ _ _ _ rfl (aB _ _ _ _ _ _ HH.out) Tryz.underlying62 rfl (by kernel_rfl) rfl) rfl ?_
   rw [HN.out];exact ⟨_, rfl, aT.keep (w := w1) (S := fun b => w.1.size + 1 ≤ b) (fun b hb hbl => (setRow_other _ _ _ _ (by omega)).trans (aL _ _ _ hbl)) (fun b _ h => Nat.le_of_succ_le h) HV.out.1, below_setRow (HV.out.2.alloc (by omega) _) _ _ nl⟩
  ·have HN : Hid (bM b = none) := hid (by unfold bM; rw [← HO.out]; simp [hn])
   have t1 : ((n : Int) != (b.length : Int)) = true := (by simp; omega);clear hn
   go_wp2_with (refine wpList_store_row rfl 62 (.tmp 2) (.tmp 21) rfl rfl w.1.size rfl _ rfl 62 _ HH.out (by kernel_rfl) rfl (by simp [Value.oneCell']) ?_)
   refine aC (v := .tuple #[.agg #[.int .i64 0, .int .u64 0, .int .u64 0, .slice none 0 0], .int .i64 40])
    (aN rfl _ _ w.1.size 62 _ _ _ _ rfl (aB _ _ _ _ _ _ HH.out) Tryz.underlying62 rfl (by kernel_rfl) rfl) rfl ?_
   exact HF0.out HN.out _ (below_setRow (HV.out.2.alloc (by omega) _) _ _ nl)
end Go.Proofs.YtlpgokcapdjgjaaGreatDoor
