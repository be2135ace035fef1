/- Walks: the program's reader of bytes. -/
import Derived.Test.YtjedgiiplebofaaGreatDoorU43
import Derived.Test.YtjedgiiplebofaaGreatDoorU11
import Derived.Deep.RegionHeld3
namespace Go.Proofs.YtjedgiiplebofaaGreatDoor
open Go.RowKit Go
set_option linter.unusedVariables false
set_option linter.unusedSimpArgs false
def Vr (w : World) (rb : Nat) (a : Nat) (e : Int) (l : List UInt8) (sv : Value) : Prop :=
  w.heap[rb]? = some (.cells #[.int .i64 a, .int .i64 e, sv] 286 (0, 0)) ∧ RepB w (fun b => b < rb) false l sv ∧ a ≤ l.length ∧ l.length ≤ 1000000
theorem Vr.lt {w : World} {rb a : Nat} {e : Int} {l : List UInt8} {sv : Value} (h : Vr w rb a e l sv) : rb < w.heap.size := (Array.getElem?_eq_some_iff.1 h.1).1
theorem Vr.cells {w : World} {rb a : Nat} {e : Int} {l : List UInt8} {sv : Value} (h : Vr w rb a e l sv) : w.cell? ⟨rb, 0, none⟩ = some (.int .i64 a) ∧ w.cell? ⟨rb, 1, none⟩ = some (.int .i64 e) ∧ w.cell? ⟨rb, 2, none⟩ = some sv ∧ (∀ o, w.frozen? ⟨rb, o, none⟩ = false) :=
  ⟨by rw [cell_of_row w _ 0 _ _ _ h.1]; rfl, by rw [cell_of_row w _ 1 _ _ _ h.1]; rfl, by rw [cell_of_row w _ 2 _ _ _ h.1]; rfl, fun o => by rw [frozen_of_row w _ o _ _ h.1]⟩
theorem Vr.keep {w w' : World} {rb a : Nat} {e : Int} {l : List UInt8} {sv : Value} (h : Vr w rb a e l sv) (hk : ∀ b, b ≤ rb → w'.heap[b]? = w.heap[b]?) : Vr w' rb a e l sv :=
  ⟨(hk rb (Nat.le_refl _)).trans h.1, Sl.keep h.2.1 (by omega) (fun b hb _ => hk b (by omega)) (fun _ _ h => h), h.2.2⟩
theorem Vr.below {w w' : World} {rb a : Nat} {e : Int} {l : List UInt8} {sv : Value} (h : Vr w rb a e l sv) (hb : Below w.heap.size w w') : Vr w' rb a e l sv :=
  h.keep fun b hb' => hb.block b (by have := h.lt; omega)
theorem Vr.set {w : World} {rb a a' : Nat} {e e' : Int} {l : List UInt8} {sv : Value} {w' : World} (h : Vr w rb a e l sv) (ha : a' ≤ l.length) (h1 : w'.heap[rb]? = some (.cells #[.int .i64 a', .int .i64 e', sv] 286 (0, 0))) (hk : ∀ b, b < rb → w'.heap[b]? = w.heap[b]?) : Vr w' rb a' e' l sv :=
  ⟨h1, Sl.keep h.2.1 (by omega) (fun b hb _ => hk b hb) (fun _ _ h => h), ha, h.2.2.2⟩
theorem Vr.fail {w : World} {rb a : Nat} {e : Int} {l : List UInt8} {sv : Value} (h : Vr w rb a e l sv) (e' : Int) : Vr (w.setCell ⟨rb, 1, none⟩ (.int .i64 e')) rb a e' l sv :=
  h.set h.2.2.1 (heap_set_at h.1 rfl) (fun b hb => Below.heap_setCell _ _ _ _ (by simp; omega))
theorem Vr.move {w : World} {rb a : Nat} {e : Int} {l : List UInt8} {sv : Value} (h : Vr w rb a e l sv) (a' : Nat) (ha : a' ≤ l.length) : Vr (w.setCell ⟨rb, 0, none⟩ (.int .i64 a')) rb a' e l sv :=
  h.set ha (heap_set_at h.1 rfl) (fun b hb => Below.heap_setCell _ _ _ _ (by simp; omega))
theorem vrWell_any (rb a : Nat) (e : Int) (l : List UInt8) (sv : Value) (w : World) (h : Vr w rb a e l sv) :
    Calls Tryz.prog 170 #[.pointer (some ⟨rb, 0, none⟩)] w fun r w' => r = .returned (.bool (e == 0)) ∧ w = w' := by
  obtain ⟨c0, c1, c2, f⟩ := h.cells
  clear h f
  go_enter Tryz.func170, Tryz.ntmps170
  go_wp2_with fail
  go_ret
  exact ⟨rfl, rfl⟩
theorem vrErr_any (rb a : Nat) (e : Int) (l : List UInt8) (sv : Value) (w : World) (h : Vr w rb a e l sv) :
    Calls Tryz.prog 95 #[.pointer (some ⟨rb, 0, none⟩)] w fun r w' => r = .returned (.int .i64 e) ∧ w = w' := by
  obtain ⟨c0, c1, c2, f⟩ := h.cells
  clear h f
  go_enter Tryz.func95, Tryz.ntmps95
  go_wp2_with fail
  go_ret
  exact ⟨rfl, rfl⟩
theorem vrAt_any (rb a : Nat) (e : Int) (l : List UInt8) (sv : Value) (w : World) (h : Vr w rb a e l sv) :
    Calls Tryz.prog 329 #[.pointer (some ⟨rb, 0, none⟩)] w fun r w' => r = .returned (.int .i64 a) ∧ w = w' := by
  obtain ⟨c0, c1, c2, f⟩ := h.cells
  clear h f
  go_enter Tryz.func329, Tryz.ntmps329
  go_wp2_with fail
  go_ret
  exact ⟨rfl, rfl⟩
theorem vrLeft_any (rb a : Nat) (e : Int) (l : List UInt8) (sv : Value) (w : World) (h : Vr w rb a e l sv) :
    Calls Tryz.prog 96 #[.pointer (some ⟨rb, 0, none⟩)] w fun r w' => r = .returned (.int .i64 ((l.length : Int) - (a : Int))) ∧ ∃ n, w' = w.drewN n := by
  obtain ⟨c0, c1, c2, f⟩ := h.cells
  have ha := h.2.2
  obtain ⟨_, ad, cap, rfl, hc⟩ := h.2.1.shape
  clear h f
  go_enter Tryz.func96, Tryz.ntmps96
  go_wp2_with fail
  go_quiet (fail)
  go_wp2_with fail
  go_ret
  exact ⟨rfl, nq, rfl⟩
theorem vrFail_zero (rb a : Nat) (e : Int) (l : List UInt8) (sv : Value) (w : World) (h : Vr w rb a 0 l sv) :
    Calls Tryz.prog 172 #[.pointer (some ⟨rb, 0, none⟩), .int .i64 e] w fun r w' => r = .returned (.tuple #[]) ∧ Vr w' rb a e l sv ∧ Rg rb w w' ∧ w'.heap.size = w.heap.size := by
  obtain ⟨c0, c1, c2, f⟩ := h.cells
  have f1 := f 1
  have H := Lib.hid h
  clear h f
  go_enter Tryz.func172, Tryz.ntmps172
  go_wp2_with fail
  go_end0
  exact ⟨rfl, H.out.fail e, (Rg.refl _ _).setCell _ _, by simp⟩
def VNum (rb a : Nat) (l : List UInt8) (sv : Value) (w : World) (r : Ending) (w' : World) : Prop :=
  ∃ (v a' : Nat) (e' : Int), r = .returned (.int .u64 v) ∧ v < 18446744073709551616 ∧ Vr w' rb a' e' l sv ∧ Rg rb w w' ∧ a ≤ a' ∧
    (e' = 0 → getV (l.drop a) = some (v, l.drop a')) ∧ (e' ≠ 0 → v = 0 ∧ a' = a ∧ getV (l.drop a) = none ∧ e' = getC (l.drop a))
theorem vrNumber_bad (rb a : Nat) (e : Int) (l : List UInt8) (sv : Value) (w : World) (h : Vr w rb a e l sv) (he : e ≠ 0) :
    Calls Tryz.prog 94 #[.pointer (some ⟨rb, 0, none⟩)] w fun r w' => r = .returned (.int .u64 0) ∧ w = w' := by
  have t : (e == 0) = false := by simpa using he
  have H := Lib.hid (vrWell_any rb a e l sv w h)
  clear h he
  go_enter Tryz.func94, Tryz.ntmps94
  go_wp2_with fail
  refine H.out.mono ?_
  rintro r w' ⟨rfl, rfl⟩
  go_wp2_with fail
  go_ret
  exact ⟨rfl, rfl⟩
theorem getV_drop {l r : List UInt8} {n : Nat} (h : getV l = some (n, r)) : r = l.drop (l.length - r.length) := by
  obtain ⟨p, hp⟩ := getV_suffix h
  rw [← hp]; simp
set_option maxHeartbeats 1000000 in
set_option maxRecDepth 100000 in
theorem vrNumber_any (rb a : Nat) (l : List UInt8) (sv : Value) (w : World) (h : Vr w rb a 0 l sv) :
    Calls Tryz.prog 94 #[.pointer (some ⟨rb, 0, none⟩)] w (VNum rb a l sv w) := by
  have hlt := h.lt
  obtain ⟨c0, c1, c2, f⟩ := h.cells
  have ha := h.2.2
  have HWl := Lib.hid (vrWell_any rb a 0 l sv w h)
  have HV := Lib.hid h
  obtain ⟨_, ad, cap, rfl, hc⟩ := h.2.1.shape
  clear h f
  go_enter Tryz.func94, Tryz.ntmps94
  go_wp2_with fail
  refine HWl.out.mono ?_
  rintro r w0 ⟨rfl, rfl⟩
  go_wp2_with fail
  have hbW : Below w.heap.size w w := Below.refl _ _
  go_region_held3 (fun w' => w'.cell? ⟨rb, 0, none⟩ = some (.int .i64 a) ∧ w'.cell? ⟨rb, 2, none⟩ = some (.slice ad l.length cap))
    (first
      | exact ⟨(hbW.cell hlt).trans c0, (hbW.cell hlt).trans c2⟩
      | go_keep)
    (first
      | (go_at_call 171; go_fit (varGet_any _ _ l _ a _ (HV.out.below (by first | exact hbW | exact hbW.drew)).2.1 ha.1 ha.2); rintro e w2 ⟨rfl, hb2⟩; unfold gotV; replace hbW := (by first | exact hbW.trans (hb2.mono hbW.size) | exact hbW.drew.trans (hb2.mono hbW.size)); clear hb2))
  have hv2 := HV.out.below hbW
  have hlt2 := hv2.lt
  obtain ⟨k0, k1, k2, f⟩ := hv2.cells
  have f0 := f 0
  have HV2 := Lib.hid hv2
  have HB2 := Lib.hid hbW
  clear hv2 f hbW c0 c1 c2
  by_cases h0 : getC (l.drop a) = 0
  · have t1 : (getC (l.drop a) != 0) = false := by simp [h0]
    obtain ⟨x, hx⟩ := Option.isSome_iff_exists.1 ((getC_zero _).1 h0)
    obtain ⟨v, r⟩ := x
    have hr : r = l.drop (getAt a (l.drop a)) ∧ a ≤ getAt a (l.drop a) ∧ getAt a (l.drop a) ≤ l.length := by
      have h1 := getV_drop hx
      have h2 := getV_len hx
      have h3 : getAt a (l.drop a) = a + ((l.drop a).length - r.length) := by unfold getAt; rw [hx]
      refine ⟨?_, by omega, ?_⟩
      · rw [h3, ← List.drop_drop]; exact h1
      · rw [h3]; simp; omega
    have hn : getN (l.drop a) = v := by unfold getN; rw [hx]
    have hv := getV_lt hx
    have HR := Lib.hid (And.intro hx hr)
    rw [hn]
    have hr2 := hr.2.2
    generalize getAt a (l.drop a) = a' at HR hr2 ⊢
    clear h0 hx hr hn
    go_wp2_with fail
    go_ret
    exact ⟨v, a', 0, rfl, hv, HV2.out.move a' hr2, (Rg.of_below HB2.out).setCell _ _, HR.out.2.2.1, fun _ => by rw [HR.out.1, ← HR.out.2.1], fun h => absurd rfl h⟩
  · have t1 : (getC (l.drop a) != 0) = true := by simp [h0]
    have hn : getV (l.drop a) = none := by
      cases hv : getV (l.drop a) with
      | none => rfl
      | some x => exact absurd ((getC_zero _).2 (by rw [hv]; rfl)) h0
    have H0 := Lib.hid (And.intro h0 hn)
    obtain ⟨c, hc⟩ : ∃ c, c = getC (l.drop a) := ⟨_, rfl⟩
    rw [← hc] at t1 ⊢
    have HC := Lib.hid hc
    clear h0 hn hc
    go_wp2_with fail
    refine (vrFail_zero rb a c l _ _ HV2.out).mono ?_
    rintro r w3 ⟨rfl, hv3, hg3, hz3⟩
    go_wp2_with fail
    go_ret
    exact ⟨0, a, c, rfl, by omega, hv3, (Rg.of_below HB2.out).trans hg3, Nat.le_refl _, fun h => absurd (HC.out.symm.trans h) H0.out.1, fun _ => ⟨rfl, rfl, H0.out.2, HC.out⟩⟩
def VRaw (rb a : Nat) (l : List UInt8) (sv : Value) (n : Nat) (w : World) (r : Ending) (w' : World) : Prop :=
  ∃ (v : Value) (p : List UInt8) (a' : Nat) (e' : Int), r = .returned v ∧ Vr w' rb a' e' l sv ∧ Rg rb w w' ∧ w'.ownsRow w.heap.size 5 1 v p.length (bytes p) ∧
    (n ≤ l.length - a → e' = 0 ∧ p = (l.drop a).take n ∧ a' = a + n) ∧ (¬ n ≤ l.length - a → e' = 4 ∧ p = [] ∧ a' = a)
theorem vrRaw_bad (rb a : Nat) (e n : Int) (l : List UInt8) (sv : Value) (w : World) (h : Vr w rb a e l sv) (he : e ≠ 0) :
    Calls Tryz.prog 278 #[.pointer (some ⟨rb, 0, none⟩), .int .i64 n] w fun r w' => r = .returned (.slice none 0 0) ∧ w = w' := by
  have t : (e == 0) = false := by simpa using he
  have H := Lib.hid (vrWell_any rb a e l sv w h)
  clear h he
  go_enter Tryz.func278, Tryz.ntmps278
  go_wp2_with fail
  refine H.out.mono ?_
  rintro r w' ⟨rfl, rfl⟩
  go_wp2_with fail
  go_ret
  exact ⟨rfl, rfl⟩
set_option maxHeartbeats 1000000 in
set_option maxRecDepth 100000 in
theorem vrRaw_any (rb a n : Nat) (l : List UInt8) (sv : Value) (w : World) (h : Vr w rb a 0 l sv) (hn : n ≤ 1000000) :
    Calls Tryz.prog 278 #[.pointer (some ⟨rb, 0, none⟩), .int .i64 n] w (VRaw rb a l sv n w) := by
  have hlt := h.lt
  obtain ⟨c0, c1, c2, f⟩ := h.cells
  have f0 := f 0
  have ha := h.2.2
  have HWl := Lib.hid (vrWell_any rb a 0 l sv w h)
  have HLf := Lib.hid (vrLeft_any rb a 0 l sv w h)
  have HV := Lib.hid h
  obtain ⟨_, ad, cap, rfl, hc⟩ := h.2.1.shape
  clear h f
  go_enter Tryz.func278, Tryz.ntmps278
  go_wp2_with fail
  refine HWl.out.mono ?_
  rintro r w0 ⟨rfl, rfl⟩
  go_wp2_with fail
  refine HLf.out.mono ?_
  rintro r w0 ⟨rfl, nq, rfl⟩
  have hb0 : Below w.heap.size w (w.drewN nq) := below_drewN (Below.refl _ _) _
  have HV0 := Lib.hid (HV.out.below hb0)
  have HB0 := Lib.hid hb0
  clear hb0
  by_cases hle : n ≤ l.length - a
  · have t1 : decide ((l.length : Int) - (a : Int) < (n : Int)) = false := by simp; omega
    have HN := Lib.hid hle
    go_wp2_with fail
    have hvm := HV0.out.move (a + n) (by omega)
    rw [show ((a + n : Nat) : Int) = (a : Int) + (n : Int) from by omega] at hvm
    have hgm : Rg rb w ((w.drewN nq).setCell ⟨rb, 0, none⟩ (.int .i64 ((a : Int) + (n : Int)))) := (Rg.of_below HB0.out).setCell _ _
    generalize (w.drewN nq).setCell ⟨rb, 0, none⟩ (.int .i64 ((a : Int) + (n : Int))) = W1 at hvm hgm ⊢
    obtain ⟨k0, k1, k2, _⟩ := hvm.cells
    have hl1 := hvm.lt
    rw [show ((a + n : Nat) : Int) = (a : Int) + (n : Int) from by omega] at k0
    have hsz1 := hgm.size
    have x1 : IntKind.i64.wrap (a : Int) = (a : Int) := IntWalk.i64_in _ (by omega)
    have x3 : (0 : Int) ≤ (a : Int) := by omega
    have x4 : (a : Int) ≤ (a : Int) + (n : Int) := by omega
    have x5 : (a : Int) + (n : Int) ≤ (cap : Int) := by omega
    have x6 : ((a : Int) + (n : Int)).toNat = a + n := by omega
    have x7 : ((a : Int)).toNat = a := by omega
    have hbW : Below W1.heap.size W1 W1 := Below.refl _ _
    obtain ⟨pt, hpt⟩ : ∃ pt, pt = (l.drop a).take n := ⟨_, rfl⟩
    have hptl : pt.length ≤ 1000000 := by rw [hpt]; simp; omega
    have HPT := Lib.hid hpt
    by_cases hac : a < cap
    · have y1 : (a == cap) = false := by simp; omega
      have y2 : ¬ a = cap := by omega
      have y3 : ¬ cap = a := by omega
      have HS : Hid (RepB W1 (fun b => b < rb) false pt (.slice (ad.map fun x => x.add a) n (cap - a))) := Lib.hid (by rw [hpt]; exact RepB.cut hvm.2.1 a n (cap - a) (by omega) (by omega))
      have HVm := Lib.hid (And.intro hgm hvm)
      clear hgm hvm hle hpt
      go_region_held3 (fun w' => w'.cell? ⟨rb, 0, none⟩ = some (.int .i64 ((a : Int) + (n : Int))) ∧ w'.cell? ⟨rb, 2, none⟩ = some (.slice ad l.length cap))
        (first
          | exact ⟨(hbW.cell hl1).trans k0, (hbW.cell hl1).trans k2⟩
          | go_keep)
        (first
          | (go_at_call 169; go_fit (cloneBytes_any _ _ pt _ _ (HS.out.below (by first | exact hbW | exact hbW.drew) (Nat.le_refl _)) (by omega)); rintro e w2 ⟨v2, rfl, hown2, hb2⟩; obtain ⟨sa2, sc2, rfl⟩ := owns_slice hown2; replace hbW := (by first | exact hbW.trans (hb2.mono hbW.size) | exact hbW.drew.trans (hb2.mono hbW.size))))
      go_wp2_with fail
      go_ret
      exact ⟨.slice sa2 pt.length sc2, pt, a + n, 0, rfl, HVm.out.2.below hbW, HVm.out.1.trans (Rg.of_below hbW), ownsRow_mono hown2 (by show _ ≤ W1.heap.size; omega), fun _ => ⟨rfl, HPT.out, rfl⟩, fun h => absurd HN.out h⟩
    · have hn0 : n = 0 := by omega
      have y1 : cap = a := by omega
      subst hn0
      have HS : Hid (RepB W1 (fun b => b < rb) false pt (.slice ad 0 0)) := Lib.hid (by rw [hpt]; simp only [List.take_zero]; exact RepB.none)
      have HVm := Lib.hid (And.intro hgm hvm)
      clear hgm hvm hle hpt hac
      go_region_held3 (fun w' => w'.cell? ⟨rb, 0, none⟩ = some (.int .i64 ((a : Int) + ((0 : Nat) : Int))) ∧ w'.cell? ⟨rb, 2, none⟩ = some (.slice ad l.length cap))
        (first
          | exact ⟨(hbW.cell hl1).trans k0, (hbW.cell hl1).trans k2⟩
          | go_keep)
        (first
          | (go_at_call 169; go_fit (cloneBytes_any _ _ pt _ _ (HS.out.below (by first | exact hbW | exact hbW.drew) (Nat.le_refl _)) (by omega)); rintro e w2 ⟨v2, rfl, hown2, hb2⟩; obtain ⟨sa2, sc2, rfl⟩ := owns_slice hown2; replace hbW := (by first | exact hbW.trans (hb2.mono hbW.size) | exact hbW.drew.trans (hb2.mono hbW.size))))
      go_wp2_with fail
      go_ret
      exact ⟨.slice sa2 pt.length sc2, pt, a + 0, 0, rfl, HVm.out.2.below hbW, HVm.out.1.trans (Rg.of_below hbW), ownsRow_mono hown2 (by show _ ≤ W1.heap.size; omega), fun _ => ⟨rfl, HPT.out, rfl⟩, fun h => absurd HN.out h⟩
  · have t1 : decide ((l.length : Int) - (a : Int) < (n : Int)) = true := by simp; omega
    have HN := Lib.hid hle
    clear hle
    go_wp2_with fail
    refine (vrFail_zero rb a 4 l _ _ HV0.out).mono ?_
    rintro r w3 ⟨rfl, hv3, hg3, hz3⟩
    go_wp2_with fail
    go_ret
    exact ⟨_, [], a, 4, rfl, hv3, (Rg.of_below HB0.out).trans hg3, World.ownsRow_nil _ _ _ _, fun h => absurd h HN.out, fun _ => ⟨rfl, rfl, rfl⟩⟩
set_option maxRecDepth 100000 in
theorem vrRead_any (S : Nat → Prop) (own : Bool) (l : List UInt8) (v : Value) (w : World) (hr : RepB w S own l v) (hl : l.length ≤ 1000000) :
    Calls Tryz.prog 93 #[v] w fun e w' => ∃ rb sv, e = .returned (.pointer (some ⟨rb, 0, none⟩)) ∧ Vr w' rb 0 0 l sv ∧ w.heap.size ≤ rb ∧ Below w.heap.size w w' := by
  have HC := Lib.hid (cloneBytes_any S own l v w hr (by omega))
  clear hr
  go_enter Tryz.func93, Tryz.ntmps93
  go_wp2_with fail
  refine HC.out.mono ?_
  rintro e w1 ⟨v1, rfl, hown1, hb1⟩
  have HO := Lib.hid (And.intro hown1 hb1)
  obtain ⟨sa, sc, rfl⟩ := owns_slice hown1
  clear hown1 hb1
  go_wp2_with fail
  go_ret
  have hs := HO.out.2.size
  refine ⟨w1.heap.size, _, rfl, ⟨heap_alloc_at _ _ _ rfl, ?_, by omega, hl⟩, hs, HO.out.2.alloc hs _⟩
  have hlt := HO.out.1.lt
  exact Sl.keep ((Sl.of_owns HO.out.1 (by omega)).unown) (by omega) (fun b hb hbl => heap_alloc_lt _ _ _ hbl) (fun b hb h => hb)
end Go.Proofs.YtjedgiiplebofaaGreatDoor
