/- Walks. -/
import Derived.Test.YtlpgokcapdjgjaaGreatDoorYW22
set_option maxHeartbeats 8000000
set_option maxRecDepth 100000
namespace Go.Proofs.YtlpgokcapdjgjaaGreatDoor
open Go.RowKit Go
set_option linter.unusedVariables false
set_option linter.unusedSimpArgs false
def mH (g : Nat) (o : Option Rec) (w : World) (e : Ending) (w' : World) : Prop :=
 ∃ cs', e = .returned (.bool o.isSome) ∧ w'.heap[g]? = some (.cells cs' 73 (0, 0)) ∧ Rg g w w' ∧ ∀ r, o = some r → aI w' (fun b => w.heap.size ≤ b) true r (.agg cs')
theorem ku (W : World) (S : Nat → Prop) : ax W S true .zero (.agg #[.int .i64 0, .int .u64 0, .int .u64 0, .slice none 0 0]) := bO (by omega) (by omega) (by omega) (by omega)
theorem dw (W : World) (S : Nat → Prop) (k t x w n v : Nat) (hk : k ≤ 7) (ht : t < 18446744073709551616) (hx : x < 18446744073709551616) (hw : w < 18446744073709551616) (hn : n < 18446744073709551616) (hv : v < 18446744073709551616) :
  aI W S true ⟨k, t, x, w, n, v, .zero, []⟩ (.agg #[.int .i64 (k : Nat), .int .u64 (t : Nat), .int .u64 (x : Nat), .int .u64 (w : Nat), .int .u64 (n : Nat), .int .u64 (v : Nat), .int .i64 0, .int .u64 0, .int .u64 0, .slice none 0 0, .slice none 0 0]) :=
 ⟨_, _, _, _, _, rfl, by dsimp only; omega, by dsimp only; omega, ⟨ht, hx, hw, hn, hv, aY, by simp⟩, ku W S, Sl.nil W S true 4⟩
theorem bD {g : Nat} {o : Option Rec} {w w' : World} {cs' : Array Value} (h1 : Rg g w w') (h2 : w'.heap[g]? = some (.cells cs' 73 (0, 0))) (h3 : o = none) : mH g o w (.returned (.bool false)) w' := by
 subst h3; exact ⟨cs', rfl, h2, h1, fun r hr => by cases hr⟩
theorem gq {g : Nat} {o : Option Rec} {w w' : World} {cs' : Array Value} (r : Rec) (h1 : Rg g w w') (h2 : w'.heap[g]? = some (.cells cs' 73 (0, 0))) (h3 : o = some r) (h4 : aI w' (fun b => w.heap.size ≤ b) true r (.agg cs')) : mH g o w (.returned (.bool true)) w' := by
 subst h3; exact ⟨cs', rfl, h2, h1, fun r' hr => by injection hr with hr; subst hr; exact h4⟩
theorem jq (g k t n cap : Nat) (l : List (List UInt8)) (ad : Option Addr) (w : World) (hk : k = 1 ∨ k = 6 ∨ k = 7) (hn : n = l.length) (ht : t < 18446744073709551616) (hh : w.heap[g]? = some (.cells #[.int .i64 (k : Nat), .int .u64 (t : Nat), .int .u64 0, .int .u64 0, .int .u64 0, .int .u64 0, .int .i64 0, .int .u64 0, .int .u64 0, .slice none 0 0, .slice none 0 0] 73 (0, 0))) :
  Calls Tryz.prog 102 #[.slice ad n cap, .pointer (some ⟨g, 0, none⟩)] w (mH g (bX k t l) w) := by
 have HH := hid hh
 have hT : bX k t l = if l = [] then some ⟨k, t, 0, 0, 0, 0, .zero, []⟩ else none := by
  unfold bX
  rw [if_neg (by omega), if_neg (by omega), if_neg (by omega), if_neg (by omega)]
 have HT := hid hT
 clear hh hT
 cases l with
 | nil =>
  have hn0 : n = 0 := hn
  subst hn0
  clear hn
  go_enter Tryz.func102, Tryz.ntmps102
  go_wp2_with fail
  go_ret
  exact gq _ (Rg.refl _ _) HH.out (by rw [HT.out]; rfl) (dw w _ k t 0 0 0 0 (by omega) ht (by omega) (by omega) (by omega) (by omega))
 | cons a l =>
  have t1 : ((n : Int) == 0) = false := by simp at hn ⊢; omega
  clear hn
  go_enter Tryz.func102, Tryz.ntmps102
  go_wp2_with fail
  go_ret
  exact bD (Rg.refl _ _) HH.out (by rw [HT.out]; rfl)
structure Gv (w : World) (g : Nat) (l : List (List UInt8)) (v : Value) : Prop where
 rep : iN w (fun b => b ≠ g) l v
 len : ∀ x ∈ l, x.length ≤ 50000
theorem uN {t : Nat} {l : List (List UInt8)} (h : l.length ≠ 2) : bX 2 t l = none := by
 unfold bX
 rw [if_pos rfl]
 split
 ·exact absurd rfl h
 ·rfl
theorem uO {t : Nat} {l : List (List UInt8)} (h : l.length ≠ 2) : bX 3 t l = none := by
 unfold bX
 rw [if_neg (by omega), if_pos rfl]
 split
 ·exact absurd rfl h
 ·rfl
theorem uP {t : Nat} {l : List (List UInt8)} (h : l.length ≠ 1) : bX 4 t l = none := by
 unfold bX
 rw [if_neg (by omega), if_neg (by omega), if_pos rfl]
 split
 ·exact absurd rfl h
 ·rfl
theorem uQ {α : Type} {l : List α} (h : l.length = 2) : ∃ a b, l = [a, b] := by
 match l, h with
 | [a, b], _ => exact ⟨a, b, rfl⟩
theorem Ci {α : Type} {l : List α} (h : l.length = 1) : ∃ a, l = [a] := by
 match l, h with
 | [a], _ => exact ⟨a, rfl⟩
theorem uR (g t n cap : Nat) (l : List (List UInt8)) (ad : Option Addr) (w : World) (hn : n = l.length) (hG : Gv w g l (.slice ad n cap)) (ht : t < 18446744073709551616) (hL : Lq g w) (hh : w.heap[g]? = some (.cells #[.int .i64 2, .int .u64 (t : Nat), .int .u64 0, .int .u64 0, .int .u64 0, .int .u64 0, .int .i64 0, .int .u64 0, .int .u64 0, .slice none 0 0, .slice none 0 0] 73 (0, 0))) :
  Calls Tryz.prog 150 #[.slice ad n cap, .pointer (some ⟨g, 0, none⟩)] w (mH g (bX 2 t l) w) := by
 have hlt : g < w.heap.size := (Array.getElem?_eq_some_iff.1 hh).1
 have HL := hid hL
 have HH := hid hh
 clear hL
 by_cases h2 : l.length = 2
 ·obtain ⟨x, y, rfl⟩ := uQ h2
  subst hn
  obtain ⟨bl, off, rfl, hne, hc⟩ := iN.at hG.rep (by simp)
  have d0 := hc 0 (by simp)
  have d1 := hc 1 (by simp)
  simp only [Nat.add_zero, List.getElem_cons_zero, List.getElem_cons_succ] at d0 d1
  have lx := hG.len x (by simp)
  have ly := hG.len y (by simp)
  have HV := hid (And.intro d0 d1)
  have hT : bX 2 t [x, y] = (bE x).bind fun u => (jH y).map fun v => ⟨2, t, u, v.1, v.2, 0, .zero, []⟩ := rfl
  have HT := hid hT
  rw [show ([x, y] : List (List UInt8)).length = 2 from rfl]
  have hZ0 : ∀ (cs : List (Option (Array Value))), cs[0]? = some (some #[.int .i64 2, .int .u64 (t : Nat), .int .u64 0, .int .u64 0, .int .u64 0, .int .u64 0, .int .i64 0, .int .u64 0, .int .u64 0, .slice none 0 0, .slice none 0 0]) → fw g 73 w cs 0 (fun _ => undef) w.drew := fun cs h => ⟨_, hh, Rg.of_below br.drew, fun c' h' => by rw [h] at h'; injection h' with h'; injection h'⟩
  have HZ := hid hZ0
  clear hT h2 hG hc hh hZ0 d0 d1
  have hn3 : (bE x = none) ∨ ((∃ n, bE x = some n) ∧ jH y = none) ∨ ∃ n v, bE x = some n ∧ jH y = some v := by
   cases bE x <;> cases jH y <;> simp
  rcases hn3 with hna | ⟨⟨n, hna⟩, hvb⟩ | ⟨n, v, hna, hvb⟩
  ·have HN := hid hna
   clear hna
   go_enter Tryz.func150, Tryz.ntmps150
   go_wp2_with fail
   refine aD (w0 := w) rfl [.eq (.slice (some ⟨bl, off, none⟩) 2 cap), .eq (.int .i64 2), .eq (.bool true), .eq (.bool true), .eq (.slice (some ⟨bl, off, none⟩) 2 cap), .eq (.pointer (some ⟨bl, off, none⟩)), .eq (.string ⟨x.toArray⟩), .eq (.pointer (some ⟨g, 0, none⟩)), .eq (.pointer (some ⟨g, 0, none⟩)), .eq (.pointer (some ⟨g, 2, none⟩)), .weq (.bool false), .eq (.bool false), .eq (.bool false), .skip, .skip, .skip, .skip, .skip, .skip, .skip, .eq ((Value.bool false)), .eq ((Value.bool false))] (fw g 73 w [some #[.int .i64 2, .int .u64 (t : Nat), .int .u64 0, .int .u64 0, .int .u64 0, .int .u64 0, .int .i64 0, .int .u64 0, .int .u64 0, .slice none 0 0, .slice none 0 0], none]) (by kernel_rfl) (⟨_, HZ.out _ rfl⟩) ⟨?_, ?_, ?_, ?_, ?_, ?_, ?_, ?_, ?_, ?_, ?_, ?_, ?_, ?_, ?_, trivial⟩ (fun vs => [(5, .slice (some ⟨bl, off, none⟩) 2 cap), (6, .int .i64 2), (7, .bool true), (8, .bool true), (9, .slice (some ⟨bl, off, none⟩) 2 cap), (10, .pointer (some ⟨bl, off, none⟩)), (11, .string ⟨x.toArray⟩), (12, .pointer (some ⟨g, 0, none⟩)), (13, .pointer (some ⟨g, 0, none⟩)), (14, .pointer (some ⟨g, 2, none⟩)), (15, .bool false), (16, .bool false), (17, .bool false), (18, undef), (19, undef), (20, undef), (21, undef), (22, undef), (23, undef), (24, undef), (25, (Value.bool false)), (4, (Value.bool false))]) (fun _ => rfl) 1 (by kernel_rfl) ?_
   ·refine cp fun t vs ac wx K Q hR hZ hK => ?_
    have t0 : ac.tmps[0]? = some (.slice (some ⟨bl, off, none⟩) 2 cap) := hR.o 0
    go_simp
    exact hK _ hZ
   ·refine cp fun t vs ac wx K Q hR hZ hK => ?_
    have t5 := hR.q 0
    go_simp
    exact hK _ hZ
   ·refine cp fun t vs ac wx K Q hR hZ hK => ?_
    have t6 := hR.q 1
    go_simp
    (try go_ints)
    exact hK _ hZ
   ·refine cp fun t vs ac wx K Q hR hZ hK => ?_
    have t7 := hR.q 2
    go_simp
    exact hK _ hZ
   ·refine cp fun t vs ac wx K Q hR hZ hK => ?_
    have t0 : ac.tmps[0]? = some (.slice (some ⟨bl, off, none⟩) 2 cap) := hR.o 0
    go_simp
    exact hK _ hZ
   ·refine cp fun t vs ac wx K Q hR hZ hK => ?_
    have t9 := hR.q 4
    go_simp
    exact hK _ hZ
   ·refine cp fun t vs ac wx K Q hR hZ hK => ?_
    have t10 := hR.q 5
    have y0 := hZ.rg.cell HV.out.1 hne
    go_simp
    exact hK _ hZ
   ·refine cp fun t vs ac wx K Q hR hZ hK => ?_
    have t1 : ac.tmps[1]? = some (.pointer (some ⟨g, 0, none⟩)) := hR.o 1
    go_simp
    exact hK _ hZ
   ·refine cp fun t vs ac wx K Q hR hZ hK => ?_
    have t12 := hR.q 7
    go_simp
    exact hK _ hZ
   ·refine cp fun t vs ac wx K Q hR hZ hK => ?_
    have t13 := hR.q 8
    go_simp
    exact hK _ hZ
   ·refine cw fun vs ac wx K Q hR hZ hK => ?_
    have t11 := hR.q 6
    have t14 := hR.q 9
    go_simp
    go_at_call 61
    refine (aB ⟨x.toArray⟩ g 2 73 _ _ (by rw [← af]; simp; omega) (hZ.at rfl) (by simp) (HL.out.lv.below (hZ.rg.below (by omega)))).mono ?_
    rintro e w' hS
    obtain ⟨rfl, hZ2⟩ := hZ.no (cs := [some #[.int .i64 2, .int .u64 (t : Nat), .int .u64 0, .int .u64 0, .int .u64 0, .int .u64 0, .int .i64 0, .int .u64 0, .int .u64 0, .slice none 0 0, .slice none 0 0], none]) rfl hS (by rw [HN.out]; rfl)
    exact hK _ _ bf hZ2
   ·refine cp fun t vs ac wx K Q hR hZ hK => ?_
    have t8 := hR.q 3
    have t15 := hR.weq 10 (by kernel_rfl) rfl rfl
    go_simp
    exact hK _ hZ
   ·refine cp fun t vs ac wx K Q hR hZ hK => ?_
    have t16 := hR.q 11
    go_simp
    exact hK _ hZ
   ·refine cp fun t vs ac wx K Q hR hZ hK => ?_
    have t17 := hR.q 12
    have t24 := hR.skip 19 (by kernel_rfl) rfl rfl
    go_simp
    exact hK _ hZ
   ·refine cp fun t vs ac wx K Q hR hZ hK => ?_
    have t25 := hR.q 20
    go_simp
    exact hK _ hZ
   intro vs wN hZ
   simp only [aH, List.foldl_cons, List.foldl_nil]
   go_simp
   go_wp2_with fail
   go_ret
   exact bD hZ.rg hZ.any (by rw [HT.out, HN.out]; rfl)
  ·have HN := hid hna
   have HV2 := hid hvb
   clear hna hvb
   go_enter Tryz.func150, Tryz.ntmps150
   go_wp2_with fail
   refine aD (w0 := w) rfl [.eq (.slice (some ⟨bl, off, none⟩) 2 cap), .eq (.int .i64 2), .eq (.bool true), .eq (.bool true), .eq (.slice (some ⟨bl, off, none⟩) 2 cap), .eq (.pointer (some ⟨bl, off, none⟩)), .eq (.string ⟨x.toArray⟩), .eq (.pointer (some ⟨g, 0, none⟩)), .eq (.pointer (some ⟨g, 0, none⟩)), .eq (.pointer (some ⟨g, 2, none⟩)), .weq (.bool true), .eq (.bool true), .eq (.bool true), .eq (.slice (some ⟨bl, off, none⟩) 2 cap), .eq (.pointer (some ⟨bl, off + 1, none⟩)), .eq (.string ⟨y.toArray⟩), .eq (.pointer (some ⟨g, 0, none⟩)), .eq (.pointer (some ⟨g, 0, none⟩)), .eq (.pointer (some ⟨g, 3, none⟩)), .weq (.bool false), .eq (.bool false), .eq (.bool false)] (fw g 73 w [some #[.int .i64 2, .int .u64 (t : Nat), .int .u64 0, .int .u64 0, .int .u64 0, .int .u64 0, .int .i64 0, .int .u64 0, .int .u64 0, .slice none 0 0, .slice none 0 0], some #[.int .i64 2, .int .u64 (t : Nat), .int .u64 (n : Nat), .int .u64 0, .int .u64 0, .int .u64 0, .int .i64 0, .int .u64 0, .int .u64 0, .slice none 0 0, .slice none 0 0], none]) (by kernel_rfl) (⟨_, HZ.out _ rfl⟩) ⟨?_, ?_, ?_, ?_, ?_, ?_, ?_, ?_, ?_, ?_, ?_, ?_, ?_, ?_, ?_, ?_, ?_, ?_, ?_, ?_, ?_, ?_, trivial⟩ (fun vs => [(5, .slice (some ⟨bl, off, none⟩) 2 cap), (6, .int .i64 2), (7, .bool true), (8, .bool true), (9, .slice (some ⟨bl, off, none⟩) 2 cap), (10, .pointer (some ⟨bl, off, none⟩)), (11, .string ⟨x.toArray⟩), (12, .pointer (some ⟨g, 0, none⟩)), (13, .pointer (some ⟨g, 0, none⟩)), (14, .pointer (some ⟨g, 2, none⟩)), (15, .bool true), (16, .bool true), (17, .bool true), (18, .slice (some ⟨bl, off, none⟩) 2 cap), (19, .pointer (some ⟨bl, off + 1, none⟩)), (20, .string ⟨y.toArray⟩), (21, .pointer (some ⟨g, 0, none⟩)), (22, .pointer (some ⟨g, 0, none⟩)), (23, .pointer (some ⟨g, 3, none⟩)), (24, .bool false), (25, .bool false), (4, .bool false)]) (fun _ => rfl) 2 (by kernel_rfl) ?_
   ·refine cp fun t vs ac wx K Q hR hZ hK => ?_
    have t0 : ac.tmps[0]? = some (.slice (some ⟨bl, off, none⟩) 2 cap) := hR.o 0
    go_simp
    exact hK _ hZ
   ·refine cp fun t vs ac wx K Q hR hZ hK => ?_
    have t5 := hR.q 0
    go_simp
    exact hK _ hZ
   ·refine cp fun t vs ac wx K Q hR hZ hK => ?_
    have t6 := hR.q 1
    go_simp
    (try go_ints)
    exact hK _ hZ
   ·refine cp fun t vs ac wx K Q hR hZ hK => ?_
    have t7 := hR.q 2
    go_simp
    exact hK _ hZ
   ·refine cp fun t vs ac wx K Q hR hZ hK => ?_
    have t0 : ac.tmps[0]? = some (.slice (some ⟨bl, off, none⟩) 2 cap) := hR.o 0
    go_simp
    exact hK _ hZ
   ·refine cp fun t vs ac wx K Q hR hZ hK => ?_
    have t9 := hR.q 4
    go_simp
    exact hK _ hZ
   ·refine cp fun t vs ac wx K Q hR hZ hK => ?_
    have t10 := hR.q 5
    have y0 := hZ.rg.cell HV.out.1 hne
    go_simp
    exact hK _ hZ
   ·refine cp fun t vs ac wx K Q hR hZ hK => ?_
    have t1 : ac.tmps[1]? = some (.pointer (some ⟨g, 0, none⟩)) := hR.o 1
    go_simp
    exact hK _ hZ
   ·refine cp fun t vs ac wx K Q hR hZ hK => ?_
    have t12 := hR.q 7
    go_simp
    exact hK _ hZ
   ·refine cp fun t vs ac wx K Q hR hZ hK => ?_
    have t13 := hR.q 8
    go_simp
    exact hK _ hZ
   ·refine cw fun vs ac wx K Q hR hZ hK => ?_
    have t11 := hR.q 6
    have t14 := hR.q 9
    go_simp
    go_at_call 61
    refine (aB ⟨x.toArray⟩ g 2 73 _ _ (by rw [← af]; simp; omega) (hZ.at rfl) (by simp) (HL.out.lv.below (hZ.rg.below (by omega)))).mono ?_
    rintro e w' hS
    obtain ⟨rfl, hZ2⟩ := hZ.yes (cs := [some #[.int .i64 2, .int .u64 (t : Nat), .int .u64 0, .int .u64 0, .int .u64 0, .int .u64 0, .int .i64 0, .int .u64 0, .int .u64 0, .slice none 0 0, .slice none 0 0], some #[.int .i64 2, .int .u64 (t : Nat), .int .u64 (n : Nat), .int .u64 0, .int .u64 0, .int .u64 0, .int .i64 0, .int .u64 0, .int .u64 0, .slice none 0 0, .slice none 0 0], none]) rfl hS (c := #[.int .i64 2, .int .u64 (t : Nat), .int .u64 (n : Nat), .int .u64 0, .int .u64 0, .int .u64 0, .int .i64 0, .int .u64 0, .int .u64 0, .slice none 0 0, .slice none 0 0]) (by rw [HN.out]; simp)
    exact hK _ _ bf hZ2
   ·refine cp fun t vs ac wx K Q hR hZ hK => ?_
    have t8 := hR.q 3
    have t15 := hR.weq 10 (by kernel_rfl) rfl rfl
    go_simp
    exact hK _ hZ
   ·refine cp fun t vs ac wx K Q hR hZ hK => ?_
    have t16 := hR.q 11
    go_simp
    exact hK _ hZ
   ·refine cp fun t vs ac wx K Q hR hZ hK => ?_
    have t0 : ac.tmps[0]? = some (.slice (some ⟨bl, off, none⟩) 2 cap) := hR.o 0
    go_simp
    exact hK _ hZ
   ·refine cp fun t vs ac wx K Q hR hZ hK => ?_
    have t18 := hR.q 13
    go_simp
    exact hK _ hZ
   ·refine cp fun t vs ac wx K Q hR hZ hK => ?_
    have t19 := hR.q 14
    have y0 := hZ.rg.cell HV.out.2 hne
    go_simp
    exact hK _ hZ
   ·refine cp fun t vs ac wx K Q hR hZ hK => ?_
    have t1 : ac.tmps[1]? = some (.pointer (some ⟨g, 0, none⟩)) := hR.o 1
    go_simp
    exact hK _ hZ
   ·refine cp fun t vs ac wx K Q hR hZ hK => ?_
    have t21 := hR.q 16
    go_simp
    exact hK _ hZ
   ·refine cp fun t vs ac wx K Q hR hZ hK => ?_
    have t22 := hR.q 17
    go_simp
    exact hK _ hZ
   ·refine cw fun vs ac wx K Q hR hZ hK => ?_
    have t20 := hR.q 15
    have t23 := hR.q 18
    go_simp
    go_at_call 151
    refine (dC ⟨y.toArray⟩ g 3 73 _ _ (by rw [← af]; simp; omega) (hZ.at rfl) (by simp) (HL.out.below (hZ.rg.below (by omega)))).mono ?_
    rintro e w' hS
    obtain ⟨rfl, hZ2⟩ := hZ.no (cs := [some #[.int .i64 2, .int .u64 (t : Nat), .int .u64 0, .int .u64 0, .int .u64 0, .int .u64 0, .int .i64 0, .int .u64 0, .int .u64 0, .slice none 0 0, .slice none 0 0], some #[.int .i64 2, .int .u64 (t : Nat), .int .u64 (n : Nat), .int .u64 0, .int .u64 0, .int .u64 0, .int .i64 0, .int .u64 0, .int .u64 0, .slice none 0 0, .slice none 0 0], none]) rfl hS (by rw [HV2.out]; rfl)
    exact hK _ _ bf hZ2
   ·refine cp fun t vs ac wx K Q hR hZ hK => ?_
    have t17 := hR.q 12
    have t24 := hR.weq 19 (by kernel_rfl) rfl rfl
    go_simp
    exact hK _ hZ
   ·refine cp fun t vs ac wx K Q hR hZ hK => ?_
    have t25 := hR.q 20
    go_simp
    exact hK _ hZ
   intro vs wN hZ
   simp only [aH, List.foldl_cons, List.foldl_nil]
   go_simp
   go_wp2_with fail
   go_ret
   exact bD hZ.rg hZ.any (by rw [HT.out, HN.out, HV2.out]; rfl)
  ·have HN := hid hna
   have HV2 := hid hvb
   clear hna hvb
   go_enter Tryz.func150, Tryz.ntmps150
   go_wp2_with fail
   refine aD (w0 := w) rfl [.eq (.slice (some ⟨bl, off, none⟩) 2 cap), .eq (.int .i64 2), .eq (.bool true), .eq (.bool true), .eq (.slice (some ⟨bl, off, none⟩) 2 cap), .eq (.pointer (some ⟨bl, off, none⟩)), .eq (.string ⟨x.toArray⟩), .eq (.pointer (some ⟨g, 0, none⟩)), .eq (.pointer (some ⟨g, 0, none⟩)), .eq (.pointer (some ⟨g, 2, none⟩)), .weq (.bool true), .eq (.bool true), .eq (.bool true), .eq (.slice (some ⟨bl, off, none⟩) 2 cap), .eq (.pointer (some ⟨bl, off + 1, none⟩)), .eq (.string ⟨y.toArray⟩), .eq (.pointer (some ⟨g, 0, none⟩)), .eq (.pointer (some ⟨g, 0, none⟩)), .eq (.pointer (some ⟨g, 3, none⟩)), .weq (.bool true), .eq (.bool true), .eq (.bool true)] (fw g 73 w [some #[.int .i64 2, .int .u64 (t : Nat), .int .u64 0, .int .u64 0, .int .u64 0, .int .u64 0, .int .i64 0, .int .u64 0, .int .u64 0, .slice none 0 0, .slice none 0 0], some #[.int .i64 2, .int .u64 (t : Nat), .int .u64 (n : Nat), .int .u64 0, .int .u64 0, .int .u64 0, .int .i64 0, .int .u64 0, .int .u64 0, .slice none 0 0, .slice none 0 0], some #[.int .i64 2, .int .u64 (t : Nat), .int .u64 (n : Nat), .int .u64 (v.1 : Nat), .int .u64 (v.2 : Nat), .int .u64 0, .int .i64 0, .int .u64 0, .int .u64 0, .slice none 0 0, .slice none 0 0]]) (by kernel_rfl) (⟨_, HZ.out _ rfl⟩) ⟨?_, ?_, ?_, ?_, ?_, ?_, ?_, ?_, ?_, ?_, ?_, ?_, ?_, ?_, ?_, ?_, ?_, ?_, ?_, ?_, ?_, ?_, trivial⟩ (fun vs => [(5, .slice (some ⟨bl, off, none⟩) 2 cap), (6, .int .i64 2), (7, .bool true), (8, .bool true), (9, .slice (some ⟨bl, off, none⟩) 2 cap), (10, .pointer (some ⟨bl, off, none⟩)), (11, .string ⟨x.toArray⟩), (12, .pointer (some ⟨g, 0, none⟩)), (13, .pointer (some ⟨g, 0, none⟩)), (14, .pointer (some ⟨g, 2, none⟩)), (15, .bool true), (16, .bool true), (17, .bool true), (18, .slice (some ⟨bl, off, none⟩) 2 cap), (19, .pointer (some ⟨bl, off + 1, none⟩)), (20, .string ⟨y.toArray⟩), (21, .pointer (some ⟨g, 0, none⟩)), (22, .pointer (some ⟨g, 0, none⟩)), (23, .pointer (some ⟨g, 3, none⟩)), (24, .bool true), (25, .bool true), (4, .bool true)]) (fun _ => rfl) 2 (by kernel_rfl) ?_
   ·refine cp fun t vs ac wx K Q hR hZ hK => ?_
    have t0 : ac.tmps[0]? = some (.slice (some ⟨bl, off, none⟩) 2 cap) := hR.o 0
    go_simp
    exact hK _ hZ
   ·refine cp fun t vs ac wx K Q hR hZ hK => ?_
    have t5 := hR.q 0
    go_simp
    exact hK _ hZ
   ·refine cp fun t vs ac wx K Q hR hZ hK => ?_
    have t6 := hR.q 1
    go_simp
    (try go_ints)
    exact hK _ hZ
   ·refine cp fun t vs ac wx K Q hR hZ hK => ?_
    have t7 := hR.q 2
    go_simp
    exact hK _ hZ
   ·refine cp fun t vs ac wx K Q hR hZ hK => ?_
    have t0 : ac.tmps[0]? = some (.slice (some ⟨bl, off, none⟩) 2 cap) := hR.o 0
    go_simp
    exact hK _ hZ
   ·refine cp fun t vs ac wx K Q hR hZ hK => ?_
    have t9 := hR.q 4
    go_simp
    exact hK _ hZ
   ·refine cp fun t vs ac wx K Q hR hZ hK => ?_
    have t10 := hR.q 5
    have y0 := hZ.rg.cell HV.out.1 hne
    go_simp
    exact hK _ hZ
   ·refine cp fun t vs ac wx K Q hR hZ hK => ?_
    have t1 : ac.tmps[1]? = some (.pointer (some ⟨g, 0, none⟩)) := hR.o 1
    go_simp
    exact hK _ hZ
   ·refine cp fun t vs ac wx K Q hR hZ hK => ?_
    have t12 := hR.q 7
    go_simp
    exact hK _ hZ
   ·refine cp fun t vs ac wx K Q hR hZ hK => ?_
    have t13 := hR.q 8
    go_simp
    exact hK _ hZ
   ·refine cw fun vs ac wx K Q hR hZ hK => ?_
    have t11 := hR.q 6
    have t14 := hR.q 9
    go_simp
    go_at_call 61
    refine (aB ⟨x.toArray⟩ g 2 73 _ _ (by rw [← af]; simp; omega) (hZ.at rfl) (by simp) (HL.out.lv.below (hZ.rg.below (by omega)))).mono ?_
    rintro e w' hS
    obtain ⟨rfl, hZ2⟩ := hZ.yes (cs := [some #[.int .i64 2, .int .u64 (t : Nat), .int .u64 0, .int .u64 0, .int .u64 0, .int .u64 0, .int .i64 0, .int .u64 0, .int .u64 0, .slice none 0 0, .slice none 0 0], some #[.int .i64 2, .int .u64 (t : Nat), .int .u64 (n : Nat), .int .u64 0, .int .u64 0, .int .u64 0, .int .i64 0, .int .u64 0, .int .u64 0, .slice none 0 0, .slice none 0 0], some #[.int .i64 2, .int .u64 (t : Nat), .int .u64 (n : Nat), .int .u64 (v.1 : Nat), .int .u64 (v.2 : Nat), .int .u64 0, .int .i64 0, .int .u64 0, .int .u64 0, .slice none 0 0, .slice none 0 0]]) rfl hS (c := #[.int .i64 2, .int .u64 (t : Nat), .int .u64 (n : Nat), .int .u64 0, .int .u64 0, .int .u64 0, .int .i64 0, .int .u64 0, .int .u64 0, .slice none 0 0, .slice none 0 0]) (by rw [HN.out]; simp)
    exact hK _ _ bf hZ2
   ·refine cp fun t vs ac wx K Q hR hZ hK => ?_
    have t8 := hR.q 3
    have t15 := hR.weq 10 (by kernel_rfl) rfl rfl
    go_simp
    exact hK _ hZ
   ·refine cp fun t vs ac wx K Q hR hZ hK => ?_
    have t16 := hR.q 11
    go_simp
    exact hK _ hZ
   ·refine cp fun t vs ac wx K Q hR hZ hK => ?_
    have t0 : ac.tmps[0]? = some (.slice (some ⟨bl, off, none⟩) 2 cap) := hR.o 0
    go_simp
    exact hK _ hZ
   ·refine cp fun t vs ac wx K Q hR hZ hK => ?_
    have t18 := hR.q 13
    go_simp
    exact hK _ hZ
   ·refine cp fun t vs ac wx K Q hR hZ hK => ?_
    have t19 := hR.q 14
    have y0 := hZ.rg.cell HV.out.2 hne
    go_simp
    exact hK _ hZ
   ·refine cp fun t vs ac wx K Q hR hZ hK => ?_
    have t1 : ac.tmps[1]? = some (.pointer (some ⟨g, 0, none⟩)) := hR.o 1
    go_simp
    exact hK _ hZ
   ·refine cp fun t vs ac wx K Q hR hZ hK => ?_
    have t21 := hR.q 16
    go_simp
    exact hK _ hZ
   ·refine cp fun t vs ac wx K Q hR hZ hK => ?_
    have t22 := hR.q 17
    go_simp
    exact hK _ hZ
   ·refine cw fun vs ac wx K Q hR hZ hK => ?_
    have t20 := hR.q 15
    have t23 := hR.q 18
    go_simp
    go_at_call 151
    refine (dC ⟨y.toArray⟩ g 3 73 _ _ (by rw [← af]; simp; omega) (hZ.at rfl) (by simp) (HL.out.below (hZ.rg.below (by omega)))).mono ?_
    rintro e w' hS
    obtain ⟨rfl, hZ2⟩ := hZ.yes (cs := [some #[.int .i64 2, .int .u64 (t : Nat), .int .u64 0, .int .u64 0, .int .u64 0, .int .u64 0, .int .i64 0, .int .u64 0, .int .u64 0, .slice none 0 0, .slice none 0 0], some #[.int .i64 2, .int .u64 (t : Nat), .int .u64 (n : Nat), .int .u64 0, .int .u64 0, .int .u64 0, .int .i64 0, .int .u64 0, .int .u64 0, .slice none 0 0, .slice none 0 0], some #[.int .i64 2, .int .u64 (t : Nat), .int .u64 (n : Nat), .int .u64 (v.1 : Nat), .int .u64 (v.2 : Nat), .int .u64 0, .int .i64 0, .int .u64 0, .int .u64 0, .slice none 0 0, .slice none 0 0]]) rfl hS (c := #[.int .i64 2, .int .u64 (t : Nat), .int .u64 (n : Nat), .int .u64 (v.1 : Nat), .int .u64 (v.2 : Nat), .int .u64 0, .int .i64 0, .int .u64 0, .int .u64 0, .slice none 0 0, .slice none 0 0]) (by rw [HV2.out]; simp)
    exact hK _ _ bf hZ2
   ·refine cp fun t vs ac wx K Q hR hZ hK => ?_
    have t17 := hR.q 12
    have t24 := hR.weq 19 (by kernel_rfl) rfl rfl
    go_simp
    exact hK _ hZ
   ·refine cp fun t vs ac wx K Q hR hZ hK => ?_
    have t25 := hR.q 20
    go_simp
    exact hK _ hZ
   intro vs wN hZ
   simp only [aH, List.foldl_cons, List.foldl_nil]
   go_simp
   go_wp2_with fail
   go_ret
   exact gq _ hZ.rg (hZ.at rfl) (by rw [HT.out, HN.out, HV2.out]; rfl) (dw wN _ 2 t n v.1 v.2 0 (by omega) ht (aK.1 HN.out).2 ((ic (w := v.1) (n := v.2)).1 HV2.out).2.1 ((ic (w := v.1) (n := v.2)).1 HV2.out).2.2 (by omega))
 ·have HT := hid (uN (t := t) h2)
  have t1 : ((n : Int) == 2) = false := by simp; omega
  clear h2 hn hG hh
  go_enter Tryz.func150, Tryz.ntmps150
  go_wp2_with fail
  go_quiet (fail)
  go_wp2_with fail
  go_ret
  exact bD (Rg.of_below (below_drewN br _)) HH.out HT.out
theorem rH (g t n cap : Nat) (l : List (List UInt8)) (ad : Option Addr) (w : World) (hn : n = l.length) (hG : Gv w g l (.slice ad n cap)) (ht : t < 18446744073709551616) (hL : Lq g w) (hh : w.heap[g]? = some (.cells #[.int .i64 3, .int .u64 (t : Nat), .int .u64 0, .int .u64 0, .int .u64 0, .int .u64 0, .int .i64 0, .int .u64 0, .int .u64 0, .slice none 0 0, .slice none 0 0] 73 (0, 0))) :
  Calls Tryz.prog 156 #[.slice ad n cap, .pointer (some ⟨g, 0, none⟩)] w (mH g (bX 3 t l) w) := by
 have hlt : g < w.heap.size := (Array.getElem?_eq_some_iff.1 hh).1
 have HL := hid hL
 have HH := hid hh
 clear hL
 by_cases h2 : l.length = 2
 ·obtain ⟨x, y, rfl⟩ := uQ h2
  subst hn
  obtain ⟨bl, off, rfl, hne, hc⟩ := iN.at hG.rep (by simp)
  have d0 := hc 0 (by simp)
  have d1 := hc 1 (by simp)
  simp only [Nat.add_zero, List.getElem_cons_zero, List.getElem_cons_succ] at d0 d1
  have lx := hG.len x (by simp)
  have ly := hG.len y (by simp)
  have HV := hid (And.intro d0 d1)
  have hT : bX 3 t [x, y] = (bE x).bind fun u => (bE y).map fun v => ⟨3, t, u, 0, 0, v, .zero, []⟩ := rfl
  have HT := hid hT
  rw [show ([x, y] : List (List UInt8)).length = 2 from rfl]
  have hZ0 : ∀ (cs : List (Option (Array Value))), cs[0]? = some (some #[.int .i64 3, .int .u64 (t : Nat), .int .u64 0, .int .u64 0, .int .u64 0, .int .u64 0, .int .i64 0, .int .u64 0, .int .u64 0, .slice none 0 0, .slice none 0 0]) → fw g 73 w cs 0 (fun _ => undef) w.drew := fun cs h => ⟨_, hh, Rg.of_below br.drew, fun c' h' => by rw [h] at h'; injection h' with h'; injection h'⟩
  have HZ := hid hZ0
  clear hT h2 hG hc hh hZ0 d0 d1
  have hn3 : (bE x = none) ∨ ((∃ n, bE x = some n) ∧ bE y = none) ∨ ∃ n v, bE x = some n ∧ bE y = some v := by
   cases bE x <;> cases bE y <;> simp
  rcases hn3 with hna | ⟨⟨n, hna⟩, hvb⟩ | ⟨n, v, hna, hvb⟩
  ·have HN := hid hna
   clear hna
   go_enter Tryz.func156, Tryz.ntmps156
   go_wp2_with fail
   refine aD (w0 := w) rfl [.eq (.slice (some ⟨bl, off, none⟩) 2 cap), .eq (.int .i64 2), .eq (.bool true), .eq (.bool true), .eq (.slice (some ⟨bl, off, none⟩) 2 cap), .eq (.pointer (some ⟨bl, off, none⟩)), .eq (.string ⟨x.toArray⟩), .eq (.pointer (some ⟨g, 0, none⟩)), .eq (.pointer (some ⟨g, 0, none⟩)), .eq (.pointer (some ⟨g, 2, none⟩)), .weq (.bool false), .eq (.bool false), .eq (.bool false), .skip, .skip, .skip, .skip, .skip, .skip, .skip, .eq ((Value.bool false)), .eq ((Value.bool false))] (fw g 73 w [some #[.int .i64 3, .int .u64 (t : Nat), .int .u64 0, .int .u64 0, .int .u64 0, .int .u64 0, .int .i64 0, .int .u64 0, .int .u64 0, .slice none 0 0, .slice none 0 0], none]) (by kernel_rfl) (⟨_, HZ.out _ rfl⟩) ⟨?_, ?_, ?_, ?_, ?_, ?_, ?_, ?_, ?_, ?_, ?_, ?_, ?_, ?_, ?_, trivial⟩ (fun vs => [(5, .slice (some ⟨bl, off, none⟩) 2 cap), (6, .int .i64 2), (7, .bool true), (8, .bool true), (9, .slice (some ⟨bl, off, none⟩) 2 cap), (10, .pointer (some ⟨bl, off, none⟩)), (11, .string ⟨x.toArray⟩), (12, .pointer (some ⟨g, 0, none⟩)), (13, .pointer (some ⟨g, 0, none⟩)), (14, .pointer (some ⟨g, 2, none⟩)), (15, .bool false), (16, .bool false), (17, .bool false), (18, undef), (19, undef), (20, undef), (21, undef), (22, undef), (23, undef), (24, undef), (25, (Value.bool false)), (4, (Value.bool false))]) (fun _ => rfl) 1 (by kernel_rfl) ?_
   ·refine cp fun t vs ac wx K Q hR hZ hK => ?_
    have t0 : ac.tmps[0]? = some (.slice (some ⟨bl, off, none⟩) 2 cap) := hR.o 0
    go_simp
    exact hK _ hZ
   ·refine cp fun t vs ac wx K Q hR hZ hK => ?_
    have t5 := hR.q 0
    go_simp
    exact hK _ hZ
   ·refine cp fun t vs ac wx K Q hR hZ hK => ?_
    have t6 := hR.q 1
    go_simp
    (try go_ints)
    exact hK _ hZ
   ·refine cp fun t vs ac wx K Q hR hZ hK => ?_
    have t7 := hR.q 2
    go_simp
    exact hK _ hZ
   ·refine cp fun t vs ac wx K Q hR hZ hK => ?_
    have t0 : ac.tmps[0]? = some (.slice (some ⟨bl, off, none⟩) 2 cap) := hR.o 0
    go_simp
    exact hK _ hZ
   ·refine cp fun t vs ac wx K Q hR hZ hK => ?_
    have t9 := hR.q 4
    go_simp
    exact hK _ hZ
   ·refine cp fun t vs ac wx K Q hR hZ hK => ?_
    have t10 := hR.q 5
    have y0 := hZ.rg.cell HV.out.1 hne
    go_simp
    exact hK _ hZ
   ·refine cp fun t vs ac wx K Q hR hZ hK => ?_
    have t1 : ac.tmps[1]? = some (.pointer (some ⟨g, 0, none⟩)) := hR.o 1
    go_simp
    exact hK _ hZ
   ·refine cp fun t vs ac wx K Q hR hZ hK => ?_
    have t12 := hR.q 7
    go_simp
    exact hK _ hZ
   ·refine cp fun t vs ac wx K Q hR hZ hK => ?_
    have t13 := hR.q 8
    go_simp
    exact hK _ hZ
   ·refine cw fun vs ac wx K Q hR hZ hK => ?_
    have t11 := hR.q 6
    have t14 := hR.q 9
    go_simp
    go_at_call 61
    refine (aB ⟨x.toArray⟩ g 2 73 _ _ (by rw [← af]; simp; omega) (hZ.at rfl) (by simp) (HL.out.lv.below (hZ.rg.below (by omega)))).mono ?_
    rintro e w' hS
    obtain ⟨rfl, hZ2⟩ := hZ.no (cs := [some #[.int .i64 3, .int .u64 (t : Nat), .int .u64 0, .int .u64 0, .int .u64 0, .int .u64 0, .int .i64 0, .int .u64 0, .int .u64 0, .slice none 0 0, .slice none 0 0], none]) rfl hS (by rw [HN.out]; rfl)
    exact hK _ _ bf hZ2
   ·refine cp fun t vs ac wx K Q hR hZ hK => ?_
    have t8 := hR.q 3
    have t15 := hR.weq 10 (by kernel_rfl) rfl rfl
    go_simp
    exact hK _ hZ
   ·refine cp fun t vs ac wx K Q hR hZ hK => ?_
    have t16 := hR.q 11
    go_simp
    exact hK _ hZ
   ·refine cp fun t vs ac wx K Q hR hZ hK => ?_
    have t17 := hR.q 12
    have t24 := hR.skip 19 (by kernel_rfl) rfl rfl
    go_simp
    exact hK _ hZ
   ·refine cp fun t vs ac wx K Q hR hZ hK => ?_
    have t25 := hR.q 20
    go_simp
    exact hK _ hZ
   intro vs wN hZ
   simp only [aH, List.foldl_cons, List.foldl_nil]
   go_simp
   go_wp2_with fail
   go_ret
   exact bD hZ.rg hZ.any (by rw [HT.out, HN.out]; rfl)
  ·have HN := hid hna
   have HV2 := hid hvb
   clear hna hvb
   go_enter Tryz.func156, Tryz.ntmps156
   go_wp2_with fail
   refine aD (w0 := w) rfl [.eq (.slice (some ⟨bl, off, none⟩) 2 cap), .eq (.int .i64 2), .eq (.bool true), .eq (.bool true), .eq (.slice (some ⟨bl, off, none⟩) 2 cap), .eq (.pointer (some ⟨bl, off, none⟩)), .eq (.string ⟨x.toArray⟩), .eq (.pointer (some ⟨g, 0, none⟩)), .eq (.pointer (some ⟨g, 0, none⟩)), .eq (.pointer (some ⟨g, 2, none⟩)), .weq (.bool true), .eq (.bool true), .eq (.bool true), .eq (.slice (some ⟨bl, off, none⟩) 2 cap), .eq (.pointer (some ⟨bl, off + 1, none⟩)), .eq (.string ⟨y.toArray⟩), .eq (.pointer (some ⟨g, 0, none⟩)), .eq (.pointer (some ⟨g, 0, none⟩)), .eq (.pointer (some ⟨g, 5, none⟩)), .weq (.bool false), .eq (.bool false), .eq (.bool false)] (fw g 73 w [some #[.int .i64 3, .int .u64 (t : Nat), .int .u64 0, .int .u64 0, .int .u64 0, .int .u64 0, .int .i64 0, .int .u64 0, .int .u64 0, .slice none 0 0, .slice none 0 0], some #[.int .i64 3, .int .u64 (t : Nat), .int .u64 (n : Nat), .int .u64 0, .int .u64 0, .int .u64 0, .int .i64 0, .int .u64 0, .int .u64 0, .slice none 0 0, .slice none 0 0], none]) (by kernel_rfl) (⟨_, HZ.out _ rfl⟩) ⟨?_, ?_, ?_, ?_, ?_, ?_, ?_, ?_, ?_, ?_, ?_, ?_, ?_, ?_, ?_, ?_, ?_, ?_, ?_, ?_, ?_, ?_, trivial⟩ (fun vs => [(5, .slice (some ⟨bl, off, none⟩) 2 cap), (6, .int .i64 2), (7, .bool true), (8, .bool true), (9, .slice (some ⟨bl, off, none⟩) 2 cap), (10, .pointer (some ⟨bl, off, none⟩)), (11, .string ⟨x.toArray⟩), (12, .pointer (some ⟨g, 0, none⟩)), (13, .pointer (some ⟨g, 0, none⟩)), (14, .pointer (some ⟨g, 2, none⟩)), (15, .bool true), (16, .bool true), (17, .bool true), (18, .slice (some ⟨bl, off, none⟩) 2 cap), (19, .pointer (some ⟨bl, off + 1, none⟩)), (20, .string ⟨y.toArray⟩), (21, .pointer (some ⟨g, 0, none⟩)), (22, .pointer (some ⟨g, 0, none⟩)), (23, .pointer (some ⟨g, 5, none⟩)), (24, .bool false), (25, .bool false), (4, .bool false)]) (fun _ => rfl) 2 (by kernel_rfl) ?_
   ·refine cp fun t vs ac wx K Q hR hZ hK => ?_
    have t0 : ac.tmps[0]? = some (.slice (some ⟨bl, off, none⟩) 2 cap) := hR.o 0
    go_simp
    exact hK _ hZ
   ·refine cp fun t vs ac wx K Q hR hZ hK => ?_
    have t5 := hR.q 0
    go_simp
    exact hK _ hZ
   ·refine cp fun t vs ac wx K Q hR hZ hK => ?_
    have t6 := hR.q 1
    go_simp
    (try go_ints)
    exact hK _ hZ
   ·refine cp fun t vs ac wx K Q hR hZ hK => ?_
    have t7 := hR.q 2
    go_simp
    exact hK _ hZ
   ·refine cp fun t vs ac wx K Q hR hZ hK => ?_
    have t0 : ac.tmps[0]? = some (.slice (some ⟨bl, off, none⟩) 2 cap) := hR.o 0
    go_simp
    exact hK _ hZ
   ·refine cp fun t vs ac wx K Q hR hZ hK => ?_
    have t9 := hR.q 4
    go_simp
    exact hK _ hZ
   ·refine cp fun t vs ac wx K Q hR hZ hK => ?_
    have t10 := hR.q 5
    have y0 := hZ.rg.cell HV.out.1 hne
    go_simp
    exact hK _ hZ
   ·refine cp fun t vs ac wx K Q hR hZ hK => ?_
    have t1 : ac.tmps[1]? = some (.pointer (some ⟨g, 0, none⟩)) := hR.o 1
    go_simp
    exact hK _ hZ
   ·refine cp fun t vs ac wx K Q hR hZ hK => ?_
    have t12 := hR.q 7
    go_simp
    exact hK _ hZ
   ·refine cp fun t vs ac wx K Q hR hZ hK => ?_
    have t13 := hR.q 8
    go_simp
    exact hK _ hZ
   ·refine cw fun vs ac wx K Q hR hZ hK => ?_
    have t11 := hR.q 6
    have t14 := hR.q 9
    go_simp
    go_at_call 61
    refine (aB ⟨x.toArray⟩ g 2 73 _ _ (by rw [← af]; simp; omega) (hZ.at rfl) (by simp) (HL.out.lv.below (hZ.rg.below (by omega)))).mono ?_
    rintro e w' hS
    obtain ⟨rfl, hZ2⟩ := hZ.yes (cs := [some #[.int .i64 3, .int .u64 (t : Nat), .int .u64 0, .int .u64 0, .int .u64 0, .int .u64 0, .int .i64 0, .int .u64 0, .int .u64 0, .slice none 0 0, .slice none 0 0], some #[.int .i64 3, .int .u64 (t : Nat), .int .u64 (n : Nat), .int .u64 0, .int .u64 0, .int .u64 0, .int .i64 0, .int .u64 0, .int .u64 0, .slice none 0 0, .slice none 0 0], none]) rfl hS (c := #[.int .i64 3, .int .u64 (t : Nat), .int .u64 (n : Nat), .int .u64 0, .int .u64 0, .int .u64 0, .int .i64 0, .int .u64 0, .int .u64 0, .slice none 0 0, .slice none 0 0]) (by rw [HN.out]; simp)
    exact hK _ _ bf hZ2
   ·refine cp fun t vs ac wx K Q hR hZ hK => ?_
    have t8 := hR.q 3
    have t15 := hR.weq 10 (by kernel_rfl) rfl rfl
    go_simp
    exact hK _ hZ
   ·refine cp fun t vs ac wx K Q hR hZ hK => ?_
    have t16 := hR.q 11
    go_simp
    exact hK _ hZ
   ·refine cp fun t vs ac wx K Q hR hZ hK => ?_
    have t0 : ac.tmps[0]? = some (.slice (some ⟨bl, off, none⟩) 2 cap) := hR.o 0
    go_simp
    exact hK _ hZ
   ·refine cp fun t vs ac wx K Q hR hZ hK => ?_
    have t18 := hR.q 13
    go_simp
    exact hK _ hZ
   ·refine cp fun t vs ac wx K Q hR hZ hK => ?_
    have t19 := hR.q 14
    have y0 := hZ.rg.cell HV.out.2 hne
    go_simp
    exact hK _ hZ
   ·refine cp fun t vs ac wx K Q hR hZ hK => ?_
    have t1 : ac.tmps[1]? = some (.pointer (some ⟨g, 0, none⟩)) := hR.o 1
    go_simp
    exact hK _ hZ
   ·refine cp fun t vs ac wx K Q hR hZ hK => ?_
    have t21 := hR.q 16
    go_simp
    exact hK _ hZ
   ·refine cp fun t vs ac wx K Q hR hZ hK => ?_
    have t22 := hR.q 17
    go_simp
    exact hK _ hZ
   ·refine cw fun vs ac wx K Q hR hZ hK => ?_
    have t20 := hR.q 15
    have t23 := hR.q 18
    go_simp
    go_at_call 61
    refine (aB ⟨y.toArray⟩ g 5 73 _ _ (by rw [← af]; simp; omega) (hZ.at rfl) (by simp) (HL.out.lv.below (hZ.rg.below (by omega)))).mono ?_
    rintro e w' hS
    obtain ⟨rfl, hZ2⟩ := hZ.no (cs := [some #[.int .i64 3, .int .u64 (t : Nat), .int .u64 0, .int .u64 0, .int .u64 0, .int .u64 0, .int .i64 0, .int .u64 0, .int .u64 0, .slice none 0 0, .slice none 0 0], some #[.int .i64 3, .int .u64 (t : Nat), .int .u64 (n : Nat), .int .u64 0, .int .u64 0, .int .u64 0, .int .i64 0, .int .u64 0, .int .u64 0, .slice none 0 0, .slice none 0 0], none]) rfl hS (by rw [HV2.out]; rfl)
    exact hK _ _ bf hZ2
   ·refine cp fun t vs ac wx K Q hR hZ hK => ?_
    have t17 := hR.q 12
    have t24 := hR.weq 19 (by kernel_rfl) rfl rfl
    go_simp
    exact hK _ hZ
   ·refine cp fun t vs ac wx K Q hR hZ hK => ?_
    have t25 := hR.q 20
    go_simp
    exact hK _ hZ
   intro vs wN hZ
   simp only [aH, List.foldl_cons, List.foldl_nil]
   go_simp
   go_wp2_with fail
   go_ret
   exact bD hZ.rg hZ.any (by rw [HT.out, HN.out, HV2.out]; rfl)
  ·have HN := hid hna
   have HV2 := hid hvb
   clear hna hvb
   go_enter Tryz.func156, Tryz.ntmps156
   go_wp2_with fail
   refine aD (w0 := w) rfl [.eq (.slice (some ⟨bl, off, none⟩) 2 cap), .eq (.int .i64 2), .eq (.bool true), .eq (.bool true), .eq (.slice (some ⟨bl, off, none⟩) 2 cap), .eq (.pointer (some ⟨bl, off, none⟩)), .eq (.string ⟨x.toArray⟩), .eq (.pointer (some ⟨g, 0, none⟩)), .eq (.pointer (some ⟨g, 0, none⟩)), .eq (.pointer (some ⟨g, 2, none⟩)), .weq (.bool true), .eq (.bool true), .eq (.bool true), .eq (.slice (some ⟨bl, off, none⟩) 2 cap), .eq (.pointer (some ⟨bl, off + 1, none⟩)), .eq (.string ⟨y.toArray⟩), .eq (.pointer (some ⟨g, 0, none⟩)), .eq (.pointer (some ⟨g, 0, none⟩)), .eq (.pointer (some ⟨g, 5, none⟩)), .weq (.bool true), .eq (.bool true), .eq (.bool true)] (fw g 73 w [some #[.int .i64 3, .int .u64 (t : Nat), .int .u64 0, .int .u64 0, .int .u64 0, .int .u64 0, .int .i64 0, .int .u64 0, .int .u64 0, .slice none 0 0, .slice none 0 0], some #[.int .i64 3, .int .u64 (t : Nat), .int .u64 (n : Nat), .int .u64 0, .int .u64 0, .int .u64 0, .int .i64 0, .int .u64 0, .int .u64 0, .slice none 0 0, .slice none 0 0], some #[.int .i64 3, .int .u64 (t : Nat), .int .u64 (n : Nat), .int .u64 0, .int .u64 0, .int .u64 (v : Nat), .int .i64 0, .int .u64 0, .int .u64 0, .slice none 0 0, .slice none 0 0]]) (by kernel_rfl) (⟨_, HZ.out _ rfl⟩) ⟨?_, ?_, ?_, ?_, ?_, ?_, ?_, ?_, ?_, ?_, ?_, ?_, ?_, ?_, ?_, ?_, ?_, ?_, ?_, ?_, ?_, ?_, trivial⟩ (fun vs => [(5, .slice (some ⟨bl, off, none⟩) 2 cap), (6, .int .i64 2), (7, .bool true), (8, .bool true), (9, .slice (some ⟨bl, off, none⟩) 2 cap), (10, .pointer (some ⟨bl, off, none⟩)), (11, .string ⟨x.toArray⟩), (12, .pointer (some ⟨g, 0, none⟩)), (13, .pointer (some ⟨g, 0, none⟩)), (14, .pointer (some ⟨g, 2, none⟩)), (15, .bool true), (16, .bool true), (17, .bool true), (18, .slice (some ⟨bl, off, none⟩) 2 cap), (19, .pointer (some ⟨bl, off + 1, none⟩)), (20, .string ⟨y.toArray⟩), (21, .pointer (some ⟨g, 0, none⟩)), (22, .pointer (some ⟨g, 0, none⟩)), (23, .pointer (some ⟨g, 5, none⟩)), (24, .bool true), (25, .bool true), (4, .bool true)]) (fun _ => rfl) 2 (by kernel_rfl) ?_
   ·refine cp fun t vs ac wx K Q hR hZ hK => ?_
    have t0 : ac.tmps[0]? = some (.slice (some ⟨bl, off, none⟩) 2 cap) := hR.o 0
    go_simp
    exact hK _ hZ
   ·refine cp fun t vs ac wx K Q hR hZ hK => ?_
    have t5 := hR.q 0
    go_simp
    exact hK _ hZ
   ·refine cp fun t vs ac wx K Q hR hZ hK => ?_
    have t6 := hR.q 1
    go_simp
    (try go_ints)
    exact hK _ hZ
   ·refine cp fun t vs ac wx K Q hR hZ hK => ?_
    have t7 := hR.q 2
    go_simp
    exact hK _ hZ
   ·refine cp fun t vs ac wx K Q hR hZ hK => ?_
    have t0 : ac.tmps[0]? = some (.slice (some ⟨bl, off, none⟩) 2 cap) := hR.o 0
    go_simp
    exact hK _ hZ
   ·refine cp fun t vs ac wx K Q hR hZ hK => ?_
    have t9 := hR.q 4
    go_simp
    exact hK _ hZ
   ·refine cp fun t vs ac wx K Q hR hZ hK => ?_
    have t10 := hR.q 5
    have y0 := hZ.rg.cell HV.out.1 hne
    go_simp
    exact hK _ hZ
   ·refine cp fun t vs ac wx K Q hR hZ hK => ?_
    have t1 : ac.tmps[1]? = some (.pointer (some ⟨g, 0, none⟩)) := hR.o 1
    go_simp
    exact hK _ hZ
   ·refine cp fun t vs ac wx K Q hR hZ hK => ?_
    have t12 := hR.q 7
    go_simp
    exact hK _ hZ
   ·refine cp fun t vs ac wx K Q hR hZ hK => ?_
    have t13 := hR.q 8
    go_simp
    exact hK _ hZ
   ·refine cw fun vs ac wx K Q hR hZ hK => ?_
    have t11 := hR.q 6
    have t14 := hR.q 9
    go_simp
    go_at_call 61
    refine (aB ⟨x.toArray⟩ g 2 73 _ _ (by rw [← af]; simp; omega) (hZ.at rfl) (by simp) (HL.out.lv.below (hZ.rg.below (by omega)))).mono ?_
    rintro e w' hS
    obtain ⟨rfl, hZ2⟩ := hZ.yes (cs := [some #[.int .i64 3, .int .u64 (t : Nat), .int .u64 0, .int .u64 0, .int .u64 0, .int .u64 0, .int .i64 0, .int .u64 0, .int .u64 0, .slice none 0 0, .slice none 0 0], some #[.int .i64 3, .int .u64 (t : Nat), .int .u64 (n : Nat), .int .u64 0, .int .u64 0, .int .u64 0, .int .i64 0, .int .u64 0, .int .u64 0, .slice none 0 0, .slice none 0 0], some #[.int .i64 3, .int .u64 (t : Nat), .int .u64 (n : Nat), .int .u64 0, .int .u64 0, .int .u64 (v : Nat), .int .i64 0, .int .u64 0, .int .u64 0, .slice none 0 0, .slice none 0 0]]) rfl hS (c := #[.int .i64 3, .int .u64 (t : Nat), .int .u64 (n : Nat), .int .u64 0, .int .u64 0, .int .u64 0, .int .i64 0, .int .u64 0, .int .u64 0, .slice none 0 0, .slice none 0 0]) (by rw [HN.out]; simp)
    exact hK _ _ bf hZ2
   ·refine cp fun t vs ac wx K Q hR hZ hK => ?_
    have t8 := hR.q 3
    have t15 := hR.weq 10 (by kernel_rfl) rfl rfl
    go_simp
    exact hK _ hZ
   ·refine cp fun t vs ac wx K Q hR hZ hK => ?_
    have t16 := hR.q 11
    go_simp
    exact hK _ hZ
   ·refine cp fun t vs ac wx K Q hR hZ hK => ?_
    have t0 : ac.tmps[0]? = some (.slice (some ⟨bl, off, none⟩) 2 cap) := hR.o 0
    go_simp
    exact hK _ hZ
   ·refine cp fun t vs ac wx K Q hR hZ hK => ?_
    have t18 := hR.q 13
    go_simp
    exact hK _ hZ
   ·refine cp fun t vs ac wx K Q hR hZ hK => ?_
    have t19 := hR.q 14
    have y0 := hZ.rg.cell HV.out.2 hne
    go_simp
    exact hK _ hZ
   ·refine cp fun t vs ac wx K Q hR hZ hK => ?_
    have t1 : ac.tmps[1]? = some (.pointer (some ⟨g, 0, none⟩)) := hR.o 1
    go_simp
    exact hK _ hZ
   ·refine cp fun t vs ac wx K Q hR hZ hK => ?_
    have t21 := hR.q 16
    go_simp
    exact hK _ hZ
   ·refine cp fun t vs ac wx K Q hR hZ hK => ?_
    have t22 := hR.q 17
    go_simp
    exact hK _ hZ
   ·refine cw fun vs ac wx K Q hR hZ hK => ?_
    have t20 := hR.q 15
    have t23 := hR.q 18
    go_simp
    go_at_call 61
    refine (aB ⟨y.toArray⟩ g 5 73 _ _ (by rw [← af]; simp; omega) (hZ.at rfl) (by simp) (HL.out.lv.below (hZ.rg.below (by omega)))).mono ?_
    rintro e w' hS
    obtain ⟨rfl, hZ2⟩ := hZ.yes (cs := [some #[.int .i64 3, .int .u64 (t : Nat), .int .u64 0, .int .u64 0, .int .u64 0, .int .u64 0, .int .i64 0, .int .u64 0, .int .u64 0, .slice none 0 0, .slice none 0 0], some #[.int .i64 3, .int .u64 (t : Nat), .int .u64 (n : Nat), .int .u64 0, .int .u64 0, .int .u64 0, .int .i64 0, .int .u64 0, .int .u64 0, .slice none 0 0, .slice none 0 0], some #[.int .i64 3, .int .u64 (t : Nat), .int .u64 (n : Nat), .int .u64 0, .int .u64 0, .int .u64 (v : Nat), .int .i64 0, .int .u64 0, .int .u64 0, .slice none 0 0, .slice none 0 0]]) rfl hS (c := #[.int .i64 3, .int .u64 (t : Nat), .int .u64 (n : Nat), .int .u64 0, .int .u64 0, .int .u64 (v : Nat), .int .i64 0, .int .u64 0, .int .u64 0, .slice none 0 0, .slice none 0 0]) (by rw [HV2.out]; simp)
    exact hK _ _ bf hZ2
   ·refine cp fun t vs ac wx K Q hR hZ hK => ?_
    have t17 := hR.q 12
    have t24 := hR.weq 19 (by kernel_rfl) rfl rfl
    go_simp
    exact hK _ hZ
   ·refine cp fun t vs ac wx K Q hR hZ hK => ?_
    have t25 := hR.q 20
    go_simp
    exact hK _ hZ
   intro vs wN hZ
   simp only [aH, List.foldl_cons, List.foldl_nil]
   go_simp
   go_wp2_with fail
   go_ret
   exact gq _ hZ.rg (hZ.at rfl) (by rw [HT.out, HN.out, HV2.out]; rfl) (dw wN _ 3 t n 0 0 v (by omega) ht (aK.1 HN.out).2 (by omega) (by omega) (aK.1 HV2.out).2)
 ·have HT := hid (uO (t := t) h2)
  have t1 : ((n : Int) == 2) = false := by simp; omega
  clear h2 hn hG hh
  go_enter Tryz.func156, Tryz.ntmps156
  go_wp2_with fail
  go_quiet (fail)
  go_wp2_with fail
  go_ret
  exact bD (Rg.of_below (below_drewN br _)) HH.out HT.out
theorem qx (g t n cap : Nat) (l : List (List UInt8)) (ad : Option Addr) (w : World) (hn : n = l.length) (hG : Gv w g l (.slice ad n cap)) (ht : t < 18446744073709551616) (hL : Lq g w) (hh : w.heap[g]? = some (.cells #[.int .i64 4, .int .u64 (t : Nat), .int .u64 0, .int .u64 0, .int .u64 0, .int .u64 0, .int .i64 0, .int .u64 0, .int .u64 0, .slice none 0 0, .slice none 0 0] 73 (0, 0))) :
  Calls Tryz.prog 161 #[.slice ad n cap, .pointer (some ⟨g, 0, none⟩)] w (mH g (bX 4 t l) w) := by
 have hlt : g < w.heap.size := (Array.getElem?_eq_some_iff.1 hh).1
 have HL := hid hL
 have HH := hid hh
 clear hL
 by_cases h2 : l.length = 1
 ·obtain ⟨x, rfl⟩ := Ci h2
  subst hn
  obtain ⟨bl, off, rfl, hne, hc⟩ := iN.at hG.rep (by simp)
  have d0 := hc 0 (by simp)
  simp only [Nat.add_zero, List.getElem_cons_zero] at d0
  have lx := hG.len x (by simp)
  have HV := hid (And.intro d0 trivial)
  have hT : bX 4 t [x] = (bE x).map fun u => ⟨4, t, u, 0, 0, 0, .zero, []⟩ := rfl
  have HT := hid hT
  rw [show ([x] : List (List UInt8)).length = 1 from rfl]
  have hZ0 : ∀ (cs : List (Option (Array Value))), cs[0]? = some (some #[.int .i64 4, .int .u64 (t : Nat), .int .u64 0, .int .u64 0, .int .u64 0, .int .u64 0, .int .i64 0, .int .u64 0, .int .u64 0, .slice none 0 0, .slice none 0 0]) → fw g 73 w cs 0 (fun _ => undef) w.drew := fun cs h => ⟨_, hh, Rg.of_below br.drew, fun c' h' => by rw [h] at h'; injection h' with h'; injection h'⟩
  have HZ := hid hZ0
  clear hT h2 hG hc hh hZ0 d0
  have hn3 : (bE x = none) ∨ ∃ n, bE x = some n := by
   cases bE x <;> simp
  rcases hn3 with hna | ⟨n, hna⟩
  ·have HN := hid hna
   clear hna
   go_enter Tryz.func161, Tryz.ntmps161
   go_wp2_with fail
   refine aD (w0 := w) rfl [.eq (.slice (some ⟨bl, off, none⟩) 1 cap), .eq (.int .i64 1), .eq (.bool true), .eq (.bool true), .eq (.slice (some ⟨bl, off, none⟩) 1 cap), .eq (.pointer (some ⟨bl, off, none⟩)), .eq (.string ⟨x.toArray⟩), .eq (.pointer (some ⟨g, 0, none⟩)), .eq (.pointer (some ⟨g, 0, none⟩)), .eq (.pointer (some ⟨g, 2, none⟩)), .weq (.bool false), .eq (.bool false), .eq (.bool false)] (fw g 73 w [some #[.int .i64 4, .int .u64 (t : Nat), .int .u64 0, .int .u64 0, .int .u64 0, .int .u64 0, .int .i64 0, .int .u64 0, .int .u64 0, .slice none 0 0, .slice none 0 0], none]) (by kernel_rfl) (⟨_, HZ.out _ rfl⟩) ⟨?_, ?_, ?_, ?_, ?_, ?_, ?_, ?_, ?_, ?_, ?_, ?_, ?_, trivial⟩ (fun vs => [(5, .slice (some ⟨bl, off, none⟩) 1 cap), (6, .int .i64 1), (7, .bool true), (8, .bool true), (9, .slice (some ⟨bl, off, none⟩) 1 cap), (10, .pointer (some ⟨bl, off, none⟩)), (11, .string ⟨x.toArray⟩), (12, .pointer (some ⟨g, 0, none⟩)), (13, .pointer (some ⟨g, 0, none⟩)), (14, .pointer (some ⟨g, 2, none⟩)), (15, .bool false), (16, .bool false), (4, .bool false)]) (fun _ => rfl) 1 (by kernel_rfl) ?_
   ·refine cp fun t vs ac wx K Q hR hZ hK => ?_
    have t0 : ac.tmps[0]? = some (.slice (some ⟨bl, off, none⟩) 1 cap) := hR.o 0
    go_simp
    exact hK _ hZ
   ·refine cp fun t vs ac wx K Q hR hZ hK => ?_
    have t5 := hR.q 0
    go_simp
    exact hK _ hZ
   ·refine cp fun t vs ac wx K Q hR hZ hK => ?_
    have t6 := hR.q 1
    go_simp
    (try go_ints)
    exact hK _ hZ
   ·refine cp fun t vs ac wx K Q hR hZ hK => ?_
    have t7 := hR.q 2
    go_simp
    exact hK _ hZ
   ·refine cp fun t vs ac wx K Q hR hZ hK => ?_
    have t0 : ac.tmps[0]? = some (.slice (some ⟨bl, off, none⟩) 1 cap) := hR.o 0
    go_simp
    exact hK _ hZ
   ·refine cp fun t vs ac wx K Q hR hZ hK => ?_
    have t9 := hR.q 4
    go_simp
    exact hK _ hZ
   ·refine cp fun t vs ac wx K Q hR hZ hK => ?_
    have t10 := hR.q 5
    have y0 := hZ.rg.cell HV.out.1 hne
    go_simp
    exact hK _ hZ
   ·refine cp fun t vs ac wx K Q hR hZ hK => ?_
    have t1 : ac.tmps[1]? = some (.pointer (some ⟨g, 0, none⟩)) := hR.o 1
    go_simp
    exact hK _ hZ
   ·refine cp fun t vs ac wx K Q hR hZ hK => ?_
    have t12 := hR.q 7
    go_simp
    exact hK _ hZ
   ·refine cp fun t vs ac wx K Q hR hZ hK => ?_
    have t13 := hR.q 8
    go_simp
    exact hK _ hZ
   ·refine cw fun vs ac wx K Q hR hZ hK => ?_
    have t11 := hR.q 6
    have t14 := hR.q 9
    go_simp
    go_at_call 61
    refine (aB ⟨x.toArray⟩ g 2 73 _ _ (by rw [← af]; simp; omega) (hZ.at rfl) (by simp) (HL.out.lv.below (hZ.rg.below (by omega)))).mono ?_
    rintro e w' hS
    obtain ⟨rfl, hZ2⟩ := hZ.no (cs := [some #[.int .i64 4, .int .u64 (t : Nat), .int .u64 0, .int .u64 0, .int .u64 0, .int .u64 0, .int .i64 0, .int .u64 0, .int .u64 0, .slice none 0 0, .slice none 0 0], none]) rfl hS (by rw [HN.out]; rfl)
    exact hK _ _ bf hZ2
   ·refine cp fun t vs ac wx K Q hR hZ hK => ?_
    have t8 := hR.q 3
    have t15 := hR.weq 10 (by kernel_rfl) rfl rfl
    go_simp
    exact hK _ hZ
   ·refine cp fun t vs ac wx K Q hR hZ hK => ?_
    have t16 := hR.q 11
    go_simp
    exact hK _ hZ
   intro vs wN hZ
   simp only [aH, List.foldl_cons, List.foldl_nil]
   go_simp
   go_wp2_with fail
   go_ret
   exact bD hZ.rg hZ.any (by rw [HT.out, HN.out]; rfl)
  ·have HN := hid hna
   clear hna
   go_enter Tryz.func161, Tryz.ntmps161
   go_wp2_with fail
   refine aD (w0 := w) rfl [.eq (.slice (some ⟨bl, off, none⟩) 1 cap), .eq (.int .i64 1), .eq (.bool true), .eq (.bool true), .eq (.slice (some ⟨bl, off, none⟩) 1 cap), .eq (.pointer (some ⟨bl, off, none⟩)), .eq (.string ⟨x.toArray⟩), .eq (.pointer (some ⟨g, 0, none⟩)), .eq (.pointer (some ⟨g, 0, none⟩)), .eq (.pointer (some ⟨g, 2, none⟩)), .weq (.bool true), .eq (.bool true), .eq (.bool true)] (fw g 73 w [some #[.int .i64 4, .int .u64 (t : Nat), .int .u64 0, .int .u64 0, .int .u64 0, .int .u64 0, .int .i64 0, .int .u64 0, .int .u64 0, .slice none 0 0, .slice none 0 0], some #[.int .i64 4, .int .u64 (t : Nat), .int .u64 (n : Nat), .int .u64 0, .int .u64 0, .int .u64 0, .int .i64 0, .int .u64 0, .int .u64 0, .slice none 0 0, .slice none 0 0]]) (by kernel_rfl) (⟨_, HZ.out _ rfl⟩) ⟨?_, ?_, ?_, ?_, ?_, ?_, ?_, ?_, ?_, ?_, ?_, ?_, ?_, trivial⟩ (fun vs => [(5, .slice (some ⟨bl, off, none⟩) 1 cap), (6, .int .i64 1), (7, .bool true), (8, .bool true), (9, .slice (some ⟨bl, off, none⟩) 1 cap), (10, .pointer (some ⟨bl, off, none⟩)), (11, .string ⟨x.toArray⟩), (12, .pointer (some ⟨g, 0, none⟩)), (13, .pointer (some ⟨g, 0, none⟩)), (14, .pointer (some ⟨g, 2, none⟩)), (15, .bool true), (16, .bool true), (4, .bool true)]) (fun _ => rfl) 1 (by kernel_rfl) ?_
   ·refine cp fun t vs ac wx K Q hR hZ hK => ?_
    have t0 : ac.tmps[0]? = some (.slice (some ⟨bl, off, none⟩) 1 cap) := hR.o 0
    go_simp
    exact hK _ hZ
   ·refine cp fun t vs ac wx K Q hR hZ hK => ?_
    have t5 := hR.q 0
    go_simp
    exact hK _ hZ
   ·refine cp fun t vs ac wx K Q hR hZ hK => ?_
    have t6 := hR.q 1
    go_simp
    (try go_ints)
    exact hK _ hZ
   ·refine cp fun t vs ac wx K Q hR hZ hK => ?_
    have t7 := hR.q 2
    go_simp
    exact hK _ hZ
   ·refine cp fun t vs ac wx K Q hR hZ hK => ?_
    have t0 : ac.tmps[0]? = some (.slice (some ⟨bl, off, none⟩) 1 cap) := hR.o 0
    go_simp
    exact hK _ hZ
   ·refine cp fun t vs ac wx K Q hR hZ hK => ?_
    have t9 := hR.q 4
    go_simp
    exact hK _ hZ
   ·refine cp fun t vs ac wx K Q hR hZ hK => ?_
    have t10 := hR.q 5
    have y0 := hZ.rg.cell HV.out.1 hne
    go_simp
    exact hK _ hZ
   ·refine cp fun t vs ac wx K Q hR hZ hK => ?_
    have t1 : ac.tmps[1]? = some (.pointer (some ⟨g, 0, none⟩)) := hR.o 1
    go_simp
    exact hK _ hZ
   ·refine cp fun t vs ac wx K Q hR hZ hK => ?_
    have t12 := hR.q 7
    go_simp
    exact hK _ hZ
   ·refine cp fun t vs ac wx K Q hR hZ hK => ?_
    have t13 := hR.q 8
    go_simp
    exact hK _ hZ
   ·refine cw fun vs ac wx K Q hR hZ hK => ?_
    have t11 := hR.q 6
    have t14 := hR.q 9
    go_simp
    go_at_call 61
    refine (aB ⟨x.toArray⟩ g 2 73 _ _ (by rw [← af]; simp; omega) (hZ.at rfl) (by simp) (HL.out.lv.below (hZ.rg.below (by omega)))).mono ?_
    rintro e w' hS
    obtain ⟨rfl, hZ2⟩ := hZ.yes (cs := [some #[.int .i64 4, .int .u64 (t : Nat), .int .u64 0, .int .u64 0, .int .u64 0, .int .u64 0, .int .i64 0, .int .u64 0, .int .u64 0, .slice none 0 0, .slice none 0 0], some #[.int .i64 4, .int .u64 (t : Nat), .int .u64 (n : Nat), .int .u64 0, .int .u64 0, .int .u64 0, .int .i64 0, .int .u64 0, .int .u64 0, .slice none 0 0, .slice none 0 0]]) rfl hS (c := #[.int .i64 4, .int .u64 (t : Nat), .int .u64 (n : Nat), .int .u64 0, .int .u64 0, .int .u64 0, .int .i64 0, .int .u64 0, .int .u64 0, .slice none 0 0, .slice none 0 0]) (by rw [HN.out]; simp)
    exact hK _ _ bf hZ2
   ·refine cp fun t vs ac wx K Q hR hZ hK => ?_
    have t8 := hR.q 3
    have t15 := hR.weq 10 (by kernel_rfl) rfl rfl
    go_simp
    exact hK _ hZ
   ·refine cp fun t vs ac wx K Q hR hZ hK => ?_
    have t16 := hR.q 11
    go_simp
    exact hK _ hZ
   intro vs wN hZ
   simp only [aH, List.foldl_cons, List.foldl_nil]
   go_simp
   go_wp2_with fail
   go_ret
   exact gq _ hZ.rg (hZ.at rfl) (by rw [HT.out, HN.out]; rfl) (dw wN _ 4 t n 0 0 0 (by omega) ht (aK.1 HN.out).2 (by omega) (by omega) (by omega))
 ·have HT := hid (uP (t := t) h2)
  have t1 : ((n : Int) == 1) = false := by simp; omega
  clear h2 hn hG hh
  go_enter Tryz.func161, Tryz.ntmps161
  go_wp2_with fail
  go_quiet (fail)
  go_wp2_with fail
  go_ret
  exact bD (Rg.of_below (below_drewN br _)) HH.out HT.out
end Go.Proofs.YtlpgokcapdjgjaaGreatDoor
