/- Walks. -/
import Derived.Test.YtmgbhhmipmgcpaaGreatDoorQW22
set_option maxHeartbeats 8000000
set_option maxRecDepth 100000
namespace Go.Proofs.YtmgbhhmipmgcpaaGreatDoor
open Go.RowKit Go
set_option linter.unusedVariables false
set_option linter.unusedSimpArgs false
def jI (g : Nat) (o : Option Rec) (w : World) (e : Ending) (w' : World) : Prop :=
 ∃ cs', e = .returned (.bool o.isSome) ∧ w'.heap[g]? = some (.cells cs' 47 (0, 0)) ∧ Rg g w w' ∧ ∀ r, o = some r → aI w' (fun b => w.heap.size ≤ b) true r (.agg cs')
theorem lJ (W : World) (S : Nat → Prop) : av W S true .zero (.agg #[.int .i64 0, .int .u64 0, .int .u64 0, .slice none 0 0]) := dE (by omega) (by omega) (by omega) (by omega)
theorem eG (W : World) (S : Nat → Prop) (k t x w n v : Nat) (hk : k ≤ 7) (ht : t < 18446744073709551616) (hx : x < 18446744073709551616) (hw : w < 18446744073709551616) (hn : n < 18446744073709551616) (hv : v < 18446744073709551616) :
  aI W S true ⟨k, t, x, w, n, v, .zero, []⟩ (.agg #[.int .i64 (k : Nat), .int .u64 (t : Nat), .int .u64 (x : Nat), .int .u64 (w : Nat), .int .u64 (n : Nat), .int .u64 (v : Nat), .int .i64 0, .int .u64 0, .int .u64 0, .slice none 0 0, .slice none 0 0]) :=
 ⟨_, _, _, _, _, rfl, by dsimp only; omega, by dsimp only; omega, ⟨ht, hx, hw, hn, hv, fT, by simp⟩, lJ W S, Sl.nil W S true 4⟩
theorem aW {g : Nat} {o : Option Rec} {w w' : World} {cs' : Array Value} (h1 : Rg g w w') (h2 : w'.heap[g]? = some (.cells cs' 47 (0, 0))) (h3 : o = none) : jI g o w (.returned (.bool false)) w' := by
 subst h3; exact ⟨cs', rfl, h2, h1, fun r hr => by cases hr⟩
theorem eH {g : Nat} {o : Option Rec} {w w' : World} {cs' : Array Value} (r : Rec) (h1 : Rg g w w') (h2 : w'.heap[g]? = some (.cells cs' 47 (0, 0))) (h3 : o = some r) (h4 : aI w' (fun b => w.heap.size ≤ b) true r (.agg cs')) : jI g o w (.returned (.bool true)) w' := by
 subst h3; exact ⟨cs', rfl, h2, h1, fun r' hr => by injection hr with hr; subst hr; exact h4⟩
theorem gX (g k t n cap : Nat) (l : List (List UInt8)) (ad : Option Addr) (w : World) (hk : k = 1 ∨ k = 6 ∨ k = 7) (hn : n = l.length) (ht : t < 18446744073709551616) (hh : w.heap[g]? = some (.cells #[.int .i64 (k : Nat), .int .u64 (t : Nat), .int .u64 0, .int .u64 0, .int .u64 0, .int .u64 0, .int .i64 0, .int .u64 0, .int .u64 0, .slice none 0 0, .slice none 0 0] 47 (0, 0))) :
  Calls Tryz.prog 83 #[.slice ad n cap, .pointer (some ⟨g, 0, none⟩)] w (jI g (bL k t l) w) := by
 have HH := hid hh
 have hT : bL k t l = if l = [] then some ⟨k, t, 0, 0, 0, 0, .zero, []⟩ else none := by
  unfold bL
  rw [if_neg (by omega), if_neg (by omega), if_neg (by omega), if_neg (by omega)]
 have HT := hid hT
 clear hh hT
 cases l with
 | nil =>
  have hn0 : n = 0 := hn
  subst hn0
  clear hn
  go_enter Tryz.func83, Tryz.ntmps83
  go_wp2_with fail
  go_ret
  exact eH _ (Rg.refl _ _) HH.out (by rw [HT.out]; rfl) (eG w _ k t 0 0 0 0 (by omega) ht (by omega) (by omega) (by omega) (by omega))
 | cons a l =>
  have t1 : ((n : Int) == 0) = false := by simp at hn ⊢; omega
  clear hn
  go_enter Tryz.func83, Tryz.ntmps83
  go_wp2_with fail
  go_ret
  exact aW (Rg.refl _ _) HH.out (by rw [HT.out]; rfl)
structure Gv (w : World) (g : Nat) (l : List (List UInt8)) (v : Value) : Prop where
 rep : dm w (fun b => b ≠ g) l v
 len : ∀ x ∈ l, x.length ≤ 50000
theorem oK {t : Nat} {l : List (List UInt8)} (h : l.length ≠ 2) : bL 2 t l = none := by
 unfold bL
 rw [if_pos rfl]
 split
 ·exact absurd rfl h
 ·rfl
theorem oL {t : Nat} {l : List (List UInt8)} (h : l.length ≠ 2) : bL 3 t l = none := by
 unfold bL
 rw [if_neg (by omega), if_pos rfl]
 split
 ·exact absurd rfl h
 ·rfl
theorem oM {t : Nat} {l : List (List UInt8)} (h : l.length ≠ 1) : bL 4 t l = none := by
 unfold bL
 rw [if_neg (by omega), if_neg (by omega), if_pos rfl]
 split
 ·exact absurd rfl h
 ·rfl
theorem wu {α : Type} {l : List α} (h : l.length = 2) : ∃ a b, l = [a, b] := by
 match l, h with
 | [a, b], _ => exact ⟨a, b, rfl⟩
theorem xU {α : Type} {l : List α} (h : l.length = 1) : ∃ a, l = [a] := by
 match l, h with
 | [a], _ => exact ⟨a, rfl⟩
theorem oN (g t n cap : Nat) (l : List (List UInt8)) (ad : Option Addr) (w : World) (hn : n = l.length) (hG : Gv w g l (.slice ad n cap)) (ht : t < 18446744073709551616) (hL : Lq g w) (hh : w.heap[g]? = some (.cells #[.int .i64 2, .int .u64 (t : Nat), .int .u64 0, .int .u64 0, .int .u64 0, .int .u64 0, .int .i64 0, .int .u64 0, .int .u64 0, .slice none 0 0, .slice none 0 0] 47 (0, 0))) :
  Calls Tryz.prog 119 #[.slice ad n cap, .pointer (some ⟨g, 0, none⟩)] w (jI g (bL 2 t l) w) := by
 have hlt : g < w.heap.size := (Array.getElem?_eq_some_iff.1 hh).1
 have HL := hid hL
 have HH := hid hh
 clear hL
 by_cases h2 : l.length = 2
 ·obtain ⟨x, y, rfl⟩ := wu h2
  subst hn
  obtain ⟨bl, off, rfl, hne, hc⟩ := dm.at hG.rep (by simp)
  have d0 := hc 0 (by simp)
  have d1 := hc 1 (by simp)
  simp only [Nat.add_zero, List.getElem_cons_zero, List.getElem_cons_succ] at d0 d1
  have lx := hG.len x (by simp)
  have ly := hG.len y (by simp)
  have HV := hid (And.intro d0 d1)
  have hT : bL 2 t [x, y] = (aT x).bind fun u => (gT y).map fun v => ⟨2, t, u, v.1, v.2, 0, .zero, []⟩ := rfl
  have HT := hid hT
  rw [show ([x, y] : List (List UInt8)).length = 2 from rfl]
  have hZ0 : ∀ (cs : List (Option (Array Value))), cs[0]? = some (some #[.int .i64 2, .int .u64 (t : Nat), .int .u64 0, .int .u64 0, .int .u64 0, .int .u64 0, .int .i64 0, .int .u64 0, .int .u64 0, .slice none 0 0, .slice none 0 0]) → dL g 47 w cs 0 (fun _ => undef) w.drew := fun cs h => ⟨_, hh, Rg.of_below br.drew, fun c' h' => by rw [h] at h'; injection h' with h'; injection h'⟩
  have HZ := hid hZ0
  clear hT h2 hG hc hh hZ0 d0 d1
  have hn3 : (aT x = none) ∨ ((∃ n, aT x = some n) ∧ gT y = none) ∨ ∃ n v, aT x = some n ∧ gT y = some v := by
   cases aT x <;> cases gT y <;> simp
  rcases hn3 with hna | ⟨⟨n, hna⟩, hvb⟩ | ⟨n, v, hna, hvb⟩
  ·have HN := hid hna
   clear hna
   go_enter Tryz.func119, Tryz.ntmps119
   go_wp2_with fail
   refine aF (w0 := w) rfl [.eq (.slice (some ⟨bl, off, none⟩) 2 cap), .eq (.int .i64 2), .eq (.bool true), .eq (.bool true), .eq (.slice (some ⟨bl, off, none⟩) 2 cap), .eq (.pointer (some ⟨bl, off, none⟩)), .eq (.string ⟨x.toArray⟩), .eq (.pointer (some ⟨g, 0, none⟩)), .eq (.pointer (some ⟨g, 0, none⟩)), .eq (.pointer (some ⟨g, 2, none⟩)), .weq (.bool false), .eq (.bool false), .eq (.bool false), .skip, .skip, .skip, .skip, .skip, .skip, .skip, .eq ((Value.bool false)), .eq ((Value.bool false))] (dL g 47 w [some #[.int .i64 2, .int .u64 (t : Nat), .int .u64 0, .int .u64 0, .int .u64 0, .int .u64 0, .int .i64 0, .int .u64 0, .int .u64 0, .slice none 0 0, .slice none 0 0], none]) (by kernel_rfl) (⟨_, HZ.out _ rfl⟩) ⟨?_, ?_, ?_, ?_, ?_, ?_, ?_, ?_, ?_, ?_, ?_, ?_, ?_, ?_, ?_, trivial⟩ (fun vs => [(5, .slice (some ⟨bl, off, none⟩) 2 cap), (6, .int .i64 2), (7, .bool true), (8, .bool true), (9, .slice (some ⟨bl, off, none⟩) 2 cap), (10, .pointer (some ⟨bl, off, none⟩)), (11, .string ⟨x.toArray⟩), (12, .pointer (some ⟨g, 0, none⟩)), (13, .pointer (some ⟨g, 0, none⟩)), (14, .pointer (some ⟨g, 2, none⟩)), (15, .bool false), (16, .bool false), (17, .bool false), (18, undef), (19, undef), (20, undef), (21, undef), (22, undef), (23, undef), (24, undef), (25, (Value.bool false)), (4, (Value.bool false))]) (fun _ => rfl) 1 (by kernel_rfl) ?_
   ·refine ae.mk rfl rfl (fun t vs ac wx K Q hR hZ hK => ?_)
    have t0 : ac.tmps[0]? = some (.slice (some ⟨bl, off, none⟩) 2 cap) := (hR.old 0 (by kernel_rfl)).trans (by kernel_rfl)
    go_simp
    exact hK _ hZ
   ·refine ae.mk rfl rfl (fun t vs ac wx K Q hR hZ hK => ?_)
    have t5 := hR.eq 0 (by kernel_rfl) rfl rfl
    go_simp
    exact hK _ hZ
   ·refine ae.mk rfl rfl (fun t vs ac wx K Q hR hZ hK => ?_)
    have t6 := hR.eq 1 (by kernel_rfl) rfl rfl
    go_simp
    (try go_ints)
    exact hK _ hZ
   ·refine ae.mk rfl rfl (fun t vs ac wx K Q hR hZ hK => ?_)
    have t7 := hR.eq 2 (by kernel_rfl) rfl rfl
    go_simp
    exact hK _ hZ
   ·refine ae.mk rfl rfl (fun t vs ac wx K Q hR hZ hK => ?_)
    have t0 : ac.tmps[0]? = some (.slice (some ⟨bl, off, none⟩) 2 cap) := (hR.old 0 (by kernel_rfl)).trans (by kernel_rfl)
    go_simp
    exact hK _ hZ
   ·refine ae.mk rfl rfl (fun t vs ac wx K Q hR hZ hK => ?_)
    have t9 := hR.eq 4 (by kernel_rfl) rfl rfl
    go_simp
    exact hK _ hZ
   ·refine ae.mk rfl rfl (fun t vs ac wx K Q hR hZ hK => ?_)
    have t10 := hR.eq 5 (by kernel_rfl) rfl rfl
    have y0 := hZ.rg.cell HV.out.1 hne
    go_simp
    exact hK _ hZ
   ·refine ae.mk rfl rfl (fun t vs ac wx K Q hR hZ hK => ?_)
    have t1 : ac.tmps[1]? = some (.pointer (some ⟨g, 0, none⟩)) := (hR.old 1 (by kernel_rfl)).trans (by kernel_rfl)
    go_simp
    exact hK _ hZ
   ·refine ae.mk rfl rfl (fun t vs ac wx K Q hR hZ hK => ?_)
    have t12 := hR.eq 7 (by kernel_rfl) rfl rfl
    go_simp
    exact hK _ hZ
   ·refine ae.mk rfl rfl (fun t vs ac wx K Q hR hZ hK => ?_)
    have t13 := hR.eq 8 (by kernel_rfl) rfl rfl
    go_simp
    exact hK _ hZ
   ·refine aL.mk rfl rfl (fun vs ac wx K Q hR hZ hK => ?_)
    have t11 := hR.eq 6 (by kernel_rfl) rfl rfl
    have t14 := hR.eq 9 (by kernel_rfl) rfl rfl
    go_simp
    go_at_call 66
    refine (aB ⟨x.toArray⟩ g 2 47 _ _ (by rw [← ah]; simp; omega) (hZ.at rfl) (by simp) (HL.out.lv.below (hZ.rg.below (by omega)))).mono ?_
    rintro e w' hS
    obtain ⟨rfl, hZ2⟩ := hZ.no (cs := [some #[.int .i64 2, .int .u64 (t : Nat), .int .u64 0, .int .u64 0, .int .u64 0, .int .u64 0, .int .i64 0, .int .u64 0, .int .u64 0, .slice none 0 0, .slice none 0 0], none]) rfl hS (by rw [HN.out]; rfl)
    exact hK _ _ aR hZ2
   ·refine ae.mk rfl rfl (fun t vs ac wx K Q hR hZ hK => ?_)
    have t8 := hR.eq 3 (by kernel_rfl) rfl rfl
    have t15 := hR.weq 10 (by kernel_rfl) rfl rfl
    go_simp
    exact hK _ hZ
   ·refine ae.mk rfl rfl (fun t vs ac wx K Q hR hZ hK => ?_)
    have t16 := hR.eq 11 (by kernel_rfl) rfl rfl
    go_simp
    exact hK _ hZ
   ·refine ae.mk rfl rfl (fun t vs ac wx K Q hR hZ hK => ?_)
    have t17 := hR.eq 12 (by kernel_rfl) rfl rfl
    have t24 := hR.skip 19 (by kernel_rfl) rfl rfl
    go_simp
    exact hK _ hZ
   ·refine ae.mk rfl rfl (fun t vs ac wx K Q hR hZ hK => ?_)
    have t25 := hR.eq 20 (by kernel_rfl) rfl rfl
    go_simp
    exact hK _ hZ
   intro vs wN hZ
   simp only [aM, List.foldl_cons, List.foldl_nil]
   go_simp
   go_wp2_with fail
   go_ret
   exact aW hZ.rg hZ.any (by rw [HT.out, HN.out]; rfl)
  ·have HN := hid hna
   have HV2 := hid hvb
   clear hna hvb
   go_enter Tryz.func119, Tryz.ntmps119
   go_wp2_with fail
   refine aF (w0 := w) rfl [.eq (.slice (some ⟨bl, off, none⟩) 2 cap), .eq (.int .i64 2), .eq (.bool true), .eq (.bool true), .eq (.slice (some ⟨bl, off, none⟩) 2 cap), .eq (.pointer (some ⟨bl, off, none⟩)), .eq (.string ⟨x.toArray⟩), .eq (.pointer (some ⟨g, 0, none⟩)), .eq (.pointer (some ⟨g, 0, none⟩)), .eq (.pointer (some ⟨g, 2, none⟩)), .weq (.bool true), .eq (.bool true), .eq (.bool true), .eq (.slice (some ⟨bl, off, none⟩) 2 cap), .eq (.pointer (some ⟨bl, off + 1, none⟩)), .eq (.string ⟨y.toArray⟩), .eq (.pointer (some ⟨g, 0, none⟩)), .eq (.pointer (some ⟨g, 0, none⟩)), .eq (.pointer (some ⟨g, 3, none⟩)), .weq (.bool false), .eq (.bool false), .eq (.bool false)] (dL g 47 w [some #[.int .i64 2, .int .u64 (t : Nat), .int .u64 0, .int .u64 0, .int .u64 0, .int .u64 0, .int .i64 0, .int .u64 0, .int .u64 0, .slice none 0 0, .slice none 0 0], some #[.int .i64 2, .int .u64 (t : Nat), .int .u64 (n : Nat), .int .u64 0, .int .u64 0, .int .u64 0, .int .i64 0, .int .u64 0, .int .u64 0, .slice none 0 0, .slice none 0 0], none]) (by kernel_rfl) (⟨_, HZ.out _ rfl⟩) ⟨?_, ?_, ?_, ?_, ?_, ?_, ?_, ?_, ?_, ?_, ?_, ?_, ?_, ?_, ?_, ?_, ?_, ?_, ?_, ?_, ?_, ?_, trivial⟩ (fun vs => [(5, .slice (some ⟨bl, off, none⟩) 2 cap), (6, .int .i64 2), (7, .bool true), (8, .bool true), (9, .slice (some ⟨bl, off, none⟩) 2 cap), (10, .pointer (some ⟨bl, off, none⟩)), (11, .string ⟨x.toArray⟩), (12, .pointer (some ⟨g, 0, none⟩)), (13, .pointer (some ⟨g, 0, none⟩)), (14, .pointer (some ⟨g, 2, none⟩)), (15, .bool true), (16, .bool true), (17, .bool true), (18, .slice (some ⟨bl, off, none⟩) 2 cap), (19, .pointer (some ⟨bl, off + 1, none⟩)), (20, .string ⟨y.toArray⟩), (21, .pointer (some ⟨g, 0, none⟩)), (22, .pointer (some ⟨g, 0, none⟩)), (23, .pointer (some ⟨g, 3, none⟩)), (24, .bool false), (25, .bool false), (4, .bool false)]) (fun _ => rfl) 2 (by kernel_rfl) ?_
   ·refine ae.mk rfl rfl (fun t vs ac wx K Q hR hZ hK => ?_)
    have t0 : ac.tmps[0]? = some (.slice (some ⟨bl, off, none⟩) 2 cap) := (hR.old 0 (by kernel_rfl)).trans (by kernel_rfl)
    go_simp
    exact hK _ hZ
   ·refine ae.mk rfl rfl (fun t vs ac wx K Q hR hZ hK => ?_)
    have t5 := hR.eq 0 (by kernel_rfl) rfl rfl
    go_simp
    exact hK _ hZ
   ·refine ae.mk rfl rfl (fun t vs ac wx K Q hR hZ hK => ?_)
    have t6 := hR.eq 1 (by kernel_rfl) rfl rfl
    go_simp
    (try go_ints)
    exact hK _ hZ
   ·refine ae.mk rfl rfl (fun t vs ac wx K Q hR hZ hK => ?_)
    have t7 := hR.eq 2 (by kernel_rfl) rfl rfl
    go_simp
    exact hK _ hZ
   ·refine ae.mk rfl rfl (fun t vs ac wx K Q hR hZ hK => ?_)
    have t0 : ac.tmps[0]? = some (.slice (some ⟨bl, off, none⟩) 2 cap) := (hR.old 0 (by kernel_rfl)).trans (by kernel_rfl)
    go_simp
    exact hK _ hZ
   ·refine ae.mk rfl rfl (fun t vs ac wx K Q hR hZ hK => ?_)
    have t9 := hR.eq 4 (by kernel_rfl) rfl rfl
    go_simp
    exact hK _ hZ
   ·refine ae.mk rfl rfl (fun t vs ac wx K Q hR hZ hK => ?_)
    have t10 := hR.eq 5 (by kernel_rfl) rfl rfl
    have y0 := hZ.rg.cell HV.out.1 hne
    go_simp
    exact hK _ hZ
   ·refine ae.mk rfl rfl (fun t vs ac wx K Q hR hZ hK => ?_)
    have t1 : ac.tmps[1]? = some (.pointer (some ⟨g, 0, none⟩)) := (hR.old 1 (by kernel_rfl)).trans (by kernel_rfl)
    go_simp
    exact hK _ hZ
   ·refine ae.mk rfl rfl (fun t vs ac wx K Q hR hZ hK => ?_)
    have t12 := hR.eq 7 (by kernel_rfl) rfl rfl
    go_simp
    exact hK _ hZ
   ·refine ae.mk rfl rfl (fun t vs ac wx K Q hR hZ hK => ?_)
    have t13 := hR.eq 8 (by kernel_rfl) rfl rfl
    go_simp
    exact hK _ hZ
   ·refine aL.mk rfl rfl (fun vs ac wx K Q hR hZ hK => ?_)
    have t11 := hR.eq 6 (by kernel_rfl) rfl rfl
    have t14 := hR.eq 9 (by kernel_rfl) rfl rfl
    go_simp
    go_at_call 66
    refine (aB ⟨x.toArray⟩ g 2 47 _ _ (by rw [← ah]; simp; omega) (hZ.at rfl) (by simp) (HL.out.lv.below (hZ.rg.below (by omega)))).mono ?_
    rintro e w' hS
    obtain ⟨rfl, hZ2⟩ := hZ.yes (cs := [some #[.int .i64 2, .int .u64 (t : Nat), .int .u64 0, .int .u64 0, .int .u64 0, .int .u64 0, .int .i64 0, .int .u64 0, .int .u64 0, .slice none 0 0, .slice none 0 0], some #[.int .i64 2, .int .u64 (t : Nat), .int .u64 (n : Nat), .int .u64 0, .int .u64 0, .int .u64 0, .int .i64 0, .int .u64 0, .int .u64 0, .slice none 0 0, .slice none 0 0], none]) rfl hS (c := #[.int .i64 2, .int .u64 (t : Nat), .int .u64 (n : Nat), .int .u64 0, .int .u64 0, .int .u64 0, .int .i64 0, .int .u64 0, .int .u64 0, .slice none 0 0, .slice none 0 0]) (by rw [HN.out]; simp)
    exact hK _ _ aR hZ2
   ·refine ae.mk rfl rfl (fun t vs ac wx K Q hR hZ hK => ?_)
    have t8 := hR.eq 3 (by kernel_rfl) rfl rfl
    have t15 := hR.weq 10 (by kernel_rfl) rfl rfl
    go_simp
    exact hK _ hZ
   ·refine ae.mk rfl rfl (fun t vs ac wx K Q hR hZ hK => ?_)
    have t16 := hR.eq 11 (by kernel_rfl) rfl rfl
    go_simp
    exact hK _ hZ
   ·refine ae.mk rfl rfl (fun t vs ac wx K Q hR hZ hK => ?_)
    have t0 : ac.tmps[0]? = some (.slice (some ⟨bl, off, none⟩) 2 cap) := (hR.old 0 (by kernel_rfl)).trans (by kernel_rfl)
    go_simp
    exact hK _ hZ
   ·refine ae.mk rfl rfl (fun t vs ac wx K Q hR hZ hK => ?_)
    have t18 := hR.eq 13 (by kernel_rfl) rfl rfl
    go_simp
    exact hK _ hZ
   ·refine ae.mk rfl rfl (fun t vs ac wx K Q hR hZ hK => ?_)
    have t19 := hR.eq 14 (by kernel_rfl) rfl rfl
    have y0 := hZ.rg.cell HV.out.2 hne
    go_simp
    exact hK _ hZ
   ·refine ae.mk rfl rfl (fun t vs ac wx K Q hR hZ hK => ?_)
    have t1 : ac.tmps[1]? = some (.pointer (some ⟨g, 0, none⟩)) := (hR.old 1 (by kernel_rfl)).trans (by kernel_rfl)
    go_simp
    exact hK _ hZ
   ·refine ae.mk rfl rfl (fun t vs ac wx K Q hR hZ hK => ?_)
    have t21 := hR.eq 16 (by kernel_rfl) rfl rfl
    go_simp
    exact hK _ hZ
   ·refine ae.mk rfl rfl (fun t vs ac wx K Q hR hZ hK => ?_)
    have t22 := hR.eq 17 (by kernel_rfl) rfl rfl
    go_simp
    exact hK _ hZ
   ·refine aL.mk rfl rfl (fun vs ac wx K Q hR hZ hK => ?_)
    have t20 := hR.eq 15 (by kernel_rfl) rfl rfl
    have t23 := hR.eq 18 (by kernel_rfl) rfl rfl
    go_simp
    go_at_call 120
    refine (bT ⟨y.toArray⟩ g 3 47 _ _ (by rw [← ah]; simp; omega) (hZ.at rfl) (by simp) (HL.out.below (hZ.rg.below (by omega)))).mono ?_
    rintro e w' hS
    obtain ⟨rfl, hZ2⟩ := hZ.no (cs := [some #[.int .i64 2, .int .u64 (t : Nat), .int .u64 0, .int .u64 0, .int .u64 0, .int .u64 0, .int .i64 0, .int .u64 0, .int .u64 0, .slice none 0 0, .slice none 0 0], some #[.int .i64 2, .int .u64 (t : Nat), .int .u64 (n : Nat), .int .u64 0, .int .u64 0, .int .u64 0, .int .i64 0, .int .u64 0, .int .u64 0, .slice none 0 0, .slice none 0 0], none]) rfl hS (by rw [HV2.out]; rfl)
    exact hK _ _ aR hZ2
   ·refine ae.mk rfl rfl (fun t vs ac wx K Q hR hZ hK => ?_)
    have t17 := hR.eq 12 (by kernel_rfl) rfl rfl
    have t24 := hR.weq 19 (by kernel_rfl) rfl rfl
    go_simp
    exact hK _ hZ
   ·refine ae.mk rfl rfl (fun t vs ac wx K Q hR hZ hK => ?_)
    have t25 := hR.eq 20 (by kernel_rfl) rfl rfl
    go_simp
    exact hK _ hZ
   intro vs wN hZ
   simp only [aM, List.foldl_cons, List.foldl_nil]
   go_simp
   go_wp2_with fail
   go_ret
   exact aW hZ.rg hZ.any (by rw [HT.out, HN.out, HV2.out]; rfl)
  ·have HN := hid hna
   have HV2 := hid hvb
   clear hna hvb
   go_enter Tryz.func119, Tryz.ntmps119
   go_wp2_with fail
   refine aF (w0 := w) rfl [.eq (.slice (some ⟨bl, off, none⟩) 2 cap), .eq (.int .i64 2), .eq (.bool true), .eq (.bool true), .eq (.slice (some ⟨bl, off, none⟩) 2 cap), .eq (.pointer (some ⟨bl, off, none⟩)), .eq (.string ⟨x.toArray⟩), .eq (.pointer (some ⟨g, 0, none⟩)), .eq (.pointer (some ⟨g, 0, none⟩)), .eq (.pointer (some ⟨g, 2, none⟩)), .weq (.bool true), .eq (.bool true), .eq (.bool true), .eq (.slice (some ⟨bl, off, none⟩) 2 cap), .eq (.pointer (some ⟨bl, off + 1, none⟩)), .eq (.string ⟨y.toArray⟩), .eq (.pointer (some ⟨g, 0, none⟩)), .eq (.pointer (some ⟨g, 0, none⟩)), .eq (.pointer (some ⟨g, 3, none⟩)), .weq (.bool true), .eq (.bool true), .eq (.bool true)] (dL g 47 w [some #[.int .i64 2, .int .u64 (t : Nat), .int .u64 0, .int .u64 0, .int .u64 0, .int .u64 0, .int .i64 0, .int .u64 0, .int .u64 0, .slice none 0 0, .slice none 0 0], some #[.int .i64 2, .int .u64 (t : Nat), .int .u64 (n : Nat), .int .u64 0, .int .u64 0, .int .u64 0, .int .i64 0, .int .u64 0, .int .u64 0, .slice none 0 0, .slice none 0 0], some #[.int .i64 2, .int .u64 (t : Nat), .int .u64 (n : Nat), .int .u64 (v.1 : Nat), .int .u64 (v.2 : Nat), .int .u64 0, .int .i64 0, .int .u64 0, .int .u64 0, .slice none 0 0, .slice none 0 0]]) (by kernel_rfl) (⟨_, HZ.out _ rfl⟩) ⟨?_, ?_, ?_, ?_, ?_, ?_, ?_, ?_, ?_, ?_, ?_, ?_, ?_, ?_, ?_, ?_, ?_, ?_, ?_, ?_, ?_, ?_, trivial⟩ (fun vs => [(5, .slice (some ⟨bl, off, none⟩) 2 cap), (6, .int .i64 2), (7, .bool true), (8, .bool true), (9, .slice (some ⟨bl, off, none⟩) 2 cap), (10, .pointer (some ⟨bl, off, none⟩)), (11, .string ⟨x.toArray⟩), (12, .pointer (some ⟨g, 0, none⟩)), (13, .pointer (some ⟨g, 0, none⟩)), (14, .pointer (some ⟨g, 2, none⟩)), (15, .bool true), (16, .bool true), (17, .bool true), (18, .slice (some ⟨bl, off, none⟩) 2 cap), (19, .pointer (some ⟨bl, off + 1, none⟩)), (20, .string ⟨y.toArray⟩), (21, .pointer (some ⟨g, 0, none⟩)), (22, .pointer (some ⟨g, 0, none⟩)), (23, .pointer (some ⟨g, 3, none⟩)), (24, .bool true), (25, .bool true), (4, .bool true)]) (fun _ => rfl) 2 (by kernel_rfl) ?_
   ·refine ae.mk rfl rfl (fun t vs ac wx K Q hR hZ hK => ?_)
    have t0 : ac.tmps[0]? = some (.slice (some ⟨bl, off, none⟩) 2 cap) := (hR.old 0 (by kernel_rfl)).trans (by kernel_rfl)
    go_simp
    exact hK _ hZ
   ·refine ae.mk rfl rfl (fun t vs ac wx K Q hR hZ hK => ?_)
    have t5 := hR.eq 0 (by kernel_rfl) rfl rfl
    go_simp
    exact hK _ hZ
   ·refine ae.mk rfl rfl (fun t vs ac wx K Q hR hZ hK => ?_)
    have t6 := hR.eq 1 (by kernel_rfl) rfl rfl
    go_simp
    (try go_ints)
    exact hK _ hZ
   ·refine ae.mk rfl rfl (fun t vs ac wx K Q hR hZ hK => ?_)
    have t7 := hR.eq 2 (by kernel_rfl) rfl rfl
    go_simp
    exact hK _ hZ
   ·refine ae.mk rfl rfl (fun t vs ac wx K Q hR hZ hK => ?_)
    have t0 : ac.tmps[0]? = some (.slice (some ⟨bl, off, none⟩) 2 cap) := (hR.old 0 (by kernel_rfl)).trans (by kernel_rfl)
    go_simp
    exact hK _ hZ
   ·refine ae.mk rfl rfl (fun t vs ac wx K Q hR hZ hK => ?_)
    have t9 := hR.eq 4 (by kernel_rfl) rfl rfl
    go_simp
    exact hK _ hZ
   ·refine ae.mk rfl rfl (fun t vs ac wx K Q hR hZ hK => ?_)
    have t10 := hR.eq 5 (by kernel_rfl) rfl rfl
    have y0 := hZ.rg.cell HV.out.1 hne
    go_simp
    exact hK _ hZ
   ·refine ae.mk rfl rfl (fun t vs ac wx K Q hR hZ hK => ?_)
    have t1 : ac.tmps[1]? = some (.pointer (some ⟨g, 0, none⟩)) := (hR.old 1 (by kernel_rfl)).trans (by kernel_rfl)
    go_simp
    exact hK _ hZ
   ·refine ae.mk rfl rfl (fun t vs ac wx K Q hR hZ hK => ?_)
    have t12 := hR.eq 7 (by kernel_rfl) rfl rfl
    go_simp
    exact hK _ hZ
   ·refine ae.mk rfl rfl (fun t vs ac wx K Q hR hZ hK => ?_)
    have t13 := hR.eq 8 (by kernel_rfl) rfl rfl
    go_simp
    exact hK _ hZ
   ·refine aL.mk rfl rfl (fun vs ac wx K Q hR hZ hK => ?_)
    have t11 := hR.eq 6 (by kernel_rfl) rfl rfl
    have t14 := hR.eq 9 (by kernel_rfl) rfl rfl
    go_simp
    go_at_call 66
    refine (aB ⟨x.toArray⟩ g 2 47 _ _ (by rw [← ah]; simp; omega) (hZ.at rfl) (by simp) (HL.out.lv.below (hZ.rg.below (by omega)))).mono ?_
    rintro e w' hS
    obtain ⟨rfl, hZ2⟩ := hZ.yes (cs := [some #[.int .i64 2, .int .u64 (t : Nat), .int .u64 0, .int .u64 0, .int .u64 0, .int .u64 0, .int .i64 0, .int .u64 0, .int .u64 0, .slice none 0 0, .slice none 0 0], some #[.int .i64 2, .int .u64 (t : Nat), .int .u64 (n : Nat), .int .u64 0, .int .u64 0, .int .u64 0, .int .i64 0, .int .u64 0, .int .u64 0, .slice none 0 0, .slice none 0 0], some #[.int .i64 2, .int .u64 (t : Nat), .int .u64 (n : Nat), .int .u64 (v.1 : Nat), .int .u64 (v.2 : Nat), .int .u64 0, .int .i64 0, .int .u64 0, .int .u64 0, .slice none 0 0, .slice none 0 0]]) rfl hS (c := #[.int .i64 2, .int .u64 (t : Nat), .int .u64 (n : Nat), .int .u64 0, .int .u64 0, .int .u64 0, .int .i64 0, .int .u64 0, .int .u64 0, .slice none 0 0, .slice none 0 0]) (by rw [HN.out]; simp)
    exact hK _ _ aR hZ2
   ·refine ae.mk rfl rfl (fun t vs ac wx K Q hR hZ hK => ?_)
    have t8 := hR.eq 3 (by kernel_rfl) rfl rfl
    have t15 := hR.weq 10 (by kernel_rfl) rfl rfl
    go_simp
    exact hK _ hZ
   ·refine ae.mk rfl rfl (fun t vs ac wx K Q hR hZ hK => ?_)
    have t16 := hR.eq 11 (by kernel_rfl) rfl rfl
    go_simp
    exact hK _ hZ
   ·refine ae.mk rfl rfl (fun t vs ac wx K Q hR hZ hK => ?_)
    have t0 : ac.tmps[0]? = some (.slice (some ⟨bl, off, none⟩) 2 cap) := (hR.old 0 (by kernel_rfl)).trans (by kernel_rfl)
    go_simp
    exact hK _ hZ
   ·refine ae.mk rfl rfl (fun t vs ac wx K Q hR hZ hK => ?_)
    have t18 := hR.eq 13 (by kernel_rfl) rfl rfl
    go_simp
    exact hK _ hZ
   ·refine ae.mk rfl rfl (fun t vs ac wx K Q hR hZ hK => ?_)
    have t19 := hR.eq 14 (by kernel_rfl) rfl rfl
    have y0 := hZ.rg.cell HV.out.2 hne
    go_simp
    exact hK _ hZ
   ·refine ae.mk rfl rfl (fun t vs ac wx K Q hR hZ hK => ?_)
    have t1 : ac.tmps[1]? = some (.pointer (some ⟨g, 0, none⟩)) := (hR.old 1 (by kernel_rfl)).trans (by kernel_rfl)
    go_simp
    exact hK _ hZ
   ·refine ae.mk rfl rfl (fun t vs ac wx K Q hR hZ hK => ?_)
    have t21 := hR.eq 16 (by kernel_rfl) rfl rfl
    go_simp
    exact hK _ hZ
   ·refine ae.mk rfl rfl (fun t vs ac wx K Q hR hZ hK => ?_)
    have t22 := hR.eq 17 (by kernel_rfl) rfl rfl
    go_simp
    exact hK _ hZ
   ·refine aL.mk rfl rfl (fun vs ac wx K Q hR hZ hK => ?_)
    have t20 := hR.eq 15 (by kernel_rfl) rfl rfl
    have t23 := hR.eq 18 (by kernel_rfl) rfl rfl
    go_simp
    go_at_call 120
    refine (bT ⟨y.toArray⟩ g 3 47 _ _ (by rw [← ah]; simp; omega) (hZ.at rfl) (by simp) (HL.out.below (hZ.rg.below (by omega)))).mono ?_
    rintro e w' hS
    obtain ⟨rfl, hZ2⟩ := hZ.yes (cs := [some #[.int .i64 2, .int .u64 (t : Nat), .int .u64 0, .int .u64 0, .int .u64 0, .int .u64 0, .int .i64 0, .int .u64 0, .int .u64 0, .slice none 0 0, .slice none 0 0], some #[.int .i64 2, .int .u64 (t : Nat), .int .u64 (n : Nat), .int .u64 0, .int .u64 0, .int .u64 0, .int .i64 0, .int .u64 0, .int .u64 0, .slice none 0 0, .slice none 0 0], some #[.int .i64 2, .int .u64 (t : Nat), .int .u64 (n : Nat), .int .u64 (v.1 : Nat), .int .u64 (v.2 : Nat), .int .u64 0, .int .i64 0, .int .u64 0, .int .u64 0, .slice none 0 0, .slice none 0 0]]) rfl hS (c := #[.int .i64 2, .int .u64 (t : Nat), .int .u64 (n : Nat), .int .u64 (v.1 : Nat), .int .u64 (v.2 : Nat), .int .u64 0, .int .i64 0, .int .u64 0, .int .u64 0, .slice none 0 0, .slice none 0 0]) (by rw [HV2.out]; simp)
    exact hK _ _ aR hZ2
   ·refine ae.mk rfl rfl (fun t vs ac wx K Q hR hZ hK => ?_)
    have t17 := hR.eq 12 (by kernel_rfl) rfl rfl
    have t24 := hR.weq 19 (by kernel_rfl) rfl rfl
    go_simp
    exact hK _ hZ
   ·refine ae.mk rfl rfl (fun t vs ac wx K Q hR hZ hK => ?_)
    have t25 := hR.eq 20 (by kernel_rfl) rfl rfl
    go_simp
    exact hK _ hZ
   intro vs wN hZ
   simp only [aM, List.foldl_cons, List.foldl_nil]
   go_simp
   go_wp2_with fail
   go_ret
   exact eH _ hZ.rg (hZ.at rfl) (by rw [HT.out, HN.out, HV2.out]; rfl) (eG wN _ 2 t n v.1 v.2 0 (by omega) ht (aQ.1 HN.out).2 ((gJ (w := v.1) (n := v.2)).1 HV2.out).2.1 ((gJ (w := v.1) (n := v.2)).1 HV2.out).2.2 (by omega))
 ·have HT := hid (oK (t := t) h2)
  have t1 : ((n : Int) == 2) = false := by simp; omega
  clear h2 hn hG hh
  go_enter Tryz.func119, Tryz.ntmps119
  go_wp2_with fail
  go_quiet (fail)
  go_wp2_with fail
  go_ret
  exact aW (Rg.of_below (below_drewN br _)) HH.out HT.out
theorem mO (g t n cap : Nat) (l : List (List UInt8)) (ad : Option Addr) (w : World) (hn : n = l.length) (hG : Gv w g l (.slice ad n cap)) (ht : t < 18446744073709551616) (hL : Lq g w) (hh : w.heap[g]? = some (.cells #[.int .i64 3, .int .u64 (t : Nat), .int .u64 0, .int .u64 0, .int .u64 0, .int .u64 0, .int .i64 0, .int .u64 0, .int .u64 0, .slice none 0 0, .slice none 0 0] 47 (0, 0))) :
  Calls Tryz.prog 125 #[.slice ad n cap, .pointer (some ⟨g, 0, none⟩)] w (jI g (bL 3 t l) w) := by
 have hlt : g < w.heap.size := (Array.getElem?_eq_some_iff.1 hh).1
 have HL := hid hL
 have HH := hid hh
 clear hL
 by_cases h2 : l.length = 2
 ·obtain ⟨x, y, rfl⟩ := wu h2
  subst hn
  obtain ⟨bl, off, rfl, hne, hc⟩ := dm.at hG.rep (by simp)
  have d0 := hc 0 (by simp)
  have d1 := hc 1 (by simp)
  simp only [Nat.add_zero, List.getElem_cons_zero, List.getElem_cons_succ] at d0 d1
  have lx := hG.len x (by simp)
  have ly := hG.len y (by simp)
  have HV := hid (And.intro d0 d1)
  have hT : bL 3 t [x, y] = (aT x).bind fun u => (aT y).map fun v => ⟨3, t, u, 0, 0, v, .zero, []⟩ := rfl
  have HT := hid hT
  rw [show ([x, y] : List (List UInt8)).length = 2 from rfl]
  have hZ0 : ∀ (cs : List (Option (Array Value))), cs[0]? = some (some #[.int .i64 3, .int .u64 (t : Nat), .int .u64 0, .int .u64 0, .int .u64 0, .int .u64 0, .int .i64 0, .int .u64 0, .int .u64 0, .slice none 0 0, .slice none 0 0]) → dL g 47 w cs 0 (fun _ => undef) w.drew := fun cs h => ⟨_, hh, Rg.of_below br.drew, fun c' h' => by rw [h] at h'; injection h' with h'; injection h'⟩
  have HZ := hid hZ0
  clear hT h2 hG hc hh hZ0 d0 d1
  have hn3 : (aT x = none) ∨ ((∃ n, aT x = some n) ∧ aT y = none) ∨ ∃ n v, aT x = some n ∧ aT y = some v := by
   cases aT x <;> cases aT y <;> simp
  rcases hn3 with hna | ⟨⟨n, hna⟩, hvb⟩ | ⟨n, v, hna, hvb⟩
  ·have HN := hid hna
   clear hna
   go_enter Tryz.func125, Tryz.ntmps125
   go_wp2_with fail
   refine aF (w0 := w) rfl [.eq (.slice (some ⟨bl, off, none⟩) 2 cap), .eq (.int .i64 2), .eq (.bool true), .eq (.bool true), .eq (.slice (some ⟨bl, off, none⟩) 2 cap), .eq (.pointer (some ⟨bl, off, none⟩)), .eq (.string ⟨x.toArray⟩), .eq (.pointer (some ⟨g, 0, none⟩)), .eq (.pointer (some ⟨g, 0, none⟩)), .eq (.pointer (some ⟨g, 2, none⟩)), .weq (.bool false), .eq (.bool false), .eq (.bool false), .skip, .skip, .skip, .skip, .skip, .skip, .skip, .eq ((Value.bool false)), .eq ((Value.bool false))] (dL g 47 w [some #[.int .i64 3, .int .u64 (t : Nat), .int .u64 0, .int .u64 0, .int .u64 0, .int .u64 0, .int .i64 0, .int .u64 0, .int .u64 0, .slice none 0 0, .slice none 0 0], none]) (by kernel_rfl) (⟨_, HZ.out _ rfl⟩) ⟨?_, ?_, ?_, ?_, ?_, ?_, ?_, ?_, ?_, ?_, ?_, ?_, ?_, ?_, ?_, trivial⟩ (fun vs => [(5, .slice (some ⟨bl, off, none⟩) 2 cap), (6, .int .i64 2), (7, .bool true), (8, .bool true), (9, .slice (some ⟨bl, off, none⟩) 2 cap), (10, .pointer (some ⟨bl, off, none⟩)), (11, .string ⟨x.toArray⟩), (12, .pointer (some ⟨g, 0, none⟩)), (13, .pointer (some ⟨g, 0, none⟩)), (14, .pointer (some ⟨g, 2, none⟩)), (15, .bool false), (16, .bool false), (17, .bool false), (18, undef), (19, undef), (20, undef), (21, undef), (22, undef), (23, undef), (24, undef), (25, (Value.bool false)), (4, (Value.bool false))]) (fun _ => rfl) 1 (by kernel_rfl) ?_
   ·refine ae.mk rfl rfl (fun t vs ac wx K Q hR hZ hK => ?_)
    have t0 : ac.tmps[0]? = some (.slice (some ⟨bl, off, none⟩) 2 cap) := (hR.old 0 (by kernel_rfl)).trans (by kernel_rfl)
    go_simp
    exact hK _ hZ
   ·refine ae.mk rfl rfl (fun t vs ac wx K Q hR hZ hK => ?_)
    have t5 := hR.eq 0 (by kernel_rfl) rfl rfl
    go_simp
    exact hK _ hZ
   ·refine ae.mk rfl rfl (fun t vs ac wx K Q hR hZ hK => ?_)
    have t6 := hR.eq 1 (by kernel_rfl) rfl rfl
    go_simp
    (try go_ints)
    exact hK _ hZ
   ·refine ae.mk rfl rfl (fun t vs ac wx K Q hR hZ hK => ?_)
    have t7 := hR.eq 2 (by kernel_rfl) rfl rfl
    go_simp
    exact hK _ hZ
   ·refine ae.mk rfl rfl (fun t vs ac wx K Q hR hZ hK => ?_)
    have t0 : ac.tmps[0]? = some (.slice (some ⟨bl, off, none⟩) 2 cap) := (hR.old 0 (by kernel_rfl)).trans (by kernel_rfl)
    go_simp
    exact hK _ hZ
   ·refine ae.mk rfl rfl (fun t vs ac wx K Q hR hZ hK => ?_)
    have t9 := hR.eq 4 (by kernel_rfl) rfl rfl
    go_simp
    exact hK _ hZ
   ·refine ae.mk rfl rfl (fun t vs ac wx K Q hR hZ hK => ?_)
    have t10 := hR.eq 5 (by kernel_rfl) rfl rfl
    have y0 := hZ.rg.cell HV.out.1 hne
    go_simp
    exact hK _ hZ
   ·refine ae.mk rfl rfl (fun t vs ac wx K Q hR hZ hK => ?_)
    have t1 : ac.tmps[1]? = some (.pointer (some ⟨g, 0, none⟩)) := (hR.old 1 (by kernel_rfl)).trans (by kernel_rfl)
    go_simp
    exact hK _ hZ
   ·refine ae.mk rfl rfl (fun t vs ac wx K Q hR hZ hK => ?_)
    have t12 := hR.eq 7 (by kernel_rfl) rfl rfl
    go_simp
    exact hK _ hZ
   ·refine ae.mk rfl rfl (fun t vs ac wx K Q hR hZ hK => ?_)
    have t13 := hR.eq 8 (by kernel_rfl) rfl rfl
    go_simp
    exact hK _ hZ
   ·refine aL.mk rfl rfl (fun vs ac wx K Q hR hZ hK => ?_)
    have t11 := hR.eq 6 (by kernel_rfl) rfl rfl
    have t14 := hR.eq 9 (by kernel_rfl) rfl rfl
    go_simp
    go_at_call 66
    refine (aB ⟨x.toArray⟩ g 2 47 _ _ (by rw [← ah]; simp; omega) (hZ.at rfl) (by simp) (HL.out.lv.below (hZ.rg.below (by omega)))).mono ?_
    rintro e w' hS
    obtain ⟨rfl, hZ2⟩ := hZ.no (cs := [some #[.int .i64 3, .int .u64 (t : Nat), .int .u64 0, .int .u64 0, .int .u64 0, .int .u64 0, .int .i64 0, .int .u64 0, .int .u64 0, .slice none 0 0, .slice none 0 0], none]) rfl hS (by rw [HN.out]; rfl)
    exact hK _ _ aR hZ2
   ·refine ae.mk rfl rfl (fun t vs ac wx K Q hR hZ hK => ?_)
    have t8 := hR.eq 3 (by kernel_rfl) rfl rfl
    have t15 := hR.weq 10 (by kernel_rfl) rfl rfl
    go_simp
    exact hK _ hZ
   ·refine ae.mk rfl rfl (fun t vs ac wx K Q hR hZ hK => ?_)
    have t16 := hR.eq 11 (by kernel_rfl) rfl rfl
    go_simp
    exact hK _ hZ
   ·refine ae.mk rfl rfl (fun t vs ac wx K Q hR hZ hK => ?_)
    have t17 := hR.eq 12 (by kernel_rfl) rfl rfl
    have t24 := hR.skip 19 (by kernel_rfl) rfl rfl
    go_simp
    exact hK _ hZ
   ·refine ae.mk rfl rfl (fun t vs ac wx K Q hR hZ hK => ?_)
    have t25 := hR.eq 20 (by kernel_rfl) rfl rfl
    go_simp
    exact hK _ hZ
   intro vs wN hZ
   simp only [aM, List.foldl_cons, List.foldl_nil]
   go_simp
   go_wp2_with fail
   go_ret
   exact aW hZ.rg hZ.any (by rw [HT.out, HN.out]; rfl)
  ·have HN := hid hna
   have HV2 := hid hvb
   clear hna hvb
   go_enter Tryz.func125, Tryz.ntmps125
   go_wp2_with fail
   refine aF (w0 := w) rfl [.eq (.slice (some ⟨bl, off, none⟩) 2 cap), .eq (.int .i64 2), .eq (.bool true), .eq (.bool true), .eq (.slice (some ⟨bl, off, none⟩) 2 cap), .eq (.pointer (some ⟨bl, off, none⟩)), .eq (.string ⟨x.toArray⟩), .eq (.pointer (some ⟨g, 0, none⟩)), .eq (.pointer (some ⟨g, 0, none⟩)), .eq (.pointer (some ⟨g, 2, none⟩)), .weq (.bool true), .eq (.bool true), .eq (.bool true), .eq (.slice (some ⟨bl, off, none⟩) 2 cap), .eq (.pointer (some ⟨bl, off + 1, none⟩)), .eq (.string ⟨y.toArray⟩), .eq (.pointer (some ⟨g, 0, none⟩)), .eq (.pointer (some ⟨g, 0, none⟩)), .eq (.pointer (some ⟨g, 5, none⟩)), .weq (.bool false), .eq (.bool false), .eq (.bool false)] (dL g 47 w [some #[.int .i64 3, .int .u64 (t : Nat), .int .u64 0, .int .u64 0, .int .u64 0, .int .u64 0, .int .i64 0, .int .u64 0, .int .u64 0, .slice none 0 0, .slice none 0 0], some #[.int .i64 3, .int .u64 (t : Nat), .int .u64 (n : Nat), .int .u64 0, .int .u64 0, .int .u64 0, .int .i64 0, .int .u64 0, .int .u64 0, .slice none 0 0, .slice none 0 0], none]) (by kernel_rfl) (⟨_, HZ.out _ rfl⟩) ⟨?_, ?_, ?_, ?_, ?_, ?_, ?_, ?_, ?_, ?_, ?_, ?_, ?_, ?_, ?_, ?_, ?_, ?_, ?_, ?_, ?_, ?_, trivial⟩ (fun vs => [(5, .slice (some ⟨bl, off, none⟩) 2 cap), (6, .int .i64 2), (7, .bool true), (8, .bool true), (9, .slice (some ⟨bl, off, none⟩) 2 cap), (10, .pointer (some ⟨bl, off, none⟩)), (11, .string ⟨x.toArray⟩), (12, .pointer (some ⟨g, 0, none⟩)), (13, .pointer (some ⟨g, 0, none⟩)), (14, .pointer (some ⟨g, 2, none⟩)), (15, .bool true), (16, .bool true), (17, .bool true), (18, .slice (some ⟨bl, off, none⟩) 2 cap), (19, .pointer (some ⟨bl, off + 1, none⟩)), (20, .string ⟨y.toArray⟩), (21, .pointer (some ⟨g, 0, none⟩)), (22, .pointer (some ⟨g, 0, none⟩)), (23, .pointer (some ⟨g, 5, none⟩)), (24, .bool false), (25, .bool false), (4, .bool false)]) (fun _ => rfl) 2 (by kernel_rfl) ?_
   ·refine ae.mk rfl rfl (fun t vs ac wx K Q hR hZ hK => ?_)
    have t0 : ac.tmps[0]? = some (.slice (some ⟨bl, off, none⟩) 2 cap) := (hR.old 0 (by kernel_rfl)).trans (by kernel_rfl)
    go_simp
    exact hK _ hZ
   ·refine ae.mk rfl rfl (fun t vs ac wx K Q hR hZ hK => ?_)
    have t5 := hR.eq 0 (by kernel_rfl) rfl rfl
    go_simp
    exact hK _ hZ
   ·refine ae.mk rfl rfl (fun t vs ac wx K Q hR hZ hK => ?_)
    have t6 := hR.eq 1 (by kernel_rfl) rfl rfl
    go_simp
    (try go_ints)
    exact hK _ hZ
   ·refine ae.mk rfl rfl (fun t vs ac wx K Q hR hZ hK => ?_)
    have t7 := hR.eq 2 (by kernel_rfl) rfl rfl
    go_simp
    exact hK _ hZ
   ·refine ae.mk rfl rfl (fun t vs ac wx K Q hR hZ hK => ?_)
    have t0 : ac.tmps[0]? = some (.slice (some ⟨bl, off, none⟩) 2 cap) := (hR.old 0 (by kernel_rfl)).trans (by kernel_rfl)
    go_simp
    exact hK _ hZ
   ·refine ae.mk rfl rfl (fun t vs ac wx K Q hR hZ hK => ?_)
    have t9 := hR.eq 4 (by kernel_rfl) rfl rfl
    go_simp
    exact hK _ hZ
   ·refine ae.mk rfl rfl (fun t vs ac wx K Q hR hZ hK => ?_)
    have t10 := hR.eq 5 (by kernel_rfl) rfl rfl
    have y0 := hZ.rg.cell HV.out.1 hne
    go_simp
    exact hK _ hZ
   ·refine ae.mk rfl rfl (fun t vs ac wx K Q hR hZ hK => ?_)
    have t1 : ac.tmps[1]? = some (.pointer (some ⟨g, 0, none⟩)) := (hR.old 1 (by kernel_rfl)).trans (by kernel_rfl)
    go_simp
    exact hK _ hZ
   ·refine ae.mk rfl rfl (fun t vs ac wx K Q hR hZ hK => ?_)
    have t12 := hR.eq 7 (by kernel_rfl) rfl rfl
    go_simp
    exact hK _ hZ
   ·refine ae.mk rfl rfl (fun t vs ac wx K Q hR hZ hK => ?_)
    have t13 := hR.eq 8 (by kernel_rfl) rfl rfl
    go_simp
    exact hK _ hZ
   ·refine aL.mk rfl rfl (fun vs ac wx K Q hR hZ hK => ?_)
    have t11 := hR.eq 6 (by kernel_rfl) rfl rfl
    have t14 := hR.eq 9 (by kernel_rfl) rfl rfl
    go_simp
    go_at_call 66
    refine (aB ⟨x.toArray⟩ g 2 47 _ _ (by rw [← ah]; simp; omega) (hZ.at rfl) (by simp) (HL.out.lv.below (hZ.rg.below (by omega)))).mono ?_
    rintro e w' hS
    obtain ⟨rfl, hZ2⟩ := hZ.yes (cs := [some #[.int .i64 3, .int .u64 (t : Nat), .int .u64 0, .int .u64 0, .int .u64 0, .int .u64 0, .int .i64 0, .int .u64 0, .int .u64 0, .slice none 0 0, .slice none 0 0], some #[.int .i64 3, .int .u64 (t : Nat), .int .u64 (n : Nat), .int .u64 0, .int .u64 0, .int .u64 0, .int .i64 0, .int .u64 0, .int .u64 0, .slice none 0 0, .slice none 0 0], none]) rfl hS (c := #[.int .i64 3, .int .u64 (t : Nat), .int .u64 (n : Nat), .int .u64 0, .int .u64 0, .int .u64 0, .int .i64 0, .int .u64 0, .int .u64 0, .slice none 0 0, .slice none 0 0]) (by rw [HN.out]; simp)
    exact hK _ _ aR hZ2
   ·refine ae.mk rfl rfl (fun t vs ac wx K Q hR hZ hK => ?_)
    have t8 := hR.eq 3 (by kernel_rfl) rfl rfl
    have t15 := hR.weq 10 (by kernel_rfl) rfl rfl
    go_simp
    exact hK _ hZ
   ·refine ae.mk rfl rfl (fun t vs ac wx K Q hR hZ hK => ?_)
    have t16 := hR.eq 11 (by kernel_rfl) rfl rfl
    go_simp
    exact hK _ hZ
   ·refine ae.mk rfl rfl (fun t vs ac wx K Q hR hZ hK => ?_)
    have t0 : ac.tmps[0]? = some (.slice (some ⟨bl, off, none⟩) 2 cap) := (hR.old 0 (by kernel_rfl)).trans (by kernel_rfl)
    go_simp
    exact hK _ hZ
   ·refine ae.mk rfl rfl (fun t vs ac wx K Q hR hZ hK => ?_)
    have t18 := hR.eq 13 (by kernel_rfl) rfl rfl
    go_simp
    exact hK _ hZ
   ·refine ae.mk rfl rfl (fun t vs ac wx K Q hR hZ hK => ?_)
    have t19 := hR.eq 14 (by kernel_rfl) rfl rfl
    have y0 := hZ.rg.cell HV.out.2 hne
    go_simp
    exact hK _ hZ
   ·refine ae.mk rfl rfl (fun t vs ac wx K Q hR hZ hK => ?_)
    have t1 : ac.tmps[1]? = some (.pointer (some ⟨g, 0, none⟩)) := (hR.old 1 (by kernel_rfl)).trans (by kernel_rfl)
    go_simp
    exact hK _ hZ
   ·refine ae.mk rfl rfl (fun t vs ac wx K Q hR hZ hK => ?_)
    have t21 := hR.eq 16 (by kernel_rfl) rfl rfl
    go_simp
    exact hK _ hZ
   ·refine ae.mk rfl rfl (fun t vs ac wx K Q hR hZ hK => ?_)
    have t22 := hR.eq 17 (by kernel_rfl) rfl rfl
    go_simp
    exact hK _ hZ
   ·refine aL.mk rfl rfl (fun vs ac wx K Q hR hZ hK => ?_)
    have t20 := hR.eq 15 (by kernel_rfl) rfl rfl
    have t23 := hR.eq 18 (by kernel_rfl) rfl rfl
    go_simp
    go_at_call 66
    refine (aB ⟨y.toArray⟩ g 5 47 _ _ (by rw [← ah]; simp; omega) (hZ.at rfl) (by simp) (HL.out.lv.below (hZ.rg.below (by omega)))).mono ?_
    rintro e w' hS
    obtain ⟨rfl, hZ2⟩ := hZ.no (cs := [some #[.int .i64 3, .int .u64 (t : Nat), .int .u64 0, .int .u64 0, .int .u64 0, .int .u64 0, .int .i64 0, .int .u64 0, .int .u64 0, .slice none 0 0, .slice none 0 0], some #[.int .i64 3, .int .u64 (t : Nat), .int .u64 (n : Nat), .int .u64 0, .int .u64 0, .int .u64 0, .int .i64 0, .int .u64 0, .int .u64 0, .slice none 0 0, .slice none 0 0], none]) rfl hS (by rw [HV2.out]; rfl)
    exact hK _ _ aR hZ2
   ·refine ae.mk rfl rfl (fun t vs ac wx K Q hR hZ hK => ?_)
    have t17 := hR.eq 12 (by kernel_rfl) rfl rfl
    have t24 := hR.weq 19 (by kernel_rfl) rfl rfl
    go_simp
    exact hK _ hZ
   ·refine ae.mk rfl rfl (fun t vs ac wx K Q hR hZ hK => ?_)
    have t25 := hR.eq 20 (by kernel_rfl) rfl rfl
    go_simp
    exact hK _ hZ
   intro vs wN hZ
   simp only [aM, List.foldl_cons, List.foldl_nil]
   go_simp
   go_wp2_with fail
   go_ret
   exact aW hZ.rg hZ.any (by rw [HT.out, HN.out, HV2.out]; rfl)
  ·have HN := hid hna
   have HV2 := hid hvb
   clear hna hvb
   go_enter Tryz.func125, Tryz.ntmps125
   go_wp2_with fail
   refine aF (w0 := w) rfl [.eq (.slice (some ⟨bl, off, none⟩) 2 cap), .eq (.int .i64 2), .eq (.bool true), .eq (.bool true), .eq (.slice (some ⟨bl, off, none⟩) 2 cap), .eq (.pointer (some ⟨bl, off, none⟩)), .eq (.string ⟨x.toArray⟩), .eq (.pointer (some ⟨g, 0, none⟩)), .eq (.pointer (some ⟨g, 0, none⟩)), .eq (.pointer (some ⟨g, 2, none⟩)), .weq (.bool true), .eq (.bool true), .eq (.bool true), .eq (.slice (some ⟨bl, off, none⟩) 2 cap), .eq (.pointer (some ⟨bl, off + 1, none⟩)), .eq (.string ⟨y.toArray⟩), .eq (.pointer (some ⟨g, 0, none⟩)), .eq (.pointer (some ⟨g, 0, none⟩)), .eq (.pointer (some ⟨g, 5, none⟩)), .weq (.bool true), .eq (.bool true), .eq (.bool true)] (dL g 47 w [some #[.int .i64 3, .int .u64 (t : Nat), .int .u64 0, .int .u64 0, .int .u64 0, .int .u64 0, .int .i64 0, .int .u64 0, .int .u64 0, .slice none 0 0, .slice none 0 0], some #[.int .i64 3, .int .u64 (t : Nat), .int .u64 (n : Nat), .int .u64 0, .int .u64 0, .int .u64 0, .int .i64 0, .int .u64 0, .int .u64 0, .slice none 0 0, .slice none 0 0], some #[.int .i64 3, .int .u64 (t : Nat), .int .u64 (n : Nat), .int .u64 0, .int .u64 0, .int .u64 (v : Nat), .int .i64 0, .int .u64 0, .int .u64 0, .slice none 0 0, .slice none 0 0]]) (by kernel_rfl) (⟨_, HZ.out _ rfl⟩) ⟨?_, ?_, ?_, ?_, ?_, ?_, ?_, ?_, ?_, ?_, ?_, ?_, ?_, ?_, ?_, ?_, ?_, ?_, ?_, ?_, ?_, ?_, trivial⟩ (fun vs => [(5, .slice (some ⟨bl, off, none⟩) 2 cap), (6, .int .i64 2), (7, .bool true), (8, .bool true), (9, .slice (some ⟨bl, off, none⟩) 2 cap), (10, .pointer (some ⟨bl, off, none⟩)), (11, .string ⟨x.toArray⟩), (12, .pointer (some ⟨g, 0, none⟩)), (13, .pointer (some ⟨g, 0, none⟩)), (14, .pointer (some ⟨g, 2, none⟩)), (15, .bool true), (16, .bool true), (17, .bool true), (18, .slice (some ⟨bl, off, none⟩) 2 cap), (19, .pointer (some ⟨bl, off + 1, none⟩)), (20, .string ⟨y.toArray⟩), (21, .pointer (some ⟨g, 0, none⟩)), (22, .pointer (some ⟨g, 0, none⟩)), (23, .pointer (some ⟨g, 5, none⟩)), (24, .bool true), (25, .bool true), (4, .bool true)]) (fun _ => rfl) 2 (by kernel_rfl) ?_
   ·refine ae.mk rfl rfl (fun t vs ac wx K Q hR hZ hK => ?_)
    have t0 : ac.tmps[0]? = some (.slice (some ⟨bl, off, none⟩) 2 cap) := (hR.old 0 (by kernel_rfl)).trans (by kernel_rfl)
    go_simp
    exact hK _ hZ
   ·refine ae.mk rfl rfl (fun t vs ac wx K Q hR hZ hK => ?_)
    have t5 := hR.eq 0 (by kernel_rfl) rfl rfl
    go_simp
    exact hK _ hZ
   ·refine ae.mk rfl rfl (fun t vs ac wx K Q hR hZ hK => ?_)
    have t6 := hR.eq 1 (by kernel_rfl) rfl rfl
    go_simp
    (try go_ints)
    exact hK _ hZ
   ·refine ae.mk rfl rfl (fun t vs ac wx K Q hR hZ hK => ?_)
    have t7 := hR.eq 2 (by kernel_rfl) rfl rfl
    go_simp
    exact hK _ hZ
   ·refine ae.mk rfl rfl (fun t vs ac wx K Q hR hZ hK => ?_)
    have t0 : ac.tmps[0]? = some (.slice (some ⟨bl, off, none⟩) 2 cap) := (hR.old 0 (by kernel_rfl)).trans (by kernel_rfl)
    go_simp
    exact hK _ hZ
   ·refine ae.mk rfl rfl (fun t vs ac wx K Q hR hZ hK => ?_)
    have t9 := hR.eq 4 (by kernel_rfl) rfl rfl
    go_simp
    exact hK _ hZ
   ·refine ae.mk rfl rfl (fun t vs ac wx K Q hR hZ hK => ?_)
    have t10 := hR.eq 5 (by kernel_rfl) rfl rfl
    have y0 := hZ.rg.cell HV.out.1 hne
    go_simp
    exact hK _ hZ
   ·refine ae.mk rfl rfl (fun t vs ac wx K Q hR hZ hK => ?_)
    have t1 : ac.tmps[1]? = some (.pointer (some ⟨g, 0, none⟩)) := (hR.old 1 (by kernel_rfl)).trans (by kernel_rfl)
    go_simp
    exact hK _ hZ
   ·refine ae.mk rfl rfl (fun t vs ac wx K Q hR hZ hK => ?_)
    have t12 := hR.eq 7 (by kernel_rfl) rfl rfl
    go_simp
    exact hK _ hZ
   ·refine ae.mk rfl rfl (fun t vs ac wx K Q hR hZ hK => ?_)
    have t13 := hR.eq 8 (by kernel_rfl) rfl rfl
    go_simp
    exact hK _ hZ
   ·refine aL.mk rfl rfl (fun vs ac wx K Q hR hZ hK => ?_)
    have t11 := hR.eq 6 (by kernel_rfl) rfl rfl
    have t14 := hR.eq 9 (by kernel_rfl) rfl rfl
    go_simp
    go_at_call 66
    refine (aB ⟨x.toArray⟩ g 2 47 _ _ (by rw [← ah]; simp; omega) (hZ.at rfl) (by simp) (HL.out.lv.below (hZ.rg.below (by omega)))).mono ?_
    rintro e w' hS
    obtain ⟨rfl, hZ2⟩ := hZ.yes (cs := [some #[.int .i64 3, .int .u64 (t : Nat), .int .u64 0, .int .u64 0, .int .u64 0, .int .u64 0, .int .i64 0, .int .u64 0, .int .u64 0, .slice none 0 0, .slice none 0 0], some #[.int .i64 3, .int .u64 (t : Nat), .int .u64 (n : Nat), .int .u64 0, .int .u64 0, .int .u64 0, .int .i64 0, .int .u64 0, .int .u64 0, .slice none 0 0, .slice none 0 0], some #[.int .i64 3, .int .u64 (t : Nat), .int .u64 (n : Nat), .int .u64 0, .int .u64 0, .int .u64 (v : Nat), .int .i64 0, .int .u64 0, .int .u64 0, .slice none 0 0, .slice none 0 0]]) rfl hS (c := #[.int .i64 3, .int .u64 (t : Nat), .int .u64 (n : Nat), .int .u64 0, .int .u64 0, .int .u64 0, .int .i64 0, .int .u64 0, .int .u64 0, .slice none 0 0, .slice none 0 0]) (by rw [HN.out]; simp)
    exact hK _ _ aR hZ2
   ·refine ae.mk rfl rfl (fun t vs ac wx K Q hR hZ hK => ?_)
    have t8 := hR.eq 3 (by kernel_rfl) rfl rfl
    have t15 := hR.weq 10 (by kernel_rfl) rfl rfl
    go_simp
    exact hK _ hZ
   ·refine ae.mk rfl rfl (fun t vs ac wx K Q hR hZ hK => ?_)
    have t16 := hR.eq 11 (by kernel_rfl) rfl rfl
    go_simp
    exact hK _ hZ
   ·refine ae.mk rfl rfl (fun t vs ac wx K Q hR hZ hK => ?_)
    have t0 : ac.tmps[0]? = some (.slice (some ⟨bl, off, none⟩) 2 cap) := (hR.old 0 (by kernel_rfl)).trans (by kernel_rfl)
    go_simp
    exact hK _ hZ
   ·refine ae.mk rfl rfl (fun t vs ac wx K Q hR hZ hK => ?_)
    have t18 := hR.eq 13 (by kernel_rfl) rfl rfl
    go_simp
    exact hK _ hZ
   ·refine ae.mk rfl rfl (fun t vs ac wx K Q hR hZ hK => ?_)
    have t19 := hR.eq 14 (by kernel_rfl) rfl rfl
    have y0 := hZ.rg.cell HV.out.2 hne
    go_simp
    exact hK _ hZ
   ·refine ae.mk rfl rfl (fun t vs ac wx K Q hR hZ hK => ?_)
    have t1 : ac.tmps[1]? = some (.pointer (some ⟨g, 0, none⟩)) := (hR.old 1 (by kernel_rfl)).trans (by kernel_rfl)
    go_simp
    exact hK _ hZ
   ·refine ae.mk rfl rfl (fun t vs ac wx K Q hR hZ hK => ?_)
    have t21 := hR.eq 16 (by kernel_rfl) rfl rfl
    go_simp
    exact hK _ hZ
   ·refine ae.mk rfl rfl (fun t vs ac wx K Q hR hZ hK => ?_)
    have t22 := hR.eq 17 (by kernel_rfl) rfl rfl
    go_simp
    exact hK _ hZ
   ·refine aL.mk rfl rfl (fun vs ac wx K Q hR hZ hK => ?_)
    have t20 := hR.eq 15 (by kernel_rfl) rfl rfl
    have t23 := hR.eq 18 (by kernel_rfl) rfl rfl
    go_simp
    go_at_call 66
    refine (aB ⟨y.toArray⟩ g 5 47 _ _ (by rw [← ah]; simp; omega) (hZ.at rfl) (by simp) (HL.out.lv.below (hZ.rg.below (by omega)))).mono ?_
    rintro e w' hS
    obtain ⟨rfl, hZ2⟩ := hZ.yes (cs := [some #[.int .i64 3, .int .u64 (t : Nat), .int .u64 0, .int .u64 0, .int .u64 0, .int .u64 0, .int .i64 0, .int .u64 0, .int .u64 0, .slice none 0 0, .slice none 0 0], some #[.int .i64 3, .int .u64 (t : Nat), .int .u64 (n : Nat), .int .u64 0, .int .u64 0, .int .u64 0, .int .i64 0, .int .u64 0, .int .u64 0, .slice none 0 0, .slice none 0 0], some #[.int .i64 3, .int .u64 (t : Nat), .int .u64 (n : Nat), .int .u64 0, .int .u64 0, .int .u64 (v : Nat), .int .i64 0, .int .u64 0, .int .u64 0, .slice none 0 0, .slice none 0 0]]) rfl hS (c := #[.int .i64 3, .int .u64 (t : Nat), .int .u64 (n : Nat), .int .u64 0, .int .u64 0, .int .u64 (v : Nat), .int .i64 0, .int .u64 0, .int .u64 0, .slice none 0 0, .slice none 0 0]) (by rw [HV2.out]; simp)
    exact hK _ _ aR hZ2
   ·refine ae.mk rfl rfl (fun t vs ac wx K Q hR hZ hK => ?_)
    have t17 := hR.eq 12 (by kernel_rfl) rfl rfl
    have t24 := hR.weq 19 (by kernel_rfl) rfl rfl
    go_simp
    exact hK _ hZ
   ·refine ae.mk rfl rfl (fun t vs ac wx K Q hR hZ hK => ?_)
    have t25 := hR.eq 20 (by kernel_rfl) rfl rfl
    go_simp
    exact hK _ hZ
   intro vs wN hZ
   simp only [aM, List.foldl_cons, List.foldl_nil]
   go_simp
   go_wp2_with fail
   go_ret
   exact eH _ hZ.rg (hZ.at rfl) (by rw [HT.out, HN.out, HV2.out]; rfl) (eG wN _ 3 t n 0 0 v (by omega) ht (aQ.1 HN.out).2 (by omega) (by omega) (aQ.1 HV2.out).2)
 ·have HT := hid (oL (t := t) h2)
  have t1 : ((n : Int) == 2) = false := by simp; omega
  clear h2 hn hG hh
  go_enter Tryz.func125, Tryz.ntmps125
  go_wp2_with fail
  go_quiet (fail)
  go_wp2_with fail
  go_ret
  exact aW (Rg.of_below (below_drewN br _)) HH.out HT.out
theorem lK (g t n cap : Nat) (l : List (List UInt8)) (ad : Option Addr) (w : World) (hn : n = l.length) (hG : Gv w g l (.slice ad n cap)) (ht : t < 18446744073709551616) (hL : Lq g w) (hh : w.heap[g]? = some (.cells #[.int .i64 4, .int .u64 (t : Nat), .int .u64 0, .int .u64 0, .int .u64 0, .int .u64 0, .int .i64 0, .int .u64 0, .int .u64 0, .slice none 0 0, .slice none 0 0] 47 (0, 0))) :
  Calls Tryz.prog 130 #[.slice ad n cap, .pointer (some ⟨g, 0, none⟩)] w (jI g (bL 4 t l) w) := by
 have hlt : g < w.heap.size := (Array.getElem?_eq_some_iff.1 hh).1
 have HL := hid hL
 have HH := hid hh
 clear hL
 by_cases h2 : l.length = 1
 ·obtain ⟨x, rfl⟩ := xU h2
  subst hn
  obtain ⟨bl, off, rfl, hne, hc⟩ := dm.at hG.rep (by simp)
  have d0 := hc 0 (by simp)
  simp only [Nat.add_zero, List.getElem_cons_zero] at d0
  have lx := hG.len x (by simp)
  have HV := hid (And.intro d0 trivial)
  have hT : bL 4 t [x] = (aT x).map fun u => ⟨4, t, u, 0, 0, 0, .zero, []⟩ := rfl
  have HT := hid hT
  rw [show ([x] : List (List UInt8)).length = 1 from rfl]
  have hZ0 : ∀ (cs : List (Option (Array Value))), cs[0]? = some (some #[.int .i64 4, .int .u64 (t : Nat), .int .u64 0, .int .u64 0, .int .u64 0, .int .u64 0, .int .i64 0, .int .u64 0, .int .u64 0, .slice none 0 0, .slice none 0 0]) → dL g 47 w cs 0 (fun _ => undef) w.drew := fun cs h => ⟨_, hh, Rg.of_below br.drew, fun c' h' => by rw [h] at h'; injection h' with h'; injection h'⟩
  have HZ := hid hZ0
  clear hT h2 hG hc hh hZ0 d0
  have hn3 : (aT x = none) ∨ ∃ n, aT x = some n := by
   cases aT x <;> simp
  rcases hn3 with hna | ⟨n, hna⟩
  ·have HN := hid hna
   clear hna
   go_enter Tryz.func130, Tryz.ntmps130
   go_wp2_with fail
   refine aF (w0 := w) rfl [.eq (.slice (some ⟨bl, off, none⟩) 1 cap), .eq (.int .i64 1), .eq (.bool true), .eq (.bool true), .eq (.slice (some ⟨bl, off, none⟩) 1 cap), .eq (.pointer (some ⟨bl, off, none⟩)), .eq (.string ⟨x.toArray⟩), .eq (.pointer (some ⟨g, 0, none⟩)), .eq (.pointer (some ⟨g, 0, none⟩)), .eq (.pointer (some ⟨g, 2, none⟩)), .weq (.bool false), .eq (.bool false), .eq (.bool false)] (dL g 47 w [some #[.int .i64 4, .int .u64 (t : Nat), .int .u64 0, .int .u64 0, .int .u64 0, .int .u64 0, .int .i64 0, .int .u64 0, .int .u64 0, .slice none 0 0, .slice none 0 0], none]) (by kernel_rfl) (⟨_, HZ.out _ rfl⟩) ⟨?_, ?_, ?_, ?_, ?_, ?_, ?_, ?_, ?_, ?_, ?_, ?_, ?_, trivial⟩ (fun vs => [(5, .slice (some ⟨bl, off, none⟩) 1 cap), (6, .int .i64 1), (7, .bool true), (8, .bool true), (9, .slice (some ⟨bl, off, none⟩) 1 cap), (10, .pointer (some ⟨bl, off, none⟩)), (11, .string ⟨x.toArray⟩), (12, .pointer (some ⟨g, 0, none⟩)), (13, .pointer (some ⟨g, 0, none⟩)), (14, .pointer (some ⟨g, 2, none⟩)), (15, .bool false), (16, .bool false), (4, .bool false)]) (fun _ => rfl) 1 (by kernel_rfl) ?_
   ·refine ae.mk rfl rfl (fun t vs ac wx K Q hR hZ hK => ?_)
    have t0 : ac.tmps[0]? = some (.slice (some ⟨bl, off, none⟩) 1 cap) := (hR.old 0 (by kernel_rfl)).trans (by kernel_rfl)
    go_simp
    exact hK _ hZ
   ·refine ae.mk rfl rfl (fun t vs ac wx K Q hR hZ hK => ?_)
    have t5 := hR.eq 0 (by kernel_rfl) rfl rfl
    go_simp
    exact hK _ hZ
   ·refine ae.mk rfl rfl (fun t vs ac wx K Q hR hZ hK => ?_)
    have t6 := hR.eq 1 (by kernel_rfl) rfl rfl
    go_simp
    (try go_ints)
    exact hK _ hZ
   ·refine ae.mk rfl rfl (fun t vs ac wx K Q hR hZ hK => ?_)
    have t7 := hR.eq 2 (by kernel_rfl) rfl rfl
    go_simp
    exact hK _ hZ
   ·refine ae.mk rfl rfl (fun t vs ac wx K Q hR hZ hK => ?_)
    have t0 : ac.tmps[0]? = some (.slice (some ⟨bl, off, none⟩) 1 cap) := (hR.old 0 (by kernel_rfl)).trans (by kernel_rfl)
    go_simp
    exact hK _ hZ
   ·refine ae.mk rfl rfl (fun t vs ac wx K Q hR hZ hK => ?_)
    have t9 := hR.eq 4 (by kernel_rfl) rfl rfl
    go_simp
    exact hK _ hZ
   ·refine ae.mk rfl rfl (fun t vs ac wx K Q hR hZ hK => ?_)
    have t10 := hR.eq 5 (by kernel_rfl) rfl rfl
    have y0 := hZ.rg.cell HV.out.1 hne
    go_simp
    exact hK _ hZ
   ·refine ae.mk rfl rfl (fun t vs ac wx K Q hR hZ hK => ?_)
    have t1 : ac.tmps[1]? = some (.pointer (some ⟨g, 0, none⟩)) := (hR.old 1 (by kernel_rfl)).trans (by kernel_rfl)
    go_simp
    exact hK _ hZ
   ·refine ae.mk rfl rfl (fun t vs ac wx K Q hR hZ hK => ?_)
    have t12 := hR.eq 7 (by kernel_rfl) rfl rfl
    go_simp
    exact hK _ hZ
   ·refine ae.mk rfl rfl (fun t vs ac wx K Q hR hZ hK => ?_)
    have t13 := hR.eq 8 (by kernel_rfl) rfl rfl
    go_simp
    exact hK _ hZ
   ·refine aL.mk rfl rfl (fun vs ac wx K Q hR hZ hK => ?_)
    have t11 := hR.eq 6 (by kernel_rfl) rfl rfl
    have t14 := hR.eq 9 (by kernel_rfl) rfl rfl
    go_simp
    go_at_call 66
    refine (aB ⟨x.toArray⟩ g 2 47 _ _ (by rw [← ah]; simp; omega) (hZ.at rfl) (by simp) (HL.out.lv.below (hZ.rg.below (by omega)))).mono ?_
    rintro e w' hS
    obtain ⟨rfl, hZ2⟩ := hZ.no (cs := [some #[.int .i64 4, .int .u64 (t : Nat), .int .u64 0, .int .u64 0, .int .u64 0, .int .u64 0, .int .i64 0, .int .u64 0, .int .u64 0, .slice none 0 0, .slice none 0 0], none]) rfl hS (by rw [HN.out]; rfl)
    exact hK _ _ aR hZ2
   ·refine ae.mk rfl rfl (fun t vs ac wx K Q hR hZ hK => ?_)
    have t8 := hR.eq 3 (by kernel_rfl) rfl rfl
    have t15 := hR.weq 10 (by kernel_rfl) rfl rfl
    go_simp
    exact hK _ hZ
   ·refine ae.mk rfl rfl (fun t vs ac wx K Q hR hZ hK => ?_)
    have t16 := hR.eq 11 (by kernel_rfl) rfl rfl
    go_simp
    exact hK _ hZ
   intro vs wN hZ
   simp only [aM, List.foldl_cons, List.foldl_nil]
   go_simp
   go_wp2_with fail
   go_ret
   exact aW hZ.rg hZ.any (by rw [HT.out, HN.out]; rfl)
  ·have HN := hid hna
   clear hna
   go_enter Tryz.func130, Tryz.ntmps130
   go_wp2_with fail
   refine aF (w0 := w) rfl [.eq (.slice (some ⟨bl, off, none⟩) 1 cap), .eq (.int .i64 1), .eq (.bool true), .eq (.bool true), .eq (.slice (some ⟨bl, off, none⟩) 1 cap), .eq (.pointer (some ⟨bl, off, none⟩)), .eq (.string ⟨x.toArray⟩), .eq (.pointer (some ⟨g, 0, none⟩)), .eq (.pointer (some ⟨g, 0, none⟩)), .eq (.pointer (some ⟨g, 2, none⟩)), .weq (.bool true), .eq (.bool true), .eq (.bool true)] (dL g 47 w [some #[.int .i64 4, .int .u64 (t : Nat), .int .u64 0, .int .u64 0, .int .u64 0, .int .u64 0, .int .i64 0, .int .u64 0, .int .u64 0, .slice none 0 0, .slice none 0 0], some #[.int .i64 4, .int .u64 (t : Nat), .int .u64 (n : Nat), .int .u64 0, .int .u64 0, .int .u64 0, .int .i64 0, .int .u64 0, .int .u64 0, .slice none 0 0, .slice none 0 0]]) (by kernel_rfl) (⟨_, HZ.out _ rfl⟩) ⟨?_, ?_, ?_, ?_, ?_, ?_, ?_, ?_, ?_, ?_, ?_, ?_, ?_, trivial⟩ (fun vs => [(5, .slice (some ⟨bl, off, none⟩) 1 cap), (6, .int .i64 1), (7, .bool true), (8, .bool true), (9, .slice (some ⟨bl, off, none⟩) 1 cap), (10, .pointer (some ⟨bl, off, none⟩)), (11, .string ⟨x.toArray⟩), (12, .pointer (some ⟨g, 0, none⟩)), (13, .pointer (some ⟨g, 0, none⟩)), (14, .pointer (some ⟨g, 2, none⟩)), (15, .bool true), (16, .bool true), (4, .bool true)]) (fun _ => rfl) 1 (by kernel_rfl) ?_
   ·refine ae.mk rfl rfl (fun t vs ac wx K Q hR hZ hK => ?_)
    have t0 : ac.tmps[0]? = some (.slice (some ⟨bl, off, none⟩) 1 cap) := (hR.old 0 (by kernel_rfl)).trans (by kernel_rfl)
    go_simp
    exact hK _ hZ
   ·refine ae.mk rfl rfl (fun t vs ac wx K Q hR hZ hK => ?_)
    have t5 := hR.eq 0 (by kernel_rfl) rfl rfl
    go_simp
    exact hK _ hZ
   ·refine ae.mk rfl rfl (fun t vs ac wx K Q hR hZ hK => ?_)
    have t6 := hR.eq 1 (by kernel_rfl) rfl rfl
    go_simp
    (try go_ints)
    exact hK _ hZ
   ·refine ae.mk rfl rfl (fun t vs ac wx K Q hR hZ hK => ?_)
    have t7 := hR.eq 2 (by kernel_rfl) rfl rfl
    go_simp
    exact hK _ hZ
   ·refine ae.mk rfl rfl (fun t vs ac wx K Q hR hZ hK => ?_)
    have t0 : ac.tmps[0]? = some (.slice (some ⟨bl, off, none⟩) 1 cap) := (hR.old 0 (by kernel_rfl)).trans (by kernel_rfl)
    go_simp
    exact hK _ hZ
   ·refine ae.mk rfl rfl (fun t vs ac wx K Q hR hZ hK => ?_)
    have t9 := hR.eq 4 (by kernel_rfl) rfl rfl
    go_simp
    exact hK _ hZ
   ·refine ae.mk rfl rfl (fun t vs ac wx K Q hR hZ hK => ?_)
    have t10 := hR.eq 5 (by kernel_rfl) rfl rfl
    have y0 := hZ.rg.cell HV.out.1 hne
    go_simp
    exact hK _ hZ
   ·refine ae.mk rfl rfl (fun t vs ac wx K Q hR hZ hK => ?_)
    have t1 : ac.tmps[1]? = some (.pointer (some ⟨g, 0, none⟩)) := (hR.old 1 (by kernel_rfl)).trans (by kernel_rfl)
    go_simp
    exact hK _ hZ
   ·refine ae.mk rfl rfl (fun t vs ac wx K Q hR hZ hK => ?_)
    have t12 := hR.eq 7 (by kernel_rfl) rfl rfl
    go_simp
    exact hK _ hZ
   ·refine ae.mk rfl rfl (fun t vs ac wx K Q hR hZ hK => ?_)
    have t13 := hR.eq 8 (by kernel_rfl) rfl rfl
    go_simp
    exact hK _ hZ
   ·refine aL.mk rfl rfl (fun vs ac wx K Q hR hZ hK => ?_)
    have t11 := hR.eq 6 (by kernel_rfl) rfl rfl
    have t14 := hR.eq 9 (by kernel_rfl) rfl rfl
    go_simp
    go_at_call 66
    refine (aB ⟨x.toArray⟩ g 2 47 _ _ (by rw [← ah]; simp; omega) (hZ.at rfl) (by simp) (HL.out.lv.below (hZ.rg.below (by omega)))).mono ?_
    rintro e w' hS
    obtain ⟨rfl, hZ2⟩ := hZ.yes (cs := [some #[.int .i64 4, .int .u64 (t : Nat), .int .u64 0, .int .u64 0, .int .u64 0, .int .u64 0, .int .i64 0, .int .u64 0, .int .u64 0, .slice none 0 0, .slice none 0 0], some #[.int .i64 4, .int .u64 (t : Nat), .int .u64 (n : Nat), .int .u64 0, .int .u64 0, .int .u64 0, .int .i64 0, .int .u64 0, .int .u64 0, .slice none 0 0, .slice none 0 0]]) rfl hS (c := #[.int .i64 4, .int .u64 (t : Nat), .int .u64 (n : Nat), .int .u64 0, .int .u64 0, .int .u64 0, .int .i64 0, .int .u64 0, .int .u64 0, .slice none 0 0, .slice none 0 0]) (by rw [HN.out]; simp)
    exact hK _ _ aR hZ2
   ·refine ae.mk rfl rfl (fun t vs ac wx K Q hR hZ hK => ?_)
    have t8 := hR.eq 3 (by kernel_rfl) rfl rfl
    have t15 := hR.weq 10 (by kernel_rfl) rfl rfl
    go_simp
    exact hK _ hZ
   ·refine ae.mk rfl rfl (fun t vs ac wx K Q hR hZ hK => ?_)
    have t16 := hR.eq 11 (by kernel_rfl) rfl rfl
    go_simp
    exact hK _ hZ
   intro vs wN hZ
   simp only [aM, List.foldl_cons, List.foldl_nil]
   go_simp
   go_wp2_with fail
   go_ret
   exact eH _ hZ.rg (hZ.at rfl) (by rw [HT.out, HN.out]; rfl) (eG wN _ 4 t n 0 0 0 (by omega) ht (aQ.1 HN.out).2 (by omega) (by omega) (by omega))
 ·have HT := hid (oM (t := t) h2)
  have t1 : ((n : Int) == 1) = false := by simp; omega
  clear h2 hn hG hh
  go_enter Tryz.func130, Tryz.ntmps130
  go_wp2_with fail
  go_quiet (fail)
  go_wp2_with fail
  go_ret
  exact aW (Rg.of_below (below_drewN br _)) HH.out HT.out
end Go.Proofs.YtmgbhhmipmgcpaaGreatDoor
