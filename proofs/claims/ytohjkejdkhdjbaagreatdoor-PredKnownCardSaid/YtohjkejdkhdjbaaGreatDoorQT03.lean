/- Walks: a predicate's text; Both; Turn, both. -/
import Derived.Test.YtohjkejdkhdjbaaGreatDoorQT02
import Derived.Test.YtohjkejdkhdjbaaGreatDoorQW04g
import Derived.Test.YtohjkejdkhdjbaaGreatDoorQW04k
import Derived.Test.YtohjkejdkhdjbaaGreatDoorQ18
import Derived.Deep.DeepFit
namespace Go.Proofs.YtohjkejdkhdjbaaGreatDoor
open Go.RowKit Go
set_option linter.unusedVariables false
set_option linter.unusedSimpArgs false
/-- What turns a predicate. -/
def turnN (k : Int) (a b : Nat) (ps : List Ex) : Ex := if k = 5 then (match ps with | [e] => e | _ => .mk 5 0 0 [.mk k a b ps]) else .mk 5 0 0 [.mk k a b ps]
def Ex.turn : Ex → Ex
  | .mk k a b ps => turnN k a b ps
theorem turn_pos {a b : Nat} {ps : List Ex} (h : ps.length = 1) : turnN 5 a b ps = ps[0] := by
  match ps, h with
  | [e], _ => rfl
theorem turn_neg {k : Int} {a b : Nat} {ps : List Ex} (h : ¬ (k = 5 ∧ ps.length = 1)) : turnN k a b ps = .mk 5 0 0 [.mk k a b ps] := by
  unfold turnN
  split
  · rename_i hk
    match ps, h with
    | [], _ => rfl
    | [e], h => exact absurd ⟨hk, rfl⟩ h
    | _ :: _ :: _, _ => rfl
  · rfl
theorem sl_block {w : World} {g : Nat} {cs : Array Value} {T : TypeId} (n sz : Nat) (h : w.heap[g]? = some (.cells cs T (0, 0))) (hn : cs.size = n * sz) (hm : n ≤ 1000) : Sl w (fun b => b = g) true sz n cs.toList (.slice (some ⟨g, 0, none⟩) n n) := by
  refine ⟨by simpa using hn, by omega, _, _, rfl, Nat.le_refl _, fun _ => ⟨g, 0, rfl, rfl, fun j hj => ⟨?_, fun _ => frozen_of_row w g _ _ _ h⟩⟩⟩
  rw [cell_of_row w _ _ _ _ _ h]
  simp at hj
  simp [hj]
/-- A predicate over parts whose row lies in a block. -/
theorem rep_over {w : World} {g : Nat} {cs : Array Value} {T : TypeId} {k : Int} {es : List Ex} {S : Nat → Prop} {own : Bool} (h : w.heap[g]? = some (.cells cs T (0, 0))) (hn : cs.size = es.length * 4) (hm : es.length ≤ 1000) (he : RepEs w S own es cs.toList)
    (hk1 : -9223372036854775808 ≤ k) (hk2 : k ≤ 9223372036854775807) : RepE w (fun _ => True) false (.mk k 0 0 es) (.agg #[.int .i64 k, .int .u64 0, .int .u64 0, .slice (some ⟨g, 0, none⟩) es.length es.length]) := by
  simp only [RepE]
  exact ⟨_, cs.toList, rfl, hk1, hk2, by omega, by omega, ((sl_block es.length 4 h hn hm).keep (by omega) (fun _ _ _ => rfl) (fun _ _ _ => trivial)).unown, (he.wider (fun _ _ _ => trivial)).unown⟩
set_option maxHeartbeats 1000000 in
set_option maxRecDepth 100000 in
theorem predText_any (S : Nat → Prop) (own : Bool) (e : Ex) (v : Value) (w : World) (hsz : e.size ≤ 900) (hrep : RepE w S own e v) (hL : Lv w.heap.size w) :
    Calls Tryz.prog 31 #[v] w fun r w' => r = .returned (.string ⟨e.text.toArray⟩) ∧ Below w.heap.size w w' := by
  have hd := e.depth_le_size
  obtain ⟨k', a', b', ad', n', cap', rfl⟩ := hrep.conc
  have hb0 : Below w.heap.size w (w.alloc (.cells #[.int .i64 k', .int .u64 a', .int .u64 b', .slice ad' n' cap'] 26)) := (Below.refl _ _).alloc (Nat.le_refl _) _
  have HR := Lib.hid (hrep.below hb0 (Nat.le_refl _))
  have HL := Lib.hid ((hL.below hb0).mono hb0.size)
  clear hrep hL
  cases hr : e.right with
  | false =>
    go_enter Tryz.func31, Tryz.ntmps31
    go_wp2_with fail
    refine (predRight_any _ _ e _ _ (by omega) HR.out).mono ?_
    rintro e1 w1 ⟨rfl, hb1⟩
    rw [hr]
    go_wp2_with fail
    go_ret
    exact ⟨by simp [Ex.text, hr], hb0.trans (hb1.mono (by simp))⟩
  | true =>
    have hok : e.okR = true := by simp [Ex.right] at hr; exact hr.1.1
    go_enter Tryz.func31, Tryz.ntmps31
    go_wp2_with fail
    refine (predRight_any _ _ e _ _ (by omega) HR.out).mono ?_
    rintro e1 w1 ⟨rfl, hb1⟩
    have c0 : ∀ o, w1.cell? ⟨w.heap.size, o, none⟩ = (w.alloc (.cells #[.int .i64 k', .int .u64 a', .int .u64 b', .slice ad' n' cap'] 26)).cell? ⟨w.heap.size, o, none⟩ := fun o => hb1.cell (by simp)
    rw [hr]
    go_wp2_with fail
    refine (predTold_any e.depth _ _ e _ _ (Nat.le_refl _) (by omega) (by omega) hok (HR.out.below hb1 (Nat.le_refl _)) ((HL.out.below hb1).mono hb1.size)).mono ?_
    rintro e2 w2 ⟨rfl, hb2⟩
    have hsz2 := hb1.size
    simp at hsz2
    go_wp2_with fail
    go_ret
    exact ⟨by simp [Ex.text, hr], hb0.trans ((hb1.mono (by simp)).trans (hb2.mono (by omega)))⟩
set_option maxHeartbeats 1000000 in
set_option maxRecDepth 100000 in
theorem predBoth_any (S : Nat → Prop) (own : Bool) (es : List Ex) (xs : List Value) (ad : Option Addr) (n cap : Nat) (w : World) (hn : n = es.length) (hd : Ex.depths es ≤ 900) (hsz : Ex.sizes es ≤ 900) (hs : Sl w S own 4 es.length xs (.slice ad n cap)) (he : RepEs w S own es xs) :
    Calls Tryz.prog 15 #[.slice ad n cap] w (GivesE w (.mk 6 0 0 es)) := by
  subst hn
  have hb0 : Below w.heap.size w (w.alloc (.cells #[.int .i64 0, .int .u64 0, .int .u64 0, .slice none 0 0] 26)) := (Below.refl _ _).alloc (Nat.le_refl _) _
  have hr : RepE (w.alloc (.cells #[.int .i64 0, .int .u64 0, .int .u64 0, .slice none 0 0] 26)) S own (.mk 6 0 0 es) (.agg #[.int .i64 6, .int .u64 0, .int .u64 0, .slice ad es.length cap]) := by
    simp only [RepE]
    exact ⟨_, xs, rfl, by omega, by omega, by omega, by omega, hs.below (by omega) hb0 (Nat.le_refl _), he.below hb0 (Nat.le_refl _)⟩
  have HR := Lib.hid hr
  clear hr hs he
  go_enter Tryz.func15, Tryz.ntmps15
  go_wp2_with fail
  go_fit (copied_any 1000 _ _ (.mk 6 0 0 es) _ _ (by simp only [Ex.depth]; omega) (by omega) (by simp only [Ex.size]; omega) HR.out)
  rintro e w1 ⟨⟨v', rfl, hv⟩, hb1⟩
  obtain ⟨q0, q1, q2, q3, q4, q5, rfl⟩ := hv.conc
  have hx : w1.heap[w.heap.size]? = some (.cells #[.int .i64 0, .int .u64 0, .int .u64 0, .slice none 0 0] 26) := (hb1.block _ (by simp)).trans (heap_alloc_at _ _ _ rfl)
  have l1 : w.heap.size < w1.heap.size := (Array.getElem?_eq_some_iff.1 hx).1
  have HX := Lib.hid (And.intro hx (And.intro hv hb1))
  clear hx hv hb1
  go_wp2_with (refine wpList_store_row rfl 26 (.tmp 2) (.tmp 5) rfl rfl w.heap.size rfl _ rfl 26 #[.int .i64 0, .int .u64 0, .int .u64 0, .slice none 0 0] HX.out.1 (by kernel_rfl) rfl (by simp [Value.oneCell']) ?_)
  refine bodyPost_ret (v := .agg #[.int .i64 q0, .int .u64 q1, .int .u64 q2, .slice q3 q4 q5]) (results_cell_row rfl _ _ w.heap.size 26 _ _ _ rfl (setRow_heap _ _ _ _ _ _ HX.out.1) Tryz.underlying26 rfl (by kernel_rfl)) rfl
    ⟨⟨_, rfl, ?_⟩, below_setRow (hb0.trans (HX.out.2.2.mono (by simp))) _ _ (Nat.le_refl _)⟩
  exact RepE.keep (fun b hb hl => setRow_other _ _ _ _ (by simp at hb; omega)) (fun b _ h => by simp at h; omega) HX.out.2.1
set_option maxHeartbeats 1000000 in
set_option maxRecDepth 100000 in
theorem predTurn_any (S : Nat → Prop) (own : Bool) (e : Ex) (v : Value) (w : World) (hsz : e.size ≤ 900) (hrep : RepE w S own e v) :
    Calls Tryz.prog 16 #[v] w (GivesE w e.turn) := by
  have hds := e.depth_le_size
  obtain ⟨k, a, b, ps⟩ := e
  have hrep0 := hrep
  simp only [RepE] at hrep
  obtain ⟨s, xs, rfl, hk1, hk2, ha, hb, hs, hes⟩ := hrep
  obtain ⟨hxl, hlen, ad, cap, rfl, hcap⟩ := hs.shape
  have hpl := Ex.length_le_sizes ps
  simp only [Ex.turn]
  simp only [Ex.size, Ex.depth] at hsz hds
  have hb0 : Below w.heap.size w ((w.alloc (.cells #[.int .i64 k, .int .u64 a, .int .u64 b, .slice ad ps.length cap] 26)).alloc (.cells #[.int .i64 0, .int .u64 0, .int .u64 0, .slice none 0 0] 26)) := ((Below.refl _ _).alloc (Nat.le_refl _) _).alloc (by simp) _
  clear hxl
  by_cases hc : k = 5 ∧ ps.length = 1
  · obtain ⟨rfl, h1⟩ := hc
    rw [turn_pos h1]
    obtain ⟨e0, rfl⟩ := List.length_eq_one_iff.1 h1
    obtain ⟨bl, off, k', a', b', ad', n', cap', rfl, _, g0, g1, g2, g3, _, ge⟩ := (hes.below hb0 (Nat.le_refl _)).part (hs.below (by omega) hb0 (Nat.le_refl _)) 0 (by simp)
    simp only [List.length_cons, List.length_nil, Nat.zero_add, List.getElem_cons_zero, Nat.zero_mul, Nat.mul_zero, Nat.add_zero, Ex.sizes, Ex.depths] at hcap hb0 hsz hds g0 g1 g2 g3 ge ⊢
    have l1 : bl < w.heap.size + 2 := by have := World.block_lt_of_cell? _ _ g0; simpa using this
    have hdd := e0.depth_le_size
    have GE := Lib.hid ge
    clear hs hes hrep0 ge
    go_enter Tryz.func16, Tryz.ntmps16
    go_wp2_with fail
    refine (copied_any 1000 _ _ e0 _ _ (by omega) (by omega) (by omega) GE.out).mono ?_
    rintro e w1 ⟨⟨v', rfl, hv⟩, hb1⟩
    obtain ⟨q0, q1, q2, q3, q4, q5, rfl⟩ := hv.conc
    have hx : w1.heap[w.heap.size + 1]? = some (.cells #[.int .i64 0, .int .u64 0, .int .u64 0, .slice none 0 0] 26) := (hb1.block _ (by simp)).trans (heap_alloc_at _ _ _ (by simp))
    have l1 : w.heap.size + 1 < w1.heap.size := (Array.getElem?_eq_some_iff.1 hx).1
    have HX := Lib.hid (And.intro hx (And.intro hv hb1))
    clear hx hv hb1
    go_wp2_with (refine wpList_store_row rfl 26 (.tmp 2) (.tmp 16) rfl rfl (w.heap.size + 1) rfl _ rfl 26 #[.int .i64 0, .int .u64 0, .int .u64 0, .slice none 0 0] HX.out.1 (by kernel_rfl) rfl (by simp [Value.oneCell']) ?_)
    refine bodyPost_ret (v := .agg #[.int .i64 q0, .int .u64 q1, .int .u64 q2, .slice q3 q4 q5]) (results_cell_row rfl _ _ (w.heap.size + 1) 26 _ _ _ rfl (setRow_heap _ _ _ _ _ _ HX.out.1) Tryz.underlying26 rfl (by kernel_rfl)) rfl
      ⟨⟨_, rfl, ?_⟩, below_setRow (hb0.trans (HX.out.2.2.mono (by simp; omega))) _ _ (by omega)⟩
    exact RepE.keep (fun b hb hl => setRow_other _ _ _ _ (by simp at hb; omega)) (fun b _ h => by simp at h; omega) HX.out.2.1
  · rw [turn_neg hc]
    have hbq : Below w.heap.size w (((w.alloc (.cells #[.int .i64 k, .int .u64 a, .int .u64 b, .slice ad ps.length cap] 26)).alloc (.cells #[.int .i64 0, .int .u64 0, .int .u64 0, .slice none 0 0] 26)).alloc (.cells #[.int .i64 k, .int .u64 a, .int .u64 b, .slice ad ps.length cap] 26)) := hb0.alloc (by simp; omega) _
    have HO := Lib.hid (rep_over (k := 5) (es := [.mk k a b ps]) (S := S) (own := own) (heap_alloc_at ((w.alloc (.cells #[.int .i64 k, .int .u64 a, .int .u64 b, .slice ad ps.length cap] 26)).alloc (.cells #[.int .i64 0, .int .u64 0, .int .u64 0, .slice none 0 0] 26)) (.cells #[.int .i64 k, .int .u64 a, .int .u64 b, .slice ad ps.length cap] 26) (w.heap.size + 2) (by simp)) (by simp) (by simp) (RepEs.one (hrep0.below hbq (Nat.le_refl _))) (by omega) (by omega))
    clear hs hes hrep0
    by_cases h5 : k = 5
    · have h6 : ¬ ps.length = 1 := fun h => hc ⟨h5, h⟩
      have h7 : ((ps.length : Int) == 1) = false := by rw [castb1]; simpa using h6
      subst h5
      clear hc h6
      go_enter Tryz.func16, Tryz.ntmps16
      go_wp2_with fail
      refine (copied_any 1000 _ _ (.mk 5 0 0 [.mk 5 a b ps]) _ _ (by simp only [Ex.depth, Ex.depths]; omega) (by omega) (by simp only [Ex.size, Ex.sizes]; omega) HO.out).mono ?_
      rintro e w1 ⟨⟨v', rfl, hv⟩, hb1⟩
      obtain ⟨q0, q1, q2, q3, q4, q5, rfl⟩ := hv.conc
      have hx : w1.heap[w.heap.size + 1]? = some (.cells #[.int .i64 0, .int .u64 0, .int .u64 0, .slice none 0 0] 26) := (hb1.block _ (by simp)).trans ((heap_alloc_lt _ _ _ (by simp)).trans (heap_alloc_at _ _ _ (by simp)))
      have l1 : w.heap.size + 1 < w1.heap.size := (Array.getElem?_eq_some_iff.1 hx).1
      have HX := Lib.hid (And.intro hx (And.intro hv (hbq.trans (hb1.mono (by simp; omega)))))
      clear hx hv hb1
      go_wp2_with (refine wpList_store_row rfl 26 (.tmp 2) (.tmp 20) rfl rfl (w.heap.size + 1) rfl _ rfl 26 #[.int .i64 0, .int .u64 0, .int .u64 0, .slice none 0 0] HX.out.1 (by kernel_rfl) rfl (by simp [Value.oneCell']) ?_)
      refine bodyPost_ret (v := .agg #[.int .i64 q0, .int .u64 q1, .int .u64 q2, .slice q3 q4 q5]) (results_cell_row rfl _ _ (w.heap.size + 1) 26 _ _ _ rfl (setRow_heap _ _ _ _ _ _ HX.out.1) Tryz.underlying26 rfl (by kernel_rfl)) rfl
        ⟨⟨_, rfl, ?_⟩, below_setRow HX.out.2.2 _ _ (by omega)⟩
      exact RepE.keep (fun b hb hl => setRow_other _ _ _ _ (by simp at hb; omega)) (fun b _ h => by simp at h; omega) HX.out.2.1
    · have h7 : ((k : Int) == 5) = false := by simpa using h5
      clear hc h5
      go_enter Tryz.func16, Tryz.ntmps16
      go_wp2_with fail
      refine (copied_any 1000 _ _ (.mk 5 0 0 [.mk k a b ps]) _ _ (by simp only [Ex.depth, Ex.depths]; omega) (by omega) (by simp only [Ex.size, Ex.sizes]; omega) HO.out).mono ?_
      rintro e w1 ⟨⟨v', rfl, hv⟩, hb1⟩
      obtain ⟨q0, q1, q2, q3, q4, q5, rfl⟩ := hv.conc
      have hx : w1.heap[w.heap.size + 1]? = some (.cells #[.int .i64 0, .int .u64 0, .int .u64 0, .slice none 0 0] 26) := (hb1.block _ (by simp)).trans ((heap_alloc_lt _ _ _ (by simp)).trans (heap_alloc_at _ _ _ (by simp)))
      have l1 : w.heap.size + 1 < w1.heap.size := (Array.getElem?_eq_some_iff.1 hx).1
      have HX := Lib.hid (And.intro hx (And.intro hv (hbq.trans (hb1.mono (by simp; omega)))))
      clear hx hv hb1
      go_wp2_with (refine wpList_store_row rfl 26 (.tmp 2) (.tmp 20) rfl rfl (w.heap.size + 1) rfl _ rfl 26 #[.int .i64 0, .int .u64 0, .int .u64 0, .slice none 0 0] HX.out.1 (by kernel_rfl) rfl (by simp [Value.oneCell']) ?_)
      refine bodyPost_ret (v := .agg #[.int .i64 q0, .int .u64 q1, .int .u64 q2, .slice q3 q4 q5]) (results_cell_row rfl _ _ (w.heap.size + 1) 26 _ _ _ rfl (setRow_heap _ _ _ _ _ _ HX.out.1) Tryz.underlying26 rfl (by kernel_rfl)) rfl
        ⟨⟨_, rfl, ?_⟩, below_setRow HX.out.2.2 _ _ (by omega)⟩
      exact RepE.keep (fun b hb hl => setRow_other _ _ _ _ (by simp at hb; omega)) (fun b _ h => by simp at h; omega) HX.out.2.1
set_option maxHeartbeats 1000000 in
set_option maxRecDepth 100000 in
theorem refTurn_any (S : Nat → Prop) (own : Bool) (e : Ex) (v : Value) (w : World) (hsz : e.size ≤ 900) (hrep : RepE w S own e v) :
    Calls Tryz.prog 20 #[v] w fun r w' => (∃ v', r = .returned v' ∧ RepE w' (fun _ => True) false e.turn v') ∧ Below w.heap.size w w' := by
  have hds := e.depth_le_size
  obtain ⟨k, a, b, ps⟩ := e
  have hrep0 := hrep
  simp only [RepE] at hrep
  obtain ⟨s, xs, rfl, hk1, hk2, ha, hb, hs, hes⟩ := hrep
  obtain ⟨hxl, hlen, ad, cap, rfl, hcap⟩ := hs.shape
  have hpl := Ex.length_le_sizes ps
  simp only [Ex.turn]
  simp only [Ex.size, Ex.depth] at hsz hds
  have hb0 : Below w.heap.size w ((w.alloc (.cells #[.int .i64 k, .int .u64 a, .int .u64 b, .slice ad ps.length cap] 32)).alloc (.cells #[.int .i64 0, .int .u64 0, .int .u64 0, .slice none 0 0] 32)) := ((Below.refl _ _).alloc (Nat.le_refl _) _).alloc (by simp) _
  clear hxl
  by_cases hc : k = 5 ∧ ps.length = 1
  · obtain ⟨rfl, h1⟩ := hc
    rw [turn_pos h1]
    obtain ⟨e0, rfl⟩ := List.length_eq_one_iff.1 h1
    obtain ⟨bl, off, k', a', b', ad', n', cap', rfl, _, g0, g1, g2, g3, _, ge⟩ := (hes.below hb0 (Nat.le_refl _)).part (hs.below (by omega) hb0 (Nat.le_refl _)) 0 (by simp)
    simp only [List.length_cons, List.length_nil, Nat.zero_add, List.getElem_cons_zero, Nat.zero_mul, Nat.mul_zero, Nat.add_zero, Ex.sizes, Ex.depths] at hcap hb0 hsz hds g0 g1 g2 g3 ge ⊢
    have l1 : bl < w.heap.size + 2 := by have := World.block_lt_of_cell? _ _ g0; simpa using this
    have hge : RepE w S own e0 (.agg #[.int .i64 k', .int .u64 a', .int .u64 b', .slice ad' n' cap']) := by
      have hp := hes.get 0 (by simp)
      obtain ⟨bl2, off2, k2, a2, b2, ad2, n2, cap2, e2, _, G0, G1, G2, G3, _, Ge⟩ := hes.part hs 0 (by simp)
      simp only [Option.some.injEq, Addr.mk.injEq] at e2
      obtain ⟨rfl, rfl, _⟩ := e2
      simp only [List.getElem_cons_zero, Nat.zero_mul, Nat.mul_zero, Nat.add_zero] at G0 G1 G2 G3 Ge
      have hlb := World.block_lt_of_cell? _ _ G0
      have q0 := (hb0.cell hlb (p := ⟨bl, off, none⟩)).symm.trans g0
      have q1 := (hb0.cell hlb (p := ⟨bl, off + 1, none⟩)).symm.trans g1
      have q2 := (hb0.cell hlb (p := ⟨bl, off + 2, none⟩)).symm.trans g2
      have q3 := (hb0.cell hlb (p := ⟨bl, off + 3, none⟩)).symm.trans g3
      rw [G0] at q0; rw [G1] at q1; rw [G2] at q2; rw [G3] at q3
      simp only [Option.some.injEq] at q0 q1 q2 q3
      rw [← q0, ← q1, ← q2, ← q3]
      exact Ge
    have HX : Hid (((w.alloc (.cells #[.int .i64 5, .int .u64 a, .int .u64 b, .slice (some ⟨bl, off, none⟩) 1 cap] 32)).alloc (.cells #[.int .i64 0, .int .u64 0, .int .u64 0, .slice none 0 0] 32)).heap[w.heap.size + 1]? = some (.cells #[.int .i64 0, .int .u64 0, .int .u64 0, .slice none 0 0] 32)) := Lib.hid (heap_alloc_at _ _ _ (by simp))
    have GE := Lib.hid hge
    clear hs hes hrep0 ge hge
    go_enter Tryz.func20, Tryz.ntmps20
    go_wp2_with (refine wpList_store_row rfl 32 (.tmp 2) (.tmp 15) rfl rfl (w.heap.size + 1) rfl _ rfl 32 #[.int .i64 0, .int .u64 0, .int .u64 0, .slice none 0 0] HX.out (by kernel_rfl) rfl (by simp [Value.oneCell']) ?_)
    refine bodyPost_ret (v := .agg #[.int .i64 k', .int .u64 a', .int .u64 b', .slice ad' n' cap']) (results_cell_row rfl _ _ (w.heap.size + 1) 32 _ _ _ rfl (setRow_heap _ _ _ _ _ _ HX.out) Tryz.underlying32 rfl (by kernel_rfl)) rfl
      ⟨⟨_, rfl, ?_⟩, below_setRow hb0 _ _ (by omega)⟩
    exact ((GE.out.below (below_setRow hb0 _ _ (by omega)) (Nat.le_refl _)).wider (fun _ _ _ => trivial)).unown
  · rw [turn_neg hc]
    have hbq : Below w.heap.size w (((w.alloc (.cells #[.int .i64 k, .int .u64 a, .int .u64 b, .slice ad ps.length cap] 32)).alloc (.cells #[.int .i64 0, .int .u64 0, .int .u64 0, .slice none 0 0] 32)).alloc (.cells #[.int .i64 k, .int .u64 a, .int .u64 b, .slice ad ps.length cap] 32)) := hb0.alloc (by simp; omega) _
    have HX : Hid ((((w.alloc (.cells #[.int .i64 k, .int .u64 a, .int .u64 b, .slice ad ps.length cap] 32)).alloc (.cells #[.int .i64 0, .int .u64 0, .int .u64 0, .slice none 0 0] 32)).alloc (.cells #[.int .i64 k, .int .u64 a, .int .u64 b, .slice ad ps.length cap] 32)).heap[w.heap.size + 1]? = some (.cells #[.int .i64 0, .int .u64 0, .int .u64 0, .slice none 0 0] 32)) := Lib.hid ((heap_alloc_lt _ _ _ (by simp)).trans (heap_alloc_at _ _ _ (by simp)))
    have HO : ∀ cs, Hid (RepE ((((w.alloc (.cells #[.int .i64 k, .int .u64 a, .int .u64 b, .slice ad ps.length cap] 32)).alloc (.cells #[.int .i64 0, .int .u64 0, .int .u64 0, .slice none 0 0] 32)).alloc (.cells #[.int .i64 k, .int .u64 a, .int .u64 b, .slice ad ps.length cap] 32)).setRow (w.heap.size + 1) cs) (fun _ => True) false (.mk 5 0 0 [.mk k a b ps]) (.agg #[.int .i64 5, .int .u64 0, .int .u64 0, .slice (some ⟨w.heap.size + 2, 0, none⟩) 1 1])) := fun cs => Lib.hid (rep_over (k := 5) (es := [.mk k a b ps]) (S := S) (own := own) ((setRow_other _ _ _ _ (by omega)).trans (heap_alloc_at _ (.cells #[.int .i64 k, .int .u64 a, .int .u64 b, .slice ad ps.length cap] 32) (w.heap.size + 2) (by simp))) (by simp) (by simp) (RepEs.one (hrep0.below (below_setRow hbq _ _ (by omega)) (Nat.le_refl _))) (by omega) (by omega))
    clear hs hes hrep0
    by_cases h5 : k = 5
    · have h6 : ¬ ps.length = 1 := fun h => hc ⟨h5, h⟩
      have h7 : ((ps.length : Int) == 1) = false := by rw [castb1]; simpa using h6
      subst h5
      clear hc h6
      go_enter Tryz.func20, Tryz.ntmps20
      go_wp2_with (refine wpList_store_row rfl 32 (.tmp 2) (.tmp 18) rfl rfl (w.heap.size + 1) rfl _ rfl 32 #[.int .i64 0, .int .u64 0, .int .u64 0, .slice none 0 0] HX.out (by kernel_rfl) rfl (by simp [Value.oneCell']) ?_)
      exact bodyPost_ret (v := .agg #[.int .i64 5, .int .u64 0, .int .u64 0, .slice (some ⟨w.heap.size + 2, 0, none⟩) 1 1]) (results_cell_row rfl _ _ (w.heap.size + 1) 32 _ _ _ rfl (setRow_heap _ _ _ _ _ _ HX.out) Tryz.underlying32 rfl (by kernel_rfl)) rfl
        ⟨⟨_, rfl, (HO _).out⟩, below_setRow hbq _ _ (by omega)⟩
    · have h7 : ((k : Int) == 5) = false := by simpa using h5
      clear hc h5
      go_enter Tryz.func20, Tryz.ntmps20
      go_wp2_with (refine wpList_store_row rfl 32 (.tmp 2) (.tmp 18) rfl rfl (w.heap.size + 1) rfl _ rfl 32 #[.int .i64 0, .int .u64 0, .int .u64 0, .slice none 0 0] HX.out (by kernel_rfl) rfl (by simp [Value.oneCell']) ?_)
      exact bodyPost_ret (v := .agg #[.int .i64 5, .int .u64 0, .int .u64 0, .slice (some ⟨w.heap.size + 2, 0, none⟩) 1 1]) (results_cell_row rfl _ _ (w.heap.size + 1) 32 _ _ _ rfl (setRow_heap _ _ _ _ _ _ HX.out) Tryz.underlying32 rfl (by kernel_rfl)) rfl
        ⟨⟨_, rfl, (HO _).out⟩, below_setRow hbq _ _ (by omega)⟩
end Go.Proofs.YtohjkejdkhdjbaaGreatDoor
