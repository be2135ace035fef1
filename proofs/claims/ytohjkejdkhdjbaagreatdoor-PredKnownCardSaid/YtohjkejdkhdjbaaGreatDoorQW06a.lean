/- Walks: a predicate by a number. -/
import Derived.Test.YtohjkejdkhdjbaaGreatDoorQW04i
import Derived.Test.YtohjkejdkhdjbaaGreatDoorQ16
import Derived.Deep.RegionLaw
import Derived.Deep.AppendLies
import Derived.OneCell
namespace Go.Proofs.YtohjkejdkhdjbaaGreatDoor
open Go.RowKit Go
set_option linter.unusedVariables false
set_option linter.unusedSimpArgs false
def mdz : Nat → Nat
  | 0 => 1
  | d + 1 => 1 + 3 * mdz d
def MadeIs (d : Nat) (w : World) (r : Ending) (w' : World) : Prop := (∃ e v', r = .returned v' ∧ e.size ≤ mdz d ∧ RepE w' (fun b => w.heap.size ≤ b) true e v') ∧ Below w.heap.size w w'
def MadeAt (d : Nat) : Prop := ∀ (n x : Int) (w : World), 0 ≤ n → n ≤ 999000 → x = (d : Int) → d ≤ 3 → Calls Tryz.prog 39 #[.int .i64 n, .int .i64 x] w (MadeIs d w)
theorem made_leaf {d : Nat} {w w' : World} (k : Int) (a b : Nat) (hk : 0 ≤ k ∧ k ≤ 7) (ha : a ≤ 100) (hb : b ≤ 100) (hw : Below w.heap.size w w') : MadeIs d w (.returned (.agg #[.int .i64 k, .int .u64 (a : Nat), .int .u64 (b : Nat), .slice none 0 0])) w' :=
  ⟨⟨.mk k a b [], _, rfl, by cases d <;> simp [Ex.size, Ex.sizes, mdz], by simp only [RepE]; exact ⟨_, [], rfl, by omega, by omega, by omega, by omega, Sl.nil _ _ _ _, by simp [RepEs]⟩⟩, hw⟩
set_option maxHeartbeats 2000000 in
set_option maxRecDepth 100000 in
theorem made_0 (d : Nat) (n x : Int) (w : World) (h0 : 0 ≤ n) (h1 : n ≤ 1000000) (hr : n % 7 = 0) : Calls Tryz.prog 39 #[.int .i64 n, .int .i64 x] w (MadeIs d w) := by
  obtain ⟨n, rfl⟩ := Int.eq_ofNat_of_zero_le h0
  go_enter Tryz.func39, Tryz.ntmps39
  go_wp2_with fail
  exact bodyPost_ret (v := .agg #[.int .i64 1, .int .u64 ((0 : Nat) : Int), .int .u64 ((0 : Nat) : Int), .slice none 0 0]) (by simp [results, Tryz.results39, go_sem]) rfl (made_leaf 1 (0) (0) (by omega) (by omega) (by omega) (((Below.refl _ _).alloc (Nat.le_refl _) _).alloc (by simp) _))
set_option maxHeartbeats 2000000 in
set_option maxRecDepth 100000 in
theorem made_1 (d : Nat) (n x : Int) (w : World) (h0 : 0 ≤ n) (h1 : n ≤ 1000000) (hr : n % 7 = 1) : Calls Tryz.prog 39 #[.int .i64 n, .int .i64 x] w (MadeIs d w) := by
  obtain ⟨n, rfl⟩ := Int.eq_ofNat_of_zero_le h0
  go_enter Tryz.func39, Tryz.ntmps39
  go_wp2_with fail
  exact bodyPost_ret (v := .agg #[.int .i64 2, .int .u64 ((n / 7 % 9 : Nat) : Int), .int .u64 ((0 : Nat) : Int), .slice none 0 0]) (by simp [results, Tryz.results39, go_sem]) rfl (made_leaf 2 (n / 7 % 9) (0) (by omega) (by omega) (by omega) (((Below.refl _ _).alloc (Nat.le_refl _) _).alloc (by simp) _))
set_option maxHeartbeats 2000000 in
set_option maxRecDepth 100000 in
theorem made_2 (d : Nat) (n x : Int) (w : World) (h0 : 0 ≤ n) (h1 : n ≤ 1000000) (hr : n % 7 = 2) : Calls Tryz.prog 39 #[.int .i64 n, .int .i64 x] w (MadeIs d w) := by
  obtain ⟨n, rfl⟩ := Int.eq_ofNat_of_zero_le h0
  go_enter Tryz.func39, Tryz.ntmps39
  go_wp2_with fail
  exact bodyPost_ret (v := .agg #[.int .i64 3, .int .u64 ((n / 7 % 9 : Nat) : Int), .int .u64 ((0 : Nat) : Int), .slice none 0 0]) (by simp [results, Tryz.results39, go_sem]) rfl (made_leaf 3 (n / 7 % 9) (0) (by omega) (by omega) (by omega) (((Below.refl _ _).alloc (Nat.le_refl _) _).alloc (by simp) _))
set_option maxHeartbeats 2000000 in
set_option maxRecDepth 100000 in
theorem made_3 (d : Nat) (n x : Int) (w : World) (h0 : 0 ≤ n) (h1 : n ≤ 1000000) (hr : n % 7 = 3) : Calls Tryz.prog 39 #[.int .i64 n, .int .i64 x] w (MadeIs d w) := by
  obtain ⟨n, rfl⟩ := Int.eq_ofNat_of_zero_le h0
  have m1 : (0 : Int) ≤ (n : Int) / 35 % (1 + (n : Int) / 7 % 5) := Int.emod_nonneg _ (by omega)
  have m2 : (n : Int) / 35 % (1 + (n : Int) / 7 % 5) < 1 + (n : Int) / 7 % 5 := Int.emod_lt_of_pos _ (by omega)
  have m3 : n / 35 % (1 + n / 7 % 5) < 1 + n / 7 % 5 := Nat.mod_lt _ (by omega)
  go_enter Tryz.func39, Tryz.ntmps39
  go_wp2_with fail
  exact bodyPost_ret (v := .agg #[.int .i64 4, .int .u64 ((1 + n / 7 % 5 : Nat) : Int), .int .u64 ((n / 35 % (1 + n / 7 % 5) : Nat) : Int), .slice none 0 0]) (by simp [results, Tryz.results39, go_sem]) rfl (made_leaf 4 (1 + n / 7 % 5) (n / 35 % (1 + n / 7 % 5)) (by omega) (by omega) (by omega) (((Below.refl _ _).alloc (Nat.le_refl _) _).alloc (by simp) _))
theorem made_one {d : Nat} {w w1 F : World} {e : Ex} {q0 : Int} {q1 q2 : Nat} {q3 : Option Addr} {q4 q5 B : Nat} {T : TypeId} (k : Int) (hk : 0 ≤ k ∧ k ≤ 7) (hs : e.size ≤ mdz d) (hv : RepE w1 (fun b => B ≤ b) true e (.agg #[.int .i64 q0, .int .u64 q1, .int .u64 q2, .slice q3 q4 q5]))
    (hB : w.heap.size + 2 ≤ B) (hb : Below w.heap.size w F) (hk1 : ∀ b, B ≤ b → b < w1.heap.size → F.heap[b]? = w1.heap[b]?) (hg : F.heap[w1.heap.size]? = some (.cells #[.int .i64 q0, .int .u64 q1, .int .u64 q2, .slice q3 q4 q5] T (0, 0))) (hBs : B ≤ w1.heap.size) :
    MadeIs (d + 1) w (.returned (.agg #[.int .i64 k, .int .u64 (0 : Int), .int .u64 (0 : Int), .slice (some ⟨w1.heap.size, 0, none⟩) 1 1])) F := by
  refine ⟨⟨.mk k 0 0 [e], _, rfl, by simp [Ex.size, Ex.sizes, mdz]; omega, ?_⟩, hb⟩
  simp only [RepE]
  refine ⟨_, [.int .i64 q0, .int .u64 q1, .int .u64 q2, .slice q3 q4 q5], rfl, by omega, by omega, by omega, by omega, ?_, RepEs.one (RepE.keep (fun b hb hl => hk1 b hb hl) (fun b _ h => by omega) hv)⟩
  refine ⟨rfl, by simp, _, _, rfl, by simp, fun _ => ⟨_, _, rfl, by omega, fun j hj => ?_⟩⟩
  rw [cell_of_row F _ (0 + j) _ _ _ hg, frozen_of_row F _ (0 + j) _ _ hg]
  refine ⟨?_, fun _ => rfl⟩
  simp only [Nat.zero_add]
  rw [← List.getElem?_eq_getElem hj]
  simp
set_option maxHeartbeats 2000000 in
set_option maxRecDepth 100000 in
theorem made_4z (d : Nat) (n x : Int) (w : World) (h0 : 0 ≤ n) (h1 : n ≤ 1000000) (hr : n % 7 = 4) (hx : decide ((0 : Int) < x) = false) : Calls Tryz.prog 39 #[.int .i64 n, .int .i64 x] w (MadeIs d w) := by
  obtain ⟨n, rfl⟩ := Int.eq_ofNat_of_zero_le h0
  go_enter Tryz.func39, Tryz.ntmps39
  go_wp2_with fail
  exact bodyPost_ret (v := .agg #[.int .i64 5, .int .u64 (0 : Int), .int .u64 (0 : Int), .slice none 0 0]) (by simp [results, Tryz.results39, go_sem]) rfl (made_leaf 5 0 0 (by omega) (by omega) (by omega) (((Below.refl _ _).alloc (Nat.le_refl _) _).alloc (by simp) _))
set_option maxHeartbeats 2000000 in
set_option maxRecDepth 100000 in
theorem made_4 (d : Nat) (hd : d + 1 ≤ 3) (ih : MadeAt d) (n x : Int) (w : World) (h0 : 0 ≤ n) (h1 : n ≤ 999980) (hr : n % 7 = 4) (hx : x = ((d + 1 : Nat) : Int)) : Calls Tryz.prog 39 #[.int .i64 n, .int .i64 x] w (MadeIs (d + 1) w) := by
  obtain ⟨n, rfl⟩ := Int.eq_ofNat_of_zero_le h0
  have hx0 : 0 < x := by omega
  have hx1 : x ≤ 3 := by omega
  have hx2 : decide ((0 : Int) < x) = true := by simp; omega
  have HX := Lib.hid hx
  have IH := Lib.hid ih
  clear hx ih
  go_enter Tryz.func39, Tryz.ntmps39
  go_wp2_with fail
  refine (IH.out _ _ _ (by omega) (by omega) (by have := HX.out; omega) (by omega)).mono ?_
  rintro r w1 ⟨⟨e, v', rfl, hs, hv⟩, hb⟩
  obtain ⟨q0, q1, q2, q3, q4, q5, rfl⟩ := hv.conc
  obtain ⟨hc, hf⟩ := bcell hb
  have hz1 : w.heap.size + 1 < w1.heap.size := by have := hb.size; simp at this; omega
  have hz0 : w.heap.size < w1.heap.size := by omega
  have e0 : w1.heap[w.heap.size]? = some (.cells #[.int .i64 0, .int .u64 0, .int .u64 0, .slice none 0 0] 26 (0, 0)) := by
    rw [hb.block _ (by simp; omega), Below.heap_alloc _ _ _ (by simp)]; exact heap_alloc_at _ _ _ rfl
  have e1 : w1.heap[w.heap.size + 1]? = some (.cells #[.int .i64 5, .int .u64 0, .int .u64 0, .slice none 0 0] 26 (0, 0)) := by
    rw [hb.block _ (by simp)]; exact heap_alloc_at _ _ _ (by simp)
  have p0 : w1.cell? ⟨w.heap.size + 1, 0, none⟩ = some (.int .i64 5) := by rw [cell_of_row w1 _ 0 _ _ _ e1]; rfl
  have p1 : w1.cell? ⟨w.heap.size + 1, 1, none⟩ = some (.int .u64 0) := by rw [cell_of_row w1 _ 1 _ _ _ e1]; rfl
  have p2 : w1.cell? ⟨w.heap.size + 1, 2, none⟩ = some (.int .u64 0) := by rw [cell_of_row w1 _ 2 _ _ _ e1]; rfl
  have p3 : w1.cell? ⟨w.heap.size + 1, 3, none⟩ = some (.slice none 0 0) := by rw [cell_of_row w1 _ 3 _ _ _ e1]; rfl
  have f3 : w1.frozen? ⟨w.heap.size + 1, 3, none⟩ = false := by rw [frozen_of_row w1 _ 3 _ _ e1]
  have HH := Lib.hid (And.intro e0 (And.intro e1 (And.intro hs (And.intro hv hb))))
  clear e0 e1 hs hv hb hc hf
  go_wp2_with (refine wpList_store_row rfl 26 (.tmp 4) (.tmp 81) rfl rfl (w.heap.size) rfl _ rfl 26 #[.int .i64 0, .int .u64 0, .int .u64 0, .slice none 0 0] (by rw [Below.heap_alloc _ _ _ (by simp; omega), Below.heap_setCell _ _ _ _ (by simp)]; exact HH.out.1) (by kernel_rfl) rfl (by simp [Value.oneCell']) ?_)
  have hF0 : ((w1.setCell ⟨w.heap.size + 1, 3, none⟩ (.slice (some ⟨w1.heap.size, 0, none⟩) 1 1)).alloc (.cells #[.int .i64 q0, .int .u64 q1, .int .u64 q2, .slice q3 q4 q5] 26)).heap[w.heap.size]? = some (.cells #[.int .i64 0, .int .u64 0, .int .u64 0, .slice none 0 0] 26 (0, 0)) := by
    rw [Below.heap_alloc _ _ _ (by simp; omega), Below.heap_setCell _ _ _ _ (by simp)]; exact HH.out.1
  obtain ⟨_, _, hs, hv, hb⟩ := HH.out
  have hb0 : Below w.heap.size w w1 := (((Below.refl _ _).alloc (Nat.le_refl _) _).alloc (by simp) _).trans (hb.mono (by simp; omega))
  refine bodyPost_ret (v := .agg #[.int .i64 5, .int .u64 (0 : Int), .int .u64 (0 : Int), .slice (some ⟨w1.heap.size, 0, none⟩) 1 1]) (results_cell_row rfl _ _ (w.heap.size) 26 _ _ _ rfl (setRow_heap _ _ _ _ _ _ hF0) Tryz.underlying26 rfl (by kernel_rfl)) rfl
    (made_one (T := 26) (B := w.heap.size + 2) 5 (by omega) hs (by simpa using hv) (by omega) (below_setRow ((hb0.setCell (by simp) _).alloc (by simp; omega) _) _ _ (Nat.le_refl _)) (fun b h1 h2 => ?_) ?_ (by omega))
  · rw [setRow_other _ _ _ _ (by omega), Below.heap_alloc _ _ _ (by simp; omega), Below.heap_setCell _ _ _ _ (by simp; omega)]
  · rw [setRow_other _ _ _ _ (by omega)]; exact heap_alloc_at _ _ _ (by simp)
def MadeRel (k : Int) (d : Nat) (w : World) (i : Value) (wr : World) : Prop := ∃ j : Nat, ∃ sv es, j ≤ 3 ∧ i = .int .i64 j ∧ es.length = j ∧ Ex.sizes es ≤ j * mdz d ∧ Below w.heap.size w wr ∧
  wr.heap[w.heap.size]? = some (.cells #[.int .i64 0, .int .u64 0, .int .u64 0, .slice none 0 0] 26 (0, 0)) ∧
  wr.heap[w.heap.size + 1]? = some (.cells #[.int .i64 k, .int .u64 0, .int .u64 0, sv] 26 (0, 0)) ∧
  Making wr (w.heap.size + 2) 26 sv es
def MadeZ (k : Int) (d j : Nat) (w : World) (es : List Ex) (sa : Option Addr) (sc : Nat) (fin : Bool) (vs : Nat → Value) (wx : World) : Prop :=
  ∃ gg gcap e, vs 12 = .slice (some ⟨gg, 0, none⟩) (j + 1) gcap ∧ Ex.size e ≤ mdz d ∧ Making wx (w.heap.size + 2) 26 (.slice (some ⟨gg, 0, none⟩) (j + 1) gcap) (es ++ [e]) ∧ Below w.heap.size w wx ∧
    wx.heap[w.heap.size]? = some (.cells #[.int .i64 0, .int .u64 0, .int .u64 0, .slice none 0 0] 26 (0, 0)) ∧
    wx.heap[w.heap.size + 1]? = some (.cells #[.int .i64 k, .int .u64 0, .int .u64 0, if fin then .slice (some ⟨gg, 0, none⟩) (j + 1) gcap else .slice sa j sc] 26 (0, 0))
set_option maxHeartbeats 4000000 in
set_option maxRecDepth 100000 in
theorem made_5 (d : Nat) (hd : d + 1 ≤ 3) (ih : MadeAt d) (n x : Int) (w : World) (h0 : 0 ≤ n) (h1 : n ≤ 999000) (hr : n % 7 = 5) (hx : x = ((d + 1 : Nat) : Int)) : Calls Tryz.prog 39 #[.int .i64 n, .int .i64 x] w (MadeIs (d + 1) w) := by
  obtain ⟨n, rfl⟩ := Int.eq_ofNat_of_zero_le h0
  have hx0 : 0 < x := by omega
  have hx1 : x ≤ 3 := by omega
  have hx2 : decide ((0 : Int) < x) = true := by simp; omega
  have HX := Lib.hid hx
  have IH := Lib.hid ih
  obtain ⟨i0, hi0, hz0, hz1, hz2⟩ := info_parts infoPred
  have HI0 := Lib.hid (And.intro hi0 (And.intro hz0 (And.intro hz1 hz2)))
  clear hx ih hi0 hz0 hz1 hz2
  go_enter Tryz.func39, Tryz.ntmps39
  go_wp2_with fail
  go_loopw [6] (MadeRel 6 d w) (fun i _ => 4 - (intOf i).toNat)
  case atStart =>
    refine ⟨0, .slice none 0 0, [], by omega, rfl, rfl, by simp [Ex.sizes], ((Below.refl _ _).alloc (Nat.le_refl _) _).alloc (by simp) _, ?_, ?_, Making.nil _ _ _⟩
    · rw [Below.heap_alloc _ _ _ (by simp)]; exact heap_alloc_at _ _ _ rfl
    · exact heap_alloc_at _ _ _ (by simp)
  case round =>
    obtain ⟨j, sv, es, hj, rfl, hel, hes, hbel, hh0, hh1, ys, hown, hey⟩ := hrel
    have hsz2 : w.heap.size + 1 < wr.heap.size := (Array.getElem?_eq_some_iff.1 hh1).1
    by_cases hlt : j < n / 7 % 4
    · have hlt' : decide ((j : Int) < (n : Int) / 7 % 4) = true := by simp; omega
      have c2 : wr.cell? ⟨w.heap.size + 1, 3, none⟩ = some sv := by rw [cell_of_row wr _ 3 _ _ _ hh1]; rfl
      rw [hel] at hown
      obtain ⟨sa, sc, rfl⟩ := owns_slice hown
      have HH := Lib.hid (And.intro hh0 (And.intro hh1 (And.intro hel (And.intro hes (And.intro hown (And.intro hey hown.lt))))))
      clear hh0 hh1 hel hes hown hey
      go_wp2_with fail
      refine wp_region_tail (w0 := wr) rfl [.eq (.pointer (some ⟨w.heap.size + 1, 3, none⟩)), .eq (.slice sa j sc), .eq (.int .i64 ↑n), .eq (.int .i64 (↑n / 11)), .eq (.int .i64 ↑j), .eq (.int .i64 (↑j * 13)), .eq (.int .i64 (↑n / 11 + ↑j * 13)), .eq (.int .i64 (↑n / 11 + ↑j * 13 + 1)), .eq (.int .i64 x), .eq (.int .i64 (x - 1)), .of (pTreeOf (mdz d)), .of (pTreeRow (mdz d)), .tail, .eq (.pointer (some ⟨w.heap.size + 1, 3, none⟩)), .tail] 12 [14] [13] (by kernel_rfl) ⟨?_, ?_, ?_, ?_, ?_, ?_, ?_, ?_, ?_, ?_, ?_, ?_, ?_, ?_, ?_, trivial⟩ ⟨?_, trivial⟩ [MadeZ 6 d j w es sa sc false, MadeZ 6 d j w es sa sc true] ⟨?_, ?_, trivial⟩ (fun vs => [(67, (.pointer (some ⟨w.heap.size + 1, 3, none⟩))), (68, (.slice sa j sc)), (69, (.int .i64 ↑n)), (70, (.int .i64 (↑n / 11))), (71, (.int .i64 ↑j)), (72, (.int .i64 (↑j * 13))), (73, (.int .i64 (↑n / 11 + ↑j * 13))), (74, (.int .i64 (↑n / 11 + ↑j * 13 + 1))), (75, (.int .i64 x)), (76, (.int .i64 (x - 1))), (77, vs 10), (78, vs 11), (79, vs 12), (80, (.pointer (some ⟨w.heap.size + 1, 3, none⟩)))]) (fun _ => rfl) ?_
      · refine RStep.mk rfl rfl (fun S a wx K Q hR hK => ?_)
        have t5 : a.tmps[5]? = some (.pointer (some ⟨w.heap.size + 1, 0, none⟩)) := (hR.old 5 (by kernel_rfl)).trans (by kernel_rfl)
        go_simp
        exact hK _ _ (Below.refl _ _) rfl
      · refine RStep.mk rfl rfl (fun S a wx K Q hR hK => ?_)
        have t67 := hR.eq 0 (by kernel_rfl) rfl rfl
        have y0 := (hR.bel.cell hsz2).trans c2
        go_simp
        exact hK _ _ (Below.refl _ _) rfl
      · refine RStep.mk rfl rfl (fun S a wx K Q hR hK => ?_)
        have t0 : a.tmps[0]? = some (.int .i64 ↑n) := (hR.old 0 (by kernel_rfl)).trans (by kernel_rfl)
        go_simp
        exact hK _ _ (Below.refl _ _) rfl
      · refine RStep.mk rfl rfl (fun S a wx K Q hR hK => ?_)
        have t69 := hR.eq 2 (by kernel_rfl) rfl rfl
        go_simp
        (try go_ints)
        exact hK _ _ (Below.refl _ _) rfl
      · refine RStep.mk rfl rfl (fun S a wx K Q hR hK => ?_)
        have t6 : a.tmps[6]? = some (.int .i64 ↑j) := (hR.old 6 (by kernel_rfl)).trans (by kernel_rfl)
        go_simp
        exact hK _ _ (Below.refl _ _) rfl
      · refine RStep.mk rfl rfl (fun S a wx K Q hR hK => ?_)
        have t71 := hR.eq 4 (by kernel_rfl) rfl rfl
        go_simp
        (try go_ints)
        exact hK _ _ (Below.refl _ _) rfl
      · refine RStep.mk rfl rfl (fun S a wx K Q hR hK => ?_)
        have t70 := hR.eq 3 (by kernel_rfl) rfl rfl
        have t72 := hR.eq 5 (by kernel_rfl) rfl rfl
        go_simp
        (try go_ints)
        exact hK _ _ (Below.refl _ _) rfl
      · refine RStep.mk rfl rfl (fun S a wx K Q hR hK => ?_)
        have t73 := hR.eq 6 (by kernel_rfl) rfl rfl
        go_simp
        (try go_ints)
        exact hK _ _ (Below.refl _ _) rfl
      · refine RStep.mk rfl rfl (fun S a wx K Q hR hK => ?_)
        have t1 : a.tmps[1]? = some (.int .i64 x) := (hR.old 1 (by kernel_rfl)).trans (by kernel_rfl)
        go_simp
        exact hK _ _ (Below.refl _ _) rfl
      · refine RStep.mk rfl rfl (fun S a wx K Q hR hK => ?_)
        have t75 := hR.eq 8 (by kernel_rfl) rfl rfl
        go_simp
        (try go_ints)
        exact hK _ _ (Below.refl _ _) rfl
      · exact steadyTreeOf _
      · refine RStep.mk rfl rfl (fun S a wx K Q hR hK => ?_)
        have t74 := hR.eq 7 (by kernel_rfl) rfl rfl
        have t76 := hR.eq 9 (by kernel_rfl) rfl rfl
        go_simp
        go_at_call 39
        refine (IH.out _ _ _ (by omega) (by omega) (by have := HX.out; omega) (by omega)).mono ?_
        rintro r w' ⟨⟨e, v', rfl, hs, hv'⟩, hb1⟩
        exact hK _ _ hb1 ⟨e, hs, hv'.wider (fun b _ h => hR.new b h)⟩
      · exact steadyTreeRow _
      · refine RStep.mk rfl rfl (fun S a wx K Q hR hK => ?_)
        obtain ⟨u77, t77, f77⟩ := hR.of 10 (by kernel_rfl) rfl rfl
        obtain ⟨e, hse, hre⟩ := f77; obtain ⟨q0, q1, q2, q3, q4, q5, rfl⟩ := hre.conc
        go_simp
        exact hK _ _ ((Below.refl _ _).alloc (Nat.le_refl _) _) ⟨_, _, e, _, _, _, _, rfl, hR.new _ (Nat.le_refl _), heap_alloc_new _ _, hse, hre.below ((Below.refl _ _).alloc (Nat.le_refl _) _) (Nat.le_refl _)⟩
      · refine PStep.step rfl (PStep.mk rfl rfl (fun a wx K Q hR hK => ?_))
        have t5 : a.tmps[5]? = some (.pointer (some ⟨w.heap.size + 1, 0, none⟩)) := (hR.old 5 (by kernel_rfl)).trans (by kernel_rfl)
        go_simp
        exact hK
      · refine PStep.mk rfl rfl (fun a wx K Q hR hK => ?_)
        have t5 : a.tmps[5]? = some (.pointer (some ⟨w.heap.size + 1, 0, none⟩)) := (hR.old 5 (by kernel_rfl)).trans (by kernel_rfl)
        go_simp
        exact hK
      · refine TStep.mk rfl (fun vs a wx K Q hR hZ hK => ?_)
        have t68 := hR.dep 1 68 (by kernel_rfl) rfl
        rw [hR.eqs 1 _ rfl] at t68
        have t78 := hR.dep 11 78 (by kernel_rfl) rfl
        obtain ⟨hbel2, S, hlow, hof⟩ := hZ
        obtain ⟨g0, T0, e, c0, c1, c2, c3, ev, hSg, hg, hse, hre⟩ := hof 11 _ rfl
        rw [ev] at t78
        obtain ⟨hi0, hz0, hz1, hz2⟩ := HI0.out
        obtain ⟨hh0, hh1, hel, hes, hown, hey, hob⟩ := HH.out
        obtain ⟨cs, hcs, _, hone⟩ := tree_cells hre
        injection hcs with hcs
        subst hcs
        refine wp_append_lies wx (.tmp 68) (.tmp 78) 24 rfl (w.heap.size + 2) 26 i0 _ 4 48 Tryz.underlying24 hi0 hz0 hz1 hz2 rfl (by omega) (.slice sa j sc) j ys (eval_of t68) (ownsRow_below hown hbel2 (Nat.le_refl _)) ⟨g0, 0, none⟩ 1 1 [c0, c1, c2, c3] (eval_of t78) rfl (World.news_of_block hg) hone (by omega) (by unfold maxLen; omega) (by omega) (by have := hbel2.size; omega) wx.heap.size rfl ?_
        intro gg gcap w2 hown2 hgrow hat hlt2
        have hbz := hbel2.size
        have hne : ∀ b, b < w.heap.size + 2 → some b ≠ (Value.slice sa j sc).ownBlock := fun b hb e => by have := hob b e.symm; omega
        refine hK _ _ ⟨gg, gcap, e, upd_self _ _ _, hse, ?_, Below.grown2 (hbel.trans (hbel2.mono (by omega))) hgrow (fun k hk => (hob k hk).1) (by omega) (by omega), ?_, ?_⟩
        · have hm := Making.push2 (es := es) (by rw [hel]; exact hown) hey (by omega) hbel2 (hre.wider (fun b _ h => hlow b h)) hgrow (by rw [hel]; exact hown2) hat
          rw [hel] at hm; exact hm
        · rw [grown_far hgrow (by omega) (hne _ (by omega)), hbel2.block _ (by omega)]; exact hh0
        · rw [grown_far hgrow (by omega) (hne _ (by omega)), hbel2.block _ (by omega)]; exact hh1
      · refine TStep.mk rfl (fun vs a wx K Q hR hZ hK => ?_)
        have t80 := hR.dep 13 80 (by kernel_rfl) rfl
        rw [hR.eqs 13 _ rfl] at t80
        have t79 := hR.dep 12 79 (by kernel_rfl) rfl
        obtain ⟨gg, gcap, e, ev, hse, hm, hb, hh0, hh1⟩ := hZ
        rw [ev] at t79
        have c5 : wx.cell? ⟨w.heap.size + 1, 3, none⟩ = some (.slice sa j sc) := by rw [cell_of_row wx _ 3 _ _ _ hh1]; rfl
        have f5 : wx.frozen? ⟨w.heap.size + 1, 3, none⟩ = false := by rw [frozen_of_row wx _ 3 _ _ hh1]
        have HZ := Lib.hid (And.intro ev (And.intro hse (And.intro hm (And.intro hb (And.intro hh0 hh1)))))
        clear ev hse hm hb hh0 hh1
        go_simp
        obtain ⟨ev, hse, hm, hb, hh0, hh1⟩ := HZ.out
        refine hK undef _ ⟨gg, gcap, e, (upd_ne _ _ (by omega)).trans ev, hse, hm.setCell _ (by simp) _, hb.setCell (by simp) _, ?_, heap_set_at hh1 (by simp)⟩
        rw [Below.heap_setCell _ _ _ _ (by simp)]; exact hh0
      intro vs wN hE hZ
      obtain ⟨gg, gcap, e, ev, hse, hm, hb, hh0, hh1⟩ := hZ
      obtain ⟨_, _, hel, hes, _⟩ := HH.out
      have HR := Lib.hid (And.intro hse (And.intro hm (And.intro hb (And.intro hh0 (And.intro hh1 (And.intro hel hes))))))
      simp only [ev, putsL, List.foldl_cons, List.foldl_nil]
      clear hE ev hse hm hb hh0 hh1 hel hes
      generalize vs 10 = v10
      generalize vs 11 = v11
      go_simp
      go_wp2_with fail
      go_roundw
      case rel =>
        obtain ⟨hse, hm, hb, hh0, hh1, hel, hes⟩ := HR.out
        exact ⟨j + 1, _, es ++ [e], by omega, by go_num, by simp [hel], by rw [Ex.sizes_append]; simp only [Ex.sizes]; rw [Nat.add_mul]; omega, hb, hh0, hh1, hm⟩
      case measure => simp [intOf]; omega
    · have hlt' : decide ((j : Int) < (n : Int) / 7 % 4) = false := by simp; omega
      obtain ⟨sa, sc, rfl⟩ := owns_slice hown
      obtain ⟨zs, hz1, hz2⟩ := Making.sl ⟨ys, hown, hey⟩
      have e0 : wr.cell? ⟨w.heap.size + 1, 0, none⟩ = some (.int .i64 6) := by rw [cell_of_row wr _ 0 _ _ _ hh1]; rfl
      have e1 : wr.cell? ⟨w.heap.size + 1, 1, none⟩ = some (.int .u64 0) := by rw [cell_of_row wr _ 1 _ _ _ hh1]; rfl
      have e2 : wr.cell? ⟨w.heap.size + 1, 2, none⟩ = some (.int .u64 0) := by rw [cell_of_row wr _ 2 _ _ _ hh1]; rfl
      have e3 : wr.cell? ⟨w.heap.size + 1, 3, none⟩ = some (.slice sa es.length sc) := by rw [cell_of_row wr _ 3 _ _ _ hh1]; rfl
      have HZ := Lib.hid (And.intro hz1 (And.intro hz2 (And.intro hh0 (And.intro hbel (And.intro hel hes)))))
      clear hh0 hh1 hz1 hz2 hown hey hel hes
      go_wp2_with (refine wpList_store_row rfl 26 (.tmp 4) (.tmp 81) rfl rfl (w.heap.size) rfl _ rfl 26 #[.int .i64 0, .int .u64 0, .int .u64 0, .slice none 0 0] HZ.out.2.2.1 (by kernel_rfl) rfl (by simp [Value.oneCell']) ?_)
      obtain ⟨hz1, hz2, hh0, hbel', hel, hes⟩ := HZ.out
      refine bodyPost_ret (v := .agg #[.int .i64 6, .int .u64 (0 : Int), .int .u64 (0 : Int), .slice sa es.length sc]) (results_cell_row rfl _ _ (w.heap.size) 26 _ _ _ rfl (setRow_heap _ _ _ _ _ _ hh0) Tryz.underlying26 rfl (by kernel_rfl)) rfl
        ⟨⟨.mk 6 0 0 es, _, rfl, ?_, ?_⟩, below_setRow hbel' _ _ (Nat.le_refl _)⟩
      · have h3 : j * mdz d ≤ 3 * mdz d := Nat.mul_le_mul_right _ hj
        simp only [Ex.size, mdz]; omega
      · have hkeep : Keeps (fun b => w.heap.size + 2 ≤ b) wr (wr.setRow w.heap.size #[.int .i64 6, .int .u64 0, .int .u64 0, .slice sa es.length sc]) := fun b hb _ => setRow_other _ _ _ _ (by omega)
        simp only [RepE]
        exact ⟨_, zs, rfl, by omega, by omega, by omega, by omega, hz1.keep (by omega) hkeep (fun _ _ h => by omega), RepEs.keep hkeep (fun _ _ h => by omega) hz2⟩
set_option maxHeartbeats 4000000 in
set_option maxRecDepth 100000 in
theorem made_6 (d : Nat) (hd : d + 1 ≤ 3) (ih : MadeAt d) (n x : Int) (w : World) (h0 : 0 ≤ n) (h1 : n ≤ 999000) (hr : n % 7 = 6) (hx : x = ((d + 1 : Nat) : Int)) : Calls Tryz.prog 39 #[.int .i64 n, .int .i64 x] w (MadeIs (d + 1) w) := by
  obtain ⟨n, rfl⟩ := Int.eq_ofNat_of_zero_le h0
  have hx0 : 0 < x := by omega
  have hx1 : x ≤ 3 := by omega
  have hx2 : decide ((0 : Int) < x) = true := by simp; omega
  have HX := Lib.hid hx
  have IH := Lib.hid ih
  obtain ⟨i0, hi0, hz0, hz1, hz2⟩ := info_parts infoPred
  have HI0 := Lib.hid (And.intro hi0 (And.intro hz0 (And.intro hz1 hz2)))
  clear hx ih hi0 hz0 hz1 hz2
  go_enter Tryz.func39, Tryz.ntmps39
  go_wp2_with fail
  go_loopw [6] (MadeRel 7 d w) (fun i _ => 4 - (intOf i).toNat)
  case atStart =>
    refine ⟨0, .slice none 0 0, [], by omega, rfl, rfl, by simp [Ex.sizes], ((Below.refl _ _).alloc (Nat.le_refl _) _).alloc (by simp) _, ?_, ?_, Making.nil _ _ _⟩
    · rw [Below.heap_alloc _ _ _ (by simp)]; exact heap_alloc_at _ _ _ rfl
    · exact heap_alloc_at _ _ _ (by simp)
  case round =>
    obtain ⟨j, sv, es, hj, rfl, hel, hes, hbel, hh0, hh1, ys, hown, hey⟩ := hrel
    have hsz2 : w.heap.size + 1 < wr.heap.size := (Array.getElem?_eq_some_iff.1 hh1).1
    by_cases hlt : j < n / 7 % 4
    · have hlt' : decide ((j : Int) < (n : Int) / 7 % 4) = true := by simp; omega
      have c2 : wr.cell? ⟨w.heap.size + 1, 3, none⟩ = some sv := by rw [cell_of_row wr _ 3 _ _ _ hh1]; rfl
      rw [hel] at hown
      obtain ⟨sa, sc, rfl⟩ := owns_slice hown
      have HH := Lib.hid (And.intro hh0 (And.intro hh1 (And.intro hel (And.intro hes (And.intro hown (And.intro hey hown.lt))))))
      clear hh0 hh1 hel hes hown hey
      go_wp2_with fail
      refine wp_region_tail (w0 := wr) rfl [.eq (.pointer (some ⟨w.heap.size + 1, 3, none⟩)), .eq (.slice sa j sc), .eq (.int .i64 ↑n), .eq (.int .i64 (↑n / 11)), .eq (.int .i64 ↑j), .eq (.int .i64 (↑j * 13)), .eq (.int .i64 (↑n / 11 + ↑j * 13)), .eq (.int .i64 (↑n / 11 + ↑j * 13 + 1)), .eq (.int .i64 x), .eq (.int .i64 (x - 1)), .of (pTreeOf (mdz d)), .of (pTreeRow (mdz d)), .tail, .eq (.pointer (some ⟨w.heap.size + 1, 3, none⟩)), .tail] 12 [14] [13] (by kernel_rfl) ⟨?_, ?_, ?_, ?_, ?_, ?_, ?_, ?_, ?_, ?_, ?_, ?_, ?_, ?_, ?_, trivial⟩ ⟨?_, trivial⟩ [MadeZ 7 d j w es sa sc false, MadeZ 7 d j w es sa sc true] ⟨?_, ?_, trivial⟩ (fun vs => [(67, (.pointer (some ⟨w.heap.size + 1, 3, none⟩))), (68, (.slice sa j sc)), (69, (.int .i64 ↑n)), (70, (.int .i64 (↑n / 11))), (71, (.int .i64 ↑j)), (72, (.int .i64 (↑j * 13))), (73, (.int .i64 (↑n / 11 + ↑j * 13))), (74, (.int .i64 (↑n / 11 + ↑j * 13 + 1))), (75, (.int .i64 x)), (76, (.int .i64 (x - 1))), (77, vs 10), (78, vs 11), (79, vs 12), (80, (.pointer (some ⟨w.heap.size + 1, 3, none⟩)))]) (fun _ => rfl) ?_
      · refine RStep.mk rfl rfl (fun S a wx K Q hR hK => ?_)
        have t5 : a.tmps[5]? = some (.pointer (some ⟨w.heap.size + 1, 0, none⟩)) := (hR.old 5 (by kernel_rfl)).trans (by kernel_rfl)
        go_simp
        exact hK _ _ (Below.refl _ _) rfl
      · refine RStep.mk rfl rfl (fun S a wx K Q hR hK => ?_)
        have t67 := hR.eq 0 (by kernel_rfl) rfl rfl
        have y0 := (hR.bel.cell hsz2).trans c2
        go_simp
        exact hK _ _ (Below.refl _ _) rfl
      · refine RStep.mk rfl rfl (fun S a wx K Q hR hK => ?_)
        have t0 : a.tmps[0]? = some (.int .i64 ↑n) := (hR.old 0 (by kernel_rfl)).trans (by kernel_rfl)
        go_simp
        exact hK _ _ (Below.refl _ _) rfl
      · refine RStep.mk rfl rfl (fun S a wx K Q hR hK => ?_)
        have t69 := hR.eq 2 (by kernel_rfl) rfl rfl
        go_simp
        (try go_ints)
        exact hK _ _ (Below.refl _ _) rfl
      · refine RStep.mk rfl rfl (fun S a wx K Q hR hK => ?_)
        have t6 : a.tmps[6]? = some (.int .i64 ↑j) := (hR.old 6 (by kernel_rfl)).trans (by kernel_rfl)
        go_simp
        exact hK _ _ (Below.refl _ _) rfl
      · refine RStep.mk rfl rfl (fun S a wx K Q hR hK => ?_)
        have t71 := hR.eq 4 (by kernel_rfl) rfl rfl
        go_simp
        (try go_ints)
        exact hK _ _ (Below.refl _ _) rfl
      · refine RStep.mk rfl rfl (fun S a wx K Q hR hK => ?_)
        have t70 := hR.eq 3 (by kernel_rfl) rfl rfl
        have t72 := hR.eq 5 (by kernel_rfl) rfl rfl
        go_simp
        (try go_ints)
        exact hK _ _ (Below.refl _ _) rfl
      · refine RStep.mk rfl rfl (fun S a wx K Q hR hK => ?_)
        have t73 := hR.eq 6 (by kernel_rfl) rfl rfl
        go_simp
        (try go_ints)
        exact hK _ _ (Below.refl _ _) rfl
      · refine RStep.mk rfl rfl (fun S a wx K Q hR hK => ?_)
        have t1 : a.tmps[1]? = some (.int .i64 x) := (hR.old 1 (by kernel_rfl)).trans (by kernel_rfl)
        go_simp
        exact hK _ _ (Below.refl _ _) rfl
      · refine RStep.mk rfl rfl (fun S a wx K Q hR hK => ?_)
        have t75 := hR.eq 8 (by kernel_rfl) rfl rfl
        go_simp
        (try go_ints)
        exact hK _ _ (Below.refl _ _) rfl
      · exact steadyTreeOf _
      · refine RStep.mk rfl rfl (fun S a wx K Q hR hK => ?_)
        have t74 := hR.eq 7 (by kernel_rfl) rfl rfl
        have t76 := hR.eq 9 (by kernel_rfl) rfl rfl
        go_simp
        go_at_call 39
        refine (IH.out _ _ _ (by omega) (by omega) (by have := HX.out; omega) (by omega)).mono ?_
        rintro r w' ⟨⟨e, v', rfl, hs, hv'⟩, hb1⟩
        exact hK _ _ hb1 ⟨e, hs, hv'.wider (fun b _ h => hR.new b h)⟩
      · exact steadyTreeRow _
      · refine RStep.mk rfl rfl (fun S a wx K Q hR hK => ?_)
        obtain ⟨u77, t77, f77⟩ := hR.of 10 (by kernel_rfl) rfl rfl
        obtain ⟨e, hse, hre⟩ := f77; obtain ⟨q0, q1, q2, q3, q4, q5, rfl⟩ := hre.conc
        go_simp
        exact hK _ _ ((Below.refl _ _).alloc (Nat.le_refl _) _) ⟨_, _, e, _, _, _, _, rfl, hR.new _ (Nat.le_refl _), heap_alloc_new _ _, hse, hre.below ((Below.refl _ _).alloc (Nat.le_refl _) _) (Nat.le_refl _)⟩
      · refine PStep.step rfl (PStep.mk rfl rfl (fun a wx K Q hR hK => ?_))
        have t5 : a.tmps[5]? = some (.pointer (some ⟨w.heap.size + 1, 0, none⟩)) := (hR.old 5 (by kernel_rfl)).trans (by kernel_rfl)
        go_simp
        exact hK
      · refine PStep.mk rfl rfl (fun a wx K Q hR hK => ?_)
        have t5 : a.tmps[5]? = some (.pointer (some ⟨w.heap.size + 1, 0, none⟩)) := (hR.old 5 (by kernel_rfl)).trans (by kernel_rfl)
        go_simp
        exact hK
      · refine TStep.mk rfl (fun vs a wx K Q hR hZ hK => ?_)
        have t68 := hR.dep 1 68 (by kernel_rfl) rfl
        rw [hR.eqs 1 _ rfl] at t68
        have t78 := hR.dep 11 78 (by kernel_rfl) rfl
        obtain ⟨hbel2, S, hlow, hof⟩ := hZ
        obtain ⟨g0, T0, e, c0, c1, c2, c3, ev, hSg, hg, hse, hre⟩ := hof 11 _ rfl
        rw [ev] at t78
        obtain ⟨hi0, hz0, hz1, hz2⟩ := HI0.out
        obtain ⟨hh0, hh1, hel, hes, hown, hey, hob⟩ := HH.out
        obtain ⟨cs, hcs, _, hone⟩ := tree_cells hre
        injection hcs with hcs
        subst hcs
        refine wp_append_lies wx (.tmp 68) (.tmp 78) 24 rfl (w.heap.size + 2) 26 i0 _ 4 48 Tryz.underlying24 hi0 hz0 hz1 hz2 rfl (by omega) (.slice sa j sc) j ys (eval_of t68) (ownsRow_below hown hbel2 (Nat.le_refl _)) ⟨g0, 0, none⟩ 1 1 [c0, c1, c2, c3] (eval_of t78) rfl (World.news_of_block hg) hone (by omega) (by unfold maxLen; omega) (by omega) (by have := hbel2.size; omega) wx.heap.size rfl ?_
        intro gg gcap w2 hown2 hgrow hat hlt2
        have hbz := hbel2.size
        have hne : ∀ b, b < w.heap.size + 2 → some b ≠ (Value.slice sa j sc).ownBlock := fun b hb e => by have := hob b e.symm; omega
        refine hK _ _ ⟨gg, gcap, e, upd_self _ _ _, hse, ?_, Below.grown2 (hbel.trans (hbel2.mono (by omega))) hgrow (fun k hk => (hob k hk).1) (by omega) (by omega), ?_, ?_⟩
        · have hm := Making.push2 (es := es) (by rw [hel]; exact hown) hey (by omega) hbel2 (hre.wider (fun b _ h => hlow b h)) hgrow (by rw [hel]; exact hown2) hat
          rw [hel] at hm; exact hm
        · rw [grown_far hgrow (by omega) (hne _ (by omega)), hbel2.block _ (by omega)]; exact hh0
        · rw [grown_far hgrow (by omega) (hne _ (by omega)), hbel2.block _ (by omega)]; exact hh1
      · refine TStep.mk rfl (fun vs a wx K Q hR hZ hK => ?_)
        have t80 := hR.dep 13 80 (by kernel_rfl) rfl
        rw [hR.eqs 13 _ rfl] at t80
        have t79 := hR.dep 12 79 (by kernel_rfl) rfl
        obtain ⟨gg, gcap, e, ev, hse, hm, hb, hh0, hh1⟩ := hZ
        rw [ev] at t79
        have c5 : wx.cell? ⟨w.heap.size + 1, 3, none⟩ = some (.slice sa j sc) := by rw [cell_of_row wx _ 3 _ _ _ hh1]; rfl
        have f5 : wx.frozen? ⟨w.heap.size + 1, 3, none⟩ = false := by rw [frozen_of_row wx _ 3 _ _ hh1]
        have HZ := Lib.hid (And.intro ev (And.intro hse (And.intro hm (And.intro hb (And.intro hh0 hh1)))))
        clear ev hse hm hb hh0 hh1
        go_simp
        obtain ⟨ev, hse, hm, hb, hh0, hh1⟩ := HZ.out
        refine hK undef _ ⟨gg, gcap, e, (upd_ne _ _ (by omega)).trans ev, hse, hm.setCell _ (by simp) _, hb.setCell (by simp) _, ?_, heap_set_at hh1 (by simp)⟩
        rw [Below.heap_setCell _ _ _ _ (by simp)]; exact hh0
      intro vs wN hE hZ
      obtain ⟨gg, gcap, e, ev, hse, hm, hb, hh0, hh1⟩ := hZ
      obtain ⟨_, _, hel, hes, _⟩ := HH.out
      have HR := Lib.hid (And.intro hse (And.intro hm (And.intro hb (And.intro hh0 (And.intro hh1 (And.intro hel hes))))))
      simp only [ev, putsL, List.foldl_cons, List.foldl_nil]
      clear hE ev hse hm hb hh0 hh1 hel hes
      generalize vs 10 = v10
      generalize vs 11 = v11
      go_simp
      go_wp2_with fail
      go_roundw
      case rel =>
        obtain ⟨hse, hm, hb, hh0, hh1, hel, hes⟩ := HR.out
        exact ⟨j + 1, _, es ++ [e], by omega, by go_num, by simp [hel], by rw [Ex.sizes_append]; simp only [Ex.sizes]; rw [Nat.add_mul]; omega, hb, hh0, hh1, hm⟩
      case measure => simp [intOf]; omega
    · have hlt' : decide ((j : Int) < (n : Int) / 7 % 4) = false := by simp; omega
      obtain ⟨sa, sc, rfl⟩ := owns_slice hown
      obtain ⟨zs, hz1, hz2⟩ := Making.sl ⟨ys, hown, hey⟩
      have e0 : wr.cell? ⟨w.heap.size + 1, 0, none⟩ = some (.int .i64 7) := by rw [cell_of_row wr _ 0 _ _ _ hh1]; rfl
      have e1 : wr.cell? ⟨w.heap.size + 1, 1, none⟩ = some (.int .u64 0) := by rw [cell_of_row wr _ 1 _ _ _ hh1]; rfl
      have e2 : wr.cell? ⟨w.heap.size + 1, 2, none⟩ = some (.int .u64 0) := by rw [cell_of_row wr _ 2 _ _ _ hh1]; rfl
      have e3 : wr.cell? ⟨w.heap.size + 1, 3, none⟩ = some (.slice sa es.length sc) := by rw [cell_of_row wr _ 3 _ _ _ hh1]; rfl
      have HZ := Lib.hid (And.intro hz1 (And.intro hz2 (And.intro hh0 (And.intro hbel (And.intro hel hes)))))
      clear hh0 hh1 hz1 hz2 hown hey hel hes
      go_wp2_with (refine wpList_store_row rfl 26 (.tmp 4) (.tmp 81) rfl rfl (w.heap.size) rfl _ rfl 26 #[.int .i64 0, .int .u64 0, .int .u64 0, .slice none 0 0] HZ.out.2.2.1 (by kernel_rfl) rfl (by simp [Value.oneCell']) ?_)
      obtain ⟨hz1, hz2, hh0, hbel', hel, hes⟩ := HZ.out
      refine bodyPost_ret (v := .agg #[.int .i64 7, .int .u64 (0 : Int), .int .u64 (0 : Int), .slice sa es.length sc]) (results_cell_row rfl _ _ (w.heap.size) 26 _ _ _ rfl (setRow_heap _ _ _ _ _ _ hh0) Tryz.underlying26 rfl (by kernel_rfl)) rfl
        ⟨⟨.mk 7 0 0 es, _, rfl, ?_, ?_⟩, below_setRow hbel' _ _ (Nat.le_refl _)⟩
      · have h3 : j * mdz d ≤ 3 * mdz d := Nat.mul_le_mul_right _ hj
        simp only [Ex.size, mdz]; omega
      · have hkeep : Keeps (fun b => w.heap.size + 2 ≤ b) wr (wr.setRow w.heap.size #[.int .i64 7, .int .u64 0, .int .u64 0, .slice sa es.length sc]) := fun b hb _ => setRow_other _ _ _ _ (by omega)
        simp only [RepE]
        exact ⟨_, zs, rfl, by omega, by omega, by omega, by omega, hz1.keep (by omega) hkeep (fun _ _ h => by omega), RepEs.keep hkeep (fun _ _ h => by omega) hz2⟩
set_option maxHeartbeats 2000000 in
set_option maxRecDepth 100000 in
theorem made_z (n : Int) (w : World) (h0 : 0 ≤ n) (h1 : n ≤ 999000) (i k : Int) (hi : (i = 5 ∧ k = 6) ∨ (i = 6 ∧ k = 7)) (hr : n % 7 = i) : Calls Tryz.prog 39 #[.int .i64 n, .int .i64 0] w (MadeIs 0 w) := by
  obtain ⟨n, rfl⟩ := Int.eq_ofNat_of_zero_le h0
  rcases hi with ⟨rfl, rfl⟩ | ⟨rfl, rfl⟩
  all_goals
    go_enter Tryz.func39, Tryz.ntmps39
    go_wp2_with fail
    go_loopw [6] (fun i wr => i = .int .i64 0 ∧ wr = ((w.alloc (.cells #[.int .i64 0, .int .u64 0, .int .u64 0, .slice none 0 0] 26)).alloc (.cells #[.int .i64 _, .int .u64 0, .int .u64 0, .slice none 0 0] 26))) (fun i _ => 0)
    case atStart => exact ⟨rfl, rfl⟩
    case round =>
      obtain ⟨rfl, rfl⟩ := hrel
      go_wp2_with fail
      all_goals exact bodyPost_ret (v := .agg #[.int .i64 _, .int .u64 ((0 : Nat) : Int), .int .u64 ((0 : Nat) : Int), .slice none 0 0]) (by simp [results, Tryz.results39, go_sem]; first | rfl | skip) rfl (made_leaf _ 0 0 (by omega) (by omega) (by omega) (((Below.refl _ _).alloc (Nat.le_refl _) _).alloc (by simp) _))
theorem made_at (d : Nat) : MadeAt d := by
  induction d with
  | zero =>
    intro n x w h0 h1 hx hd
    obtain rfl : x = 0 := by omega
    rcases (by omega : n % 7 = 0 ∨ n % 7 = 1 ∨ n % 7 = 2 ∨ n % 7 = 3 ∨ n % 7 = 4 ∨ n % 7 = 5 ∨ n % 7 = 6) with h | h | h | h | h | h | h
    · exact made_0 0 n 0 w h0 (by omega) h
    · exact made_1 0 n 0 w h0 (by omega) h
    · exact made_2 0 n 0 w h0 (by omega) h
    · exact made_3 0 n 0 w h0 (by omega) h
    · exact made_4z 0 n 0 w h0 (by omega) h rfl
    · exact made_z n w h0 h1 5 6 (.inl ⟨rfl, rfl⟩) h
    · exact made_z n w h0 h1 6 7 (.inr ⟨rfl, rfl⟩) h
  | succ d ih =>
    intro n x w h0 h1 hx hd
    rcases (by omega : n % 7 = 0 ∨ n % 7 = 1 ∨ n % 7 = 2 ∨ n % 7 = 3 ∨ n % 7 = 4 ∨ n % 7 = 5 ∨ n % 7 = 6) with h | h | h | h | h | h | h
    · exact made_0 _ n x w h0 (by omega) h
    · exact made_1 _ n x w h0 (by omega) h
    · exact made_2 _ n x w h0 (by omega) h
    · exact made_3 _ n x w h0 (by omega) h
    · exact made_4 d hd ih n x w h0 (by omega) h hx
    · exact made_5 d hd ih n x w h0 h1 h hx
    · exact made_6 d hd ih n x w h0 h1 h hx
theorem mdz_le {d : Nat} (h : d ≤ 3) : mdz d ≤ 40 := by
  rcases (by omega : d = 0 ∨ d = 1 ∨ d = 2 ∨ d = 3) with rfl | rfl | rfl | rfl <;> decide
/-- A predicate by a number is some tree. -/
theorem made_any (d : Nat) (n x : Int) (w : World) (h0 : 0 ≤ n) (h1 : n ≤ 999000) (hx0 : 0 ≤ x) (hx : x ≤ 3) :
    Calls Tryz.prog 39 #[.int .i64 n, .int .i64 x] w fun r w' => (∃ e v', r = .returned v' ∧ e.size ≤ 40 ∧ RepE w' (fun b => w.heap.size ≤ b) true e v') ∧ Below w.heap.size w w' :=
  (made_at x.toNat n x w h0 h1 (by omega) (by omega)).mono fun r w' ⟨⟨e, v', h2, h3, h4⟩, h5⟩ => ⟨⟨e, v', h2, Nat.le_trans h3 (mdz_le (by omega)), h4⟩, h5⟩
end Go.Proofs.YtohjkejdkhdjbaaGreatDoor
