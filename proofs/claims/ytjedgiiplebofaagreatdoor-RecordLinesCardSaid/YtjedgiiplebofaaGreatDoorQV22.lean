/- Walks: the reference's version of a text, a version's text, and whether a record is right. -/
import Derived.Test.YtjedgiiplebofaaGreatDoorQV20
import Derived.Test.YtjedgiiplebofaaGreatDoorQ26
import Derived.Test.YtjedgiiplebofaaGreatDoorQ30
import Derived.Deep.RegionLaw
import Derived.Laws.Rows
import Derived.BigQuiet
import Derived.Deep.QuietTactic
namespace Go.Proofs.YtjedgiiplebofaaGreatDoor
open Go.RowKit Go
set_option linter.unusedVariables false
set_option linter.unusedSimpArgs false
/-- A block of the call's own, written once. -/
structure StZ (g : Nat) (T : TypeId) (V : World) (c0 c1 : Array Value) (t : Nat) (vs : Nat → Value) (w : World) : Prop where
  rg : Rg g V w
  hh : w.heap[g]? = some (.cells (if t = 0 then c0 else c1) T (0, 0))
theorem StZ.at {g : Nat} {T : TypeId} {V : World} {c0 c1 : Array Value} {vs : Nat → Value} {w : World} (h : StZ g T V c0 c1 0 vs w) : w.heap[g]? = some (.cells c0 T (0, 0)) := h.hh
theorem owns_cells {w : World} {base : Nat} {e : TypeId} {v : Value} {xs : List Value} {n : Nat} (h : w.ownsRow base e 1 v n xs) (hn : 0 < n) :
    ∃ g cap, v = .slice (some ⟨g, 0, none⟩) n cap ∧ base ≤ g ∧ g < w.heap.size ∧ ∀ k x, xs[k]? = some x → w.cell? ⟨g, k, none⟩ = some x := by
  obtain ⟨hl, h⟩ := h
  rcases h with ⟨h, h2⟩ | ⟨g, cap, cur, hv, hb, hg, hn2, hm, hs, ht⟩
  · omega
  · refine ⟨g, cap, hv, hb, (Array.getElem?_eq_some_iff.1 hg).1, fun k x hk => ?_⟩
    rw [cell_of_row w _ _ _ _ _ hg]
    have hkl := (List.getElem?_eq_some_iff.1 hk).1
    rw [← ht, List.getElem?_take, if_pos (by omega)] at hk
    simpa using hk
theorem verV_two {s a b : List UInt8} (h : cuts 46 s = [a, b]) : verV s = (valW a, valW b) := by unfold verV; rw [h]
theorem verV_other {s : List UInt8} (h : (cuts 46 s).length ≠ 2) : verV s = (0, 0) := by
  unfold verV
  split
  · rename_i a b hc; rw [hc] at h; simp at h
  · rfl
set_option maxHeartbeats 1000000 in
set_option maxRecDepth 100000 in
theorem refVersion_any (s : ByteArray) (w : World) (hs : s.size ≤ 100000) : Calls Tryz.prog 87 #[.string s] w fun e w' => e = .returned (.agg #[.int .u64 ((verV s.data.toList).1 : Nat), .int .u64 ((verV s.data.toList).2 : Nat)]) ∧ Below w.heap.size w w' := by
  have hb0 : Below w.heap.size w (w.alloc (.cells #[.int .u64 0, .int .u64 0] 35)) := (Below.refl _ _).alloc (Nat.le_refl _) _
  have hMem := cuts_mem_length 46 s.data.toList
  rw [ba_size] at hMem
  go_enter Tryz.func87, Tryz.ntmps87
  go_wp2_with fail
  refine (refCuts_any 46 s _ hs).mono ?_
  rintro e W1 ⟨v, rfl, hown, hb1⟩
  have hz1 := hb1.size
  simp only [World.size_alloc] at hz1 hown
  have hrb : W1.heap[w.heap.size]? = some (.cells #[.int .u64 0, .int .u64 0] 35 (0, 0)) := (hb1.block _ (by simp)).trans (heap_alloc_at _ _ _ rfl)
  have hB : Below w.heap.size w W1 := hb0.trans (hb1.mono (by simp))
  obtain ⟨sa, sc, rfl⟩ := owns_slice hown
  by_cases h2 : (cuts 46 s.data.toList).length = 2
  · obtain ⟨a, b, hab⟩ := two_of h2
    have ha : a.length ≤ 1000000 := by have := hMem a (by rw [hab]; simp); omega
    have hb : b.length ≤ 1000000 := by have := hMem b (by rw [hab]; simp); omega
    have hV := verV_two hab
    have hown2 := hown
    rw [hab] at hown2 ⊢
    obtain ⟨gg, gc, hv, hgb, hgl, hcell⟩ := owns_cells hown2 (by simp)
    have c0 := hcell 0 _ rfl
    have c1 := hcell 1 _ rfl
    have hne : gg ≠ w.heap.size := by omega
    rw [hv]
    have HC := Lib.hid (And.intro c0 c1)
    have HB := Lib.hid (And.intro hB hrb)
    have hZ0 : StZ w.heap.size 35 W1 #[.int .u64 0, .int .u64 0] #[.int .u64 (valW a : Nat), .int .u64 (valW b : Nat)] 0 (fun _ => undef) W1.drew := ⟨Rg.of_below (Below.refl _ _).drew, hrb⟩
    have HZ0 := Lib.hid hZ0
    have HVV := Lib.hid hV
    clear hown hown2 hab hMem h2 hb0 hb1 hrb hB c0 c1 hcell hv hV hZ0
    simp only [List.length_cons, List.length_nil, Nat.zero_add]
    go_wp2_with fail
    refine wp_region_cv (w0 := W1) rfl [.eq (.slice (some ⟨gg, 0, none⟩) 2 gc), .eq (.pointer (some ⟨gg, 0, none⟩)), .eq (.string ⟨a.toArray⟩), .eq (.int .u64 (valW a : Nat)), .eq (.slice (some ⟨gg, 0, none⟩) 2 gc), .eq (.pointer (some ⟨gg, 1, none⟩)), .eq (.string ⟨b.toArray⟩), .eq (.int .u64 (valW b : Nat)), .eq (.agg #[.int .u64 (valW a : Nat), .int .u64 (valW b : Nat)]), .wr] (StZ w.heap.size 35 W1 #[.int .u64 0, .int .u64 0] #[.int .u64 (valW a : Nat), .int .u64 (valW b : Nat)]) (by kernel_rfl) (⟨fun _ => undef, HZ0.out⟩) ⟨?_, ?_, ?_, ?_, ?_, ?_, ?_, ?_, ?_, ?_, trivial⟩ (fun vs => [(10, .slice (some ⟨gg, 0, none⟩) 2 gc), (11, .pointer (some ⟨gg, 0, none⟩)), (12, .string ⟨a.toArray⟩), (13, .int .u64 (valW a : Nat)), (14, .slice (some ⟨gg, 0, none⟩) 2 gc), (15, .pointer (some ⟨gg, 1, none⟩)), (16, .string ⟨b.toArray⟩), (17, .int .u64 (valW b : Nat)), (18, .agg #[.int .u64 (valW a : Nat), .int .u64 (valW b : Nat)])]) (fun _ => rfl) 1 (by kernel_rfl) ?_
    · refine CPure.mk rfl rfl (fun t vs ac wx K Q hR hZ hK => ?_)
      have t3 : ac.tmps[3]? = some (.slice (some ⟨gg, 0, none⟩) 2 gc) := (hR.old 3 (by kernel_rfl)).trans (by kernel_rfl)
      go_simp
      exact hK _ hZ
    · refine CPure.mk rfl rfl (fun t vs ac wx K Q hR hZ hK => ?_)
      have t10 := hR.eq 0 (by kernel_rfl) rfl rfl
      go_simp
      exact hK _ hZ
    · refine CPure.mk rfl rfl (fun t vs ac wx K Q hR hZ hK => ?_)
      have t11 := hR.eq 1 (by kernel_rfl) rfl rfl
      have y0 := hZ.rg.cell HC.out.1 hne
      go_simp
      exact hK _ hZ
    · refine CPure.mk rfl rfl (fun t vs ac wx K Q hR hZ hK => ?_)
      have t12 := hR.eq 2 (by kernel_rfl) rfl rfl
      go_simp
      go_at_call 86
      refine (refValue_any ⟨a.toArray⟩ _ (by rw [← ba_size]; simpa using ha)).mono ?_
      rintro e w' ⟨rfl, rfl⟩
      exact hK _ hZ
    · refine CPure.mk rfl rfl (fun t vs ac wx K Q hR hZ hK => ?_)
      have t3 : ac.tmps[3]? = some (.slice (some ⟨gg, 0, none⟩) 2 gc) := (hR.old 3 (by kernel_rfl)).trans (by kernel_rfl)
      go_simp
      exact hK _ hZ
    · refine CPure.mk rfl rfl (fun t vs ac wx K Q hR hZ hK => ?_)
      have t14 := hR.eq 4 (by kernel_rfl) rfl rfl
      go_simp
      exact hK _ hZ
    · refine CPure.mk rfl rfl (fun t vs ac wx K Q hR hZ hK => ?_)
      have t15 := hR.eq 5 (by kernel_rfl) rfl rfl
      have y0 := hZ.rg.cell HC.out.2 hne
      go_simp
      exact hK _ hZ
    · refine CPure.mk rfl rfl (fun t vs ac wx K Q hR hZ hK => ?_)
      have t16 := hR.eq 6 (by kernel_rfl) rfl rfl
      go_simp
      go_at_call 86
      refine (refValue_any ⟨b.toArray⟩ _ (by rw [← ba_size]; simpa using hb)).mono ?_
      rintro e w' ⟨rfl, rfl⟩
      exact hK _ hZ
    · refine CPure.mk rfl rfl (fun t vs ac wx K Q hR hZ hK => ?_)
      have t13 := hR.eq 3 (by kernel_rfl) rfl rfl
      have t17 := hR.eq 7 (by kernel_rfl) rfl rfl
      go_simp
      exact hK _ hZ
    · refine CWrite.mk rfl rfl (fun vs ac wx K Q hR hZ hK => ?_)
      have t2 : ac.tmps[2]? = some (.pointer (some ⟨w.heap.size, 0, none⟩)) := (hR.old 2 (by kernel_rfl)).trans (by kernel_rfl)
      have t18 := hR.eq 8 (by kernel_rfl) rfl rfl
      have hh := hZ.at
      have f0 : wx.frozen? ⟨w.heap.size, 0, none⟩ = false := by rw [frozen_of_row wx _ 0 _ _ hh]
      have f1 : wx.frozen? ⟨w.heap.size, 1, none⟩ = false := by rw [frozen_of_row wx _ 1 _ _ hh]
      have c0 : wx.cell? ⟨w.heap.size, 0, none⟩ = some (.int .u64 0) := by rw [cell_of_row wx _ 0 _ _ _ hh]; rfl
      have c1 : wx.cell? ⟨w.heap.size, 1, none⟩ = some (.int .u64 0) := by rw [cell_of_row wx _ 1 _ _ _ hh]; rfl
      go_simp
      exact hK undef _ nofun ⟨(hZ.rg.setCell _ _).setCell _ _, heap_set_at (heap_set_at hh rfl) rfl⟩
    intro vs wN hZ
    have HZ := Lib.hid (And.intro hZ.hh (hZ.rg.below (by omega)))
    simp only [putsL, List.foldl_cons, List.foldl_nil]
    clear hZ
    go_simp
    go_wp2_with fail
    exact bodyPost_ret (v := .agg #[.int .u64 (valW a : Nat), .int .u64 (valW b : Nat)]) (results_cell_row rfl _ _ w.heap.size 35 _ _ _ rfl HZ.out.1 Tryz.underlying35 rfl (by kernel_rfl)) rfl ⟨by rw [HVV.out], HB.out.1.trans HZ.out.2⟩
  · have t1 : (((cuts 46 s.data.toList).length : Int) != 2) = true := by simp; omega
    have HV := Lib.hid (verV_other h2)
    have HB := Lib.hid (And.intro hB hrb)
    clear hown hMem h2 hb0 hb1 hrb hB
    go_wp2_with (refine wpList_store_row rfl 35 (.tmp 2) (.tmp 9) rfl rfl w.heap.size rfl _ rfl 35 _ HB.out.2 (by kernel_rfl) rfl (by simp [Value.oneCell']) ?_)
    exact bodyPost_ret (v := .agg #[.int .u64 0, .int .u64 0]) (results_cell_row rfl _ _ w.heap.size 35 _ _ _ rfl (setRow_heap _ _ _ _ _ _ HB.out.2) Tryz.underlying35 rfl (by kernel_rfl)) rfl ⟨by rw [HV.out]; rfl, below_setRow HB.out.1 _ _ (Nat.le_refl _)⟩
end Go.Proofs.YtjedgiiplebofaaGreatDoor
