/- Walks. -/
import Derived.Test.YtlpgokcapdjgjaaGreatDoorY26
import Derived.Test.YtlpgokcapdjgjaaGreatDoorY30
set_option maxHeartbeats 1000000
set_option maxRecDepth 100000
namespace Go.Proofs.YtlpgokcapdjgjaaGreatDoor
open Go.RowKit Go
set_option linter.unusedVariables false
set_option linter.unusedSimpArgs false
structure StZ (g : Nat) (T : TypeId) (V : World) (c0 c1 : Array Value) (t : Nat) (vs : Nat → Value) (w : World) : Prop where
 rg : Rg g V w
 hh : w.heap[g]? = some (.cells (if t = 0 then c0 else c1) T (0, 0))
theorem StZ.at {g : Nat} {T : TypeId} {V : World} {c0 c1 : Array Value} {vs : Nat → Value} {w : World} (h : StZ g T V c0 c1 0 vs w) : w.heap[g]? = some (.cells c0 T (0, 0)) := h.hh
theorem dI {w : World} {base : Nat} {e : TypeId} {v : Value} {xs : List Value} {n : Nat} (h : w.ownsRow base e 1 v n xs) (hn : 0 < n) :
  ∃ g cap, v = .slice (some ⟨g, 0, none⟩) n cap ∧ base ≤ g ∧ g < w.heap.size ∧ ∀ k x, xs[k]? = some x → w.cell? ⟨g, k, none⟩ = some x := by
 obtain ⟨hl, h⟩ := h
 rcases h with ⟨h, h2⟩ | ⟨g, cap, cur, hv, hb, hg, hn2, hm, hs, ht⟩
 ·omega
 ·refine ⟨g, cap, hv, hb, (Array.getElem?_eq_some_iff.1 hg).1, fun k x hk => ?_⟩
  rw [cell_of_row w _ _ _ _ _ hg]
  have hkl := (List.getElem?_eq_some_iff.1 hk).1
  rw [← ht, List.getElem?_take, if_pos (by omega)] at hk
  simpa using hk
theorem Cw {s a b : List UInt8} (h : cuts 46 s = [a, b]) : bV s = (aj a, aj b) := by unfold bV; rw [h]
theorem yG {s : List UInt8} (h : (cuts 46 s).length ≠ 2) : bV s = (0, 0) := by
 unfold bV
 split
 ·rename_i a b hc; rw [hc] at h; simp at h
 ·rfl
theorem ky (s : ByteArray) (w : World) (hs : s.size ≤ 100000) : Calls Tryz.prog 54 #[.string s] w fun e w' => e = .returned (.agg #[.int .u64 ((bV s.data.toList).1 : Nat), .int .u64 ((bV s.data.toList).2 : Nat)]) ∧ Below w.heap.size w w' := by
 have hb0 : Below w.heap.size w (w.alloc (.cells #[.int .u64 0, .int .u64 0] 59)) := br.alloc nl _
 have hMem := aV 46 s.data.toList
 rw [af] at hMem
 go_enter Tryz.func54, Tryz.ntmps54
 go_wp2_with fail
 refine (dn 46 s _ hs).mono ?_
 rintro e W1 ⟨v, rfl, hown, hb1⟩
 have hz1 := hb1.size
 simp only [World.size_alloc] at hz1 hown
 have hrb : W1.heap[w.heap.size]? = some (.cells #[.int .u64 0, .int .u64 0] 59 (0, 0)) := (hb1.block _ (by simp)).trans (aa _ _ _ rfl)
 have hB : Below w.heap.size w W1 := hb0.trans (hb1.mono (by simp))
 obtain ⟨sa, sc, rfl⟩ := au hown
 by_cases h2 : (cuts 46 s.data.toList).length = 2
 ·obtain ⟨a, b, hab⟩ := uQ h2
  have ha : a.length ≤ 1000000 := by have := hMem a (by rw [hab]; simp); omega
  have hb : b.length ≤ 1000000 := by have := hMem b (by rw [hab]; simp); omega
  have hV := Cw hab
  have hown2 := hown
  rw [hab] at hown2 ⊢
  obtain ⟨gg, gc, hv, hgb, hgl, hcell⟩ := dI hown2 (by simp)
  have c0 := hcell 0 _ rfl
  have c1 := hcell 1 _ rfl
  have hne : gg ≠ w.heap.size := by omega
  rw [hv]
  have HC := hid (And.intro c0 c1)
  have HB := hid (And.intro hB hrb)
  have hZ0 : StZ w.heap.size 59 W1 #[.int .u64 0, .int .u64 0] #[.int .u64 (aj a : Nat), .int .u64 (aj b : Nat)] 0 (fun _ => undef) W1.drew := ⟨Rg.of_below br.drew, hrb⟩
  have HZ0 := hid hZ0
  have HVV := hid hV
  clear hown hown2 hab hMem h2 hb0 hb1 hrb hB c0 c1 hcell hv hV hZ0
  simp only [List.length_cons, List.length_nil, Nat.zero_add]
  go_wp2_with fail
  refine aD (w0 := W1) rfl [.eq (.slice (some ⟨gg, 0, none⟩) 2 gc), .eq (.pointer (some ⟨gg, 0, none⟩)), .eq (.string ⟨a.toArray⟩), .eq (.int .u64 (aj a : Nat)), .eq (.slice (some ⟨gg, 0, none⟩) 2 gc), .eq (.pointer (some ⟨gg, 1, none⟩)), .eq (.string ⟨b.toArray⟩), .eq (.int .u64 (aj b : Nat)), .eq (.agg #[.int .u64 (aj a : Nat), .int .u64 (aj b : Nat)]), .wr] (StZ w.heap.size 59 W1 #[.int .u64 0, .int .u64 0] #[.int .u64 (aj a : Nat), .int .u64 (aj b : Nat)]) (by kernel_rfl) (⟨fun _ => undef, HZ0.out⟩) ⟨?_, ?_, ?_, ?_, ?_, ?_, ?_, ?_, ?_, ?_, trivial⟩ (fun vs => [(10, .slice (some ⟨gg, 0, none⟩) 2 gc), (11, .pointer (some ⟨gg, 0, none⟩)), (12, .string ⟨a.toArray⟩), (13, .int .u64 (aj a : Nat)), (14, .slice (some ⟨gg, 0, none⟩) 2 gc), (15, .pointer (some ⟨gg, 1, none⟩)), (16, .string ⟨b.toArray⟩), (17, .int .u64 (aj b : Nat)), (18, .agg #[.int .u64 (aj a : Nat), .int .u64 (aj b : Nat)])]) (fun _ => rfl) 1 (by kernel_rfl) ?_
  ·refine cp fun t vs ac wx K Q hR hZ hK => ?_
   have t3 : ac.tmps[3]? = some (.slice (some ⟨gg, 0, none⟩) 2 gc) := hR.o 3
   go_simp
   exact hK _ hZ
  ·refine cp fun t vs ac wx K Q hR hZ hK => ?_
   have t10 := hR.q 0
   go_simp
   exact hK _ hZ
  ·refine cp fun t vs ac wx K Q hR hZ hK => ?_
   have t11 := hR.q 1
   have y0 := hZ.rg.cell HC.out.1 hne
   go_simp
   exact hK _ hZ
  ·refine cp fun t vs ac wx K Q hR hZ hK => ?_
   have t12 := hR.q 2
   go_simp
   go_at_call 53
   refine (dm ⟨a.toArray⟩ _ (by rw [← af]; simpa using ha)).mono ?_
   rintro e w' ⟨rfl, rfl⟩
   exact hK _ hZ
  ·refine cp fun t vs ac wx K Q hR hZ hK => ?_
   have t3 : ac.tmps[3]? = some (.slice (some ⟨gg, 0, none⟩) 2 gc) := hR.o 3
   go_simp
   exact hK _ hZ
  ·refine cp fun t vs ac wx K Q hR hZ hK => ?_
   have t14 := hR.q 4
   go_simp
   exact hK _ hZ
  ·refine cp fun t vs ac wx K Q hR hZ hK => ?_
   have t15 := hR.q 5
   have y0 := hZ.rg.cell HC.out.2 hne
   go_simp
   exact hK _ hZ
  ·refine cp fun t vs ac wx K Q hR hZ hK => ?_
   have t16 := hR.q 6
   go_simp
   go_at_call 53
   refine (dm ⟨b.toArray⟩ _ (by rw [← af]; simpa using hb)).mono ?_
   rintro e w' ⟨rfl, rfl⟩
   exact hK _ hZ
  ·refine cp fun t vs ac wx K Q hR hZ hK => ?_
   have t13 := hR.q 3
   have t17 := hR.q 7
   go_simp
   exact hK _ hZ
  ·refine cw fun vs ac wx K Q hR hZ hK => ?_
   have t2 : ac.tmps[2]? = some (.pointer (some ⟨w.heap.size, 0, none⟩)) := hR.o 2
   have t18 := hR.q 8
   have hh := hZ.at
   have f0 : wx.frozen? ⟨w.heap.size, 0, none⟩ = false := by rw [frozen_of_row wx _ 0 _ _ hh]
   have f1 : wx.frozen? ⟨w.heap.size, 1, none⟩ = false := by rw [frozen_of_row wx _ 1 _ _ hh]
   have c0 : wx.cell? ⟨w.heap.size, 0, none⟩ = some (.int .u64 0) := by rw [cell_of_row wx _ 0 _ _ _ hh]; rfl
   have c1 : wx.cell? ⟨w.heap.size, 1, none⟩ = some (.int .u64 0) := by rw [cell_of_row wx _ 1 _ _ _ hh]; rfl
   go_simp
   exact hK undef _ nofun ⟨(hZ.rg.setCell _ _).setCell _ _, ae (ae hh rfl) rfl⟩
  intro vs wN hZ
  have HZ := hid (And.intro hZ.hh (hZ.rg.below (by omega)))
  simp only [aH, List.foldl_cons, List.foldl_nil]
  clear hZ
  go_simp
  go_wp2_with fail
  exact bodyPost_ret (v := .agg #[.int .u64 (aj a : Nat), .int .u64 (aj b : Nat)]) (results_cell_row rfl _ _ w.heap.size 59 _ _ _ rfl HZ.out.1 Tryz.underlying59 rfl (by kernel_rfl)) rfl ⟨by rw [HVV.out], HB.out.1.trans HZ.out.2⟩
 ·have t1 : (((cuts 46 s.data.toList).length : Int) != 2) = true := by simp; omega
  have HV := hid (yG h2)
  have HB := hid (And.intro hB hrb)
  clear hown hMem h2 hb0 hb1 hrb hB
  go_wp2_with (refine wpList_store_row rfl 59 (.tmp 2) (.tmp 9) rfl rfl w.heap.size rfl _ rfl 59 _ HB.out.2 (by kernel_rfl) rfl (by simp [Value.oneCell']) ?_)
  exact bodyPost_ret (v := .agg #[.int .u64 0, .int .u64 0]) (results_cell_row rfl _ _ w.heap.size 59 _ _ _ rfl (setRow_heap _ _ _ _ _ _ HB.out.2) Tryz.underlying59 rfl (by kernel_rfl)) rfl ⟨by rw [HV.out]; rfl, below_setRow HB.out.1 _ _ nl⟩
end Go.Proofs.YtlpgokcapdjgjaaGreatDoor
