/- Walks. -/
import Derived.Test.YtlpgokcapdjgjaaGreatDoorYV20
import Derived.Test.YtlpgokcapdjgjaaGreatDoorY10
import Derived.Deep.RegionWith
set_option maxHeartbeats 8000000
set_option maxRecDepth 100000
namespace Go.Proofs.YtlpgokcapdjgjaaGreatDoor
open Go.RowKit Go
set_option linter.unusedVariables false
set_option linter.unusedSimpArgs false
theorem Rg.cell {g : Nat} {w w' : World} (h : Rg g w w') {b o : Nat} {v : Value} (hc : w.cell? ⟨b, o, none⟩ = some v) (hne : b ≠ g) : w'.cell? ⟨b, o, none⟩ = some v := by
 have hl : b < w.heap.size := World.block_lt_of_cell? w ⟨b, o, none⟩ hc
 rw [World.cell?_of_block (w := w) (a := ⟨b, o, none⟩) (h.keep b hl hne)]; exact hc
theorem gp {g : Nat} {T : TypeId} {want : Option (Array Value)} {w w' : World} {cs' : Array Value} (h1 : Rg g w w') (h2 : w'.heap[g]? = some (.cells cs' T (0, 0))) (h3 : want = none) : mY g T want w (.returned (.bool false)) w' :=
 je h1 h2 (by rw [h3]; rfl) (fun c hc => by rw [h3] at hc; cases hc)
theorem sU {g : Nat} {T : TypeId} {want : Option (Array Value)} {w w' : World} {cs' : Array Value} (h1 : Rg g w w') (h2 : w'.heap[g]? = some (.cells cs' T (0, 0))) (h3 : want = some cs') : mY g T want w (.returned (.bool true)) w' :=
 je h1 h2 (by rw [h3]; rfl) (fun c hc => by rw [h3] at hc; injection hc)
theorem mY.yes {g : Nat} {T : TypeId} {want : Option (Array Value)} {w : World} {e : Ending} {w' : World} {c : Array Value} (h : mY g T want w e w') (hw : want = some c) : e = .returned (.bool true) ∧ w'.heap[g]? = some (.cells c T (0, 0)) ∧ Rg g w w' := by
 obtain ⟨cs', h1, h2, h3, h4⟩ := h
 subst hw
 exact ⟨h1, by rw [← h4 c rfl]; exact h2, h3⟩
theorem mY.no {g : Nat} {T : TypeId} {want : Option (Array Value)} {w : World} {e : Ending} {w' : World} (h : mY g T want w e w') (hw : want = none) : e = .returned (.bool false) ∧ (∃ cs', w'.heap[g]? = some (.cells cs' T (0, 0))) ∧ Rg g w w' := by
 obtain ⟨cs', h1, h2, h3, h4⟩ := h
 subst hw
 exact ⟨h1, ⟨cs', h2⟩, h3⟩
structure fw (g : Nat) (T : TypeId) (V : World) (cs : List (Option (Array Value))) (t : Nat) (vs : Nat → Value) (w : World) : Prop where
 ex : ∃ c, w.heap[g]? = some (.cells c T (0, 0)) ∧ Rg g V w ∧ ∀ c', cs[t]? = some (some c') → c = c'
theorem fw.rg {g : Nat} {T : TypeId} {V : World} {cs : List (Option (Array Value))} {t : Nat} {vs : Nat → Value} {w : World} (h : fw g T V cs t vs w) : Rg g V w := h.ex.choose_spec.2.1
theorem fw.any {g : Nat} {T : TypeId} {V : World} {cs : List (Option (Array Value))} {t : Nat} {vs : Nat → Value} {w : World} (h : fw g T V cs t vs w) : w.heap[g]? = some (.cells h.ex.choose T (0, 0)) := h.ex.choose_spec.1
theorem fw.at {g : Nat} {T : TypeId} {V : World} {cs : List (Option (Array Value))} {t : Nat} {vs : Nat → Value} {w : World} {c : Array Value} (h : fw g T V cs t vs w) (hc : cs[t]? = some (some c)) : w.heap[g]? = some (.cells c T (0, 0)) := by
 obtain ⟨c', h1, _, h3⟩ := h.ex
 rw [← h3 c hc]; exact h1
theorem fw.yes {g : Nat} {T : TypeId} {V : World} {cs : List (Option (Array Value))} {t i : Nat} {vs : Nat → Value} {w w' : World} {want : Option (Array Value)} {e : Ending} {c : Array Value} {u : Value} (h : fw g T V cs t vs w) (hc : cs[t + 1]? = some (some c)) (hS : mY g T want w e w') (hw : want = some c) :
  e = .returned (.bool true) ∧ fw g T V cs (t + 1) (upd vs i u) w' := by
 obtain ⟨h1, h2, h3⟩ := hS.yes hw
 exact ⟨h1, ⟨c, h2, h.rg.trans h3, fun c' h' => by rw [hc] at h'; injection h' with h'; injection h'⟩⟩
theorem fw.no {g : Nat} {T : TypeId} {V : World} {cs : List (Option (Array Value))} {t i : Nat} {vs : Nat → Value} {w w' : World} {want : Option (Array Value)} {e : Ending} {u : Value} (h : fw g T V cs t vs w) (hc : cs[t + 1]? = some none) (hS : mY g T want w e w') (hw : want = none) :
  e = .returned (.bool false) ∧ fw g T V cs (t + 1) (upd vs i u) w' := by
 obtain ⟨h1, ⟨c, h2⟩, h3⟩ := hS.no hw
 exact ⟨h1, ⟨c, h2, h.rg.trans h3, fun c' h' => by rw [hc] at h'; injection h' with h'; cases h'⟩⟩
def jI (e : Ent) : Array Value := e.cells.toArray
theorem yj {s a b f : List UInt8} (h : cuts 58 s = [a, b, f]) : jP s = if f = [48] ∨ f = [49] then (bE a).bind fun x => (jH b).map fun v => ⟨x, v.1, v.2, decide (f = [49])⟩ else none := by
 unfold jP; rw [h]
theorem yl {s : List UInt8} (h : (cuts 58 s).length ≠ 3) : jP s = none := by
 unfold jP
 split
 ·rename_i a b f hc; rw [hc] at h; exact absurd rfl h
 ·rfl
theorem qw {α : Type} {l : List α} (h : l.length = 3) : ∃ a b c, l = [a, b, c] := by
 match l, h with
 | [a, b, c], _ => exact ⟨a, b, c, rfl⟩
theorem uM (s : ByteArray) (g : Nat) (T : TypeId) (v0 v1 v2 v3 : Value) (w : World) (hs : s.size ≤ 100000) (hh : w.heap[g]? = some (.cells #[v0, v1, v2, v3] T (0, 0))) (hL : Lq g w) :
  Calls Tryz.prog 173 #[.string s, .pointer (some ⟨g, 0, none⟩)] w (mY g T ((jP s.data.toList).map jI) w) := by
 have hlt : g < w.heap.size := (Array.getElem?_eq_some_iff.1 hh).1
 have HP := hid (sJ 58 s w (by omega) (hL.mono (by omega)))
 have HH := hid hh
 have HL := hid hL
 clear hh hL
 go_enter Tryz.func173, Tryz.ntmps173
 go_wp2_with fail
 refine HP.out.mono ?_
 rintro e w1 ⟨rfl, rfl⟩
 by_cases h3 : (cuts 58 s.data.toList).length = 3
 ·obtain ⟨a, b, f, hl⟩ := qw h3
  have hm := aV 58 s.data.toList
  rw [hl] at hm
  have la := hm a (by simp)
  have lb := hm b (by simp)
  rw [af] at la lb
  have HE := hid (yj hl)
  rw [hl]
  clear h3 hl hm
  have hR := iN.alloc w [a, b, f] 9 (by simp)
  obtain ⟨bl, off, hbo, rfl, hc⟩ := iN.at hR (by simp)
  simp only [Option.some.injEq, Addr.mk.injEq, true_and, and_true] at hbo
  subst hbo
  have c0 := hc 0 (by simp)
  have c1 := hc 1 (by simp)
  have c2 := hc 2 (by simp)
  simp only [Nat.zero_add, List.getElem_cons_zero, List.getElem_cons_succ] at c0 c1 c2
  have hB : Below w.heap.size w (w.alloc (.cells (strs [a, b, f]).toArray 9)) := br.alloc nl _
  rw [show ([a, b, f] : List (List UInt8)).length = 3 from rfl]
  clear hR hc
  generalize (w.alloc (.cells (strs [a, b, f]).toArray 9)) = W at hB c0 c1 c2 ⊢
  have l0 : w.heap.size < W.heap.size := World.block_lt_of_cell? W _ c0
  have hg := (hB.block _ hlt).trans HH.out
  have g3 : W.cell? ⟨g, 3, none⟩ = some v3 := by rw [cell_of_row W _ 3 _ _ _ hg]; rfl
  have f3 : W.frozen? ⟨g, 3, none⟩ = false := by rw [frozen_of_row W _ 3 _ _ hg]
  have HB := hid (And.intro hB hg)
  have hne : w.heap.size ≠ g := by omega
  clear hB hg
  have hfl : (ByteArray.mk f.toArray).toList = f := by rw [ByteArray.toList_eq]
  by_cases hff : f = [48] ∨ f = [49]
  ·have hn3 : (bE a = none) ∨ ((∃ n, bE a = some n) ∧ jH b = none) ∨ ∃ n v, bE a = some n ∧ jH b = some v := by
    cases bE a <;> cases jH b <;> simp
   rcases hff with rfl | rfl
   ·go_wp2_with fail
    obtain ⟨V, hV⟩ : ∃ V, V = W.setCell ⟨g, 3, none⟩ (.bool false) := ⟨_, rfl⟩
    have hgV : V.heap[g]? = some (.cells #[v0, v1, v2, .bool false] T (0, 0)) := by rw [hV]; exact ae HB.out.2 (by simp)
    have hRV : Rg g w V := by rw [hV]; exact (Rg.of_below (rb := g) HB.out.1).setCell 3 _
    have d0 : V.cell? ⟨w.heap.size, 0, none⟩ = some (.string ⟨a.toArray⟩) := by rw [hV, World.cell?_setCell_far _ _ _ _ (fun e => hne e.symm)]; exact c0
    have d1 : V.cell? ⟨w.heap.size, 1, none⟩ = some (.string ⟨b.toArray⟩) := by rw [hV, World.cell?_setCell_far _ _ _ _ (fun e => hne e.symm)]; exact c1
    have lgV : g < V.heap.size := (Array.getElem?_eq_some_iff.1 hgV).1
    rw [← hV]
    have HV := hid (And.intro d0 (And.intro d1 hRV))
    have HLV := hid (HL.out.below (hRV.below (by omega)))
    have hZ0 : ∀ (cs : List (Option (Array Value))), cs[0]? = some (some #[v0, v1, v2, .bool false]) → fw g T V cs 0 (fun _ => undef) V.drew := fun cs h => ⟨_, hgV, Rg.of_below br.drew, fun c' h' => by rw [h] at h'; injection h' with h'; injection h'⟩
    have HZ := hid hZ0
    clear hV hgV hRV c0 c1 c2 l0 g3 f3 d0 d1 hZ0
    rcases hn3 with hna | ⟨⟨n, hna⟩, hvb⟩ | ⟨n, v, hna, hvb⟩
    ·have HN := hid hna
     clear hna
     refine aD (w0 := V) rfl [.eq (.slice (some ⟨w.heap.size, 0, none⟩) 3 3), .eq (.pointer (some ⟨w.heap.size, 0, none⟩)), .eq (.string ⟨a.toArray⟩), .eq (.pointer (some ⟨g, 0, none⟩)), .eq (.pointer (some ⟨g, 0, none⟩)), .eq (.pointer (some ⟨g, 0, none⟩)), .weq (.bool false), .eq (.bool false), .skip, .skip, .skip, .skip, .skip, .skip, .skip, .eq ((Value.bool false)), .eq ((Value.bool false))] (fw g T V [some #[v0, v1, v2, .bool false], none]) (by kernel_rfl) (⟨_, HZ.out _ rfl⟩) ⟨?_, ?_, ?_, ?_, ?_, ?_, ?_, ?_, ?_, ?_, trivial⟩ (fun vs => [(30, .slice (some ⟨w.heap.size, 0, none⟩) 3 3), (31, .pointer (some ⟨w.heap.size, 0, none⟩)), (32, .string ⟨a.toArray⟩), (33, .pointer (some ⟨g, 0, none⟩)), (34, .pointer (some ⟨g, 0, none⟩)), (35, .pointer (some ⟨g, 0, none⟩)), (36, .bool false), (37, .bool false), (38, undef), (39, undef), (40, undef), (41, undef), (42, undef), (43, undef), (44, undef), (45, (Value.bool false)), (4, (Value.bool false))]) (fun _ => rfl) 1 (by kernel_rfl) ?_
     ·refine cp fun t vs ac wx K Q hR hZ hK => ?_
      have t5 : ac.tmps[5]? = some (.slice (some ⟨w.heap.size, 0, none⟩) 3 3) := hR.o 5
      go_simp
      exact hK _ hZ
     ·refine cp fun t vs ac wx K Q hR hZ hK => ?_
      have t30 := hR.q 0
      go_simp
      exact hK _ hZ
     ·refine cp fun t vs ac wx K Q hR hZ hK => ?_
      have t31 := hR.q 1
      have y0 := hZ.rg.cell HV.out.1 hne
      go_simp
      exact hK _ hZ
     ·refine cp fun t vs ac wx K Q hR hZ hK => ?_
      have t1 : ac.tmps[1]? = some (.pointer (some ⟨g, 0, none⟩)) := hR.o 1
      go_simp
      exact hK _ hZ
     ·refine cp fun t vs ac wx K Q hR hZ hK => ?_
      have t33 := hR.q 3
      go_simp
      exact hK _ hZ
     ·refine cp fun t vs ac wx K Q hR hZ hK => ?_
      have t34 := hR.q 4
      go_simp
      exact hK _ hZ
     ·refine cw fun vs ac wx K Q hR hZ hK => ?_
      have t32 := hR.q 2
      have t35 := hR.q 5
      go_simp
      go_at_call 61
      refine (aB ⟨a.toArray⟩ g 0 T _ _ (by rw [← af]; simp; omega) (hZ.at rfl) (by simp) (HLV.out.lv.below (hZ.rg.below (by omega)))).mono ?_
      rintro e w' hS
      obtain ⟨rfl, hZ2⟩ := hZ.no (cs := [some #[v0, v1, v2, .bool false], none]) rfl hS (by rw [HN.out]; rfl)
      exact hK _ _ bf hZ2
     ·refine cp fun t vs ac wx K Q hR hZ hK => ?_
      have t36 := hR.weq 6 (by kernel_rfl) rfl rfl
      go_simp
      exact hK _ hZ
     ·refine cp fun t vs ac wx K Q hR hZ hK => ?_
      have t37 := hR.q 7
      have t44 := hR.skip 14 (by kernel_rfl) rfl rfl
      go_simp
      exact hK _ hZ
     ·refine cp fun t vs ac wx K Q hR hZ hK => ?_
      have t45 := hR.q 15
      go_simp
      exact hK _ hZ
     intro vs wN hZ
     simp only [aH, List.foldl_cons, List.foldl_nil]
     go_simp
     go_wp2_with fail
     go_ret
     exact gp (HV.out.2.2.trans hZ.rg) hZ.any (by rw [HE.out, HN.out]; rfl)
    ·have HN := hid hna
     have HV2 := hid hvb
     clear hna hvb
     refine aD (w0 := V) rfl [.eq (.slice (some ⟨w.heap.size, 0, none⟩) 3 3), .eq (.pointer (some ⟨w.heap.size, 0, none⟩)), .eq (.string ⟨a.toArray⟩), .eq (.pointer (some ⟨g, 0, none⟩)), .eq (.pointer (some ⟨g, 0, none⟩)), .eq (.pointer (some ⟨g, 0, none⟩)), .weq (.bool true), .eq (.bool true), .eq (.slice (some ⟨w.heap.size, 0, none⟩) 3 3), .eq (.pointer (some ⟨w.heap.size, 1, none⟩)), .eq (.string ⟨b.toArray⟩), .eq (.pointer (some ⟨g, 0, none⟩)), .eq (.pointer (some ⟨g, 0, none⟩)), .eq (.pointer (some ⟨g, 1, none⟩)), .weq (.bool false), .eq (.bool false), .eq (.bool false)] (fw g T V [some #[v0, v1, v2, .bool false], some #[.int .u64 (n : Nat), v1, v2, .bool false], none]) (by kernel_rfl) (⟨_, HZ.out _ rfl⟩) ⟨?_, ?_, ?_, ?_, ?_, ?_, ?_, ?_, ?_, ?_, ?_, ?_, ?_, ?_, ?_, ?_, ?_, trivial⟩ (fun vs => [(30, .slice (some ⟨w.heap.size, 0, none⟩) 3 3), (31, .pointer (some ⟨w.heap.size, 0, none⟩)), (32, .string ⟨a.toArray⟩), (33, .pointer (some ⟨g, 0, none⟩)), (34, .pointer (some ⟨g, 0, none⟩)), (35, .pointer (some ⟨g, 0, none⟩)), (36, .bool true), (37, .bool true), (38, .slice (some ⟨w.heap.size, 0, none⟩) 3 3), (39, .pointer (some ⟨w.heap.size, 1, none⟩)), (40, .string ⟨b.toArray⟩), (41, .pointer (some ⟨g, 0, none⟩)), (42, .pointer (some ⟨g, 0, none⟩)), (43, .pointer (some ⟨g, 1, none⟩)), (44, .bool false), (45, .bool false), (4, .bool false)]) (fun _ => rfl) 2 (by kernel_rfl) ?_
     ·refine cp fun t vs ac wx K Q hR hZ hK => ?_
      have t5 : ac.tmps[5]? = some (.slice (some ⟨w.heap.size, 0, none⟩) 3 3) := hR.o 5
      go_simp
      exact hK _ hZ
     ·refine cp fun t vs ac wx K Q hR hZ hK => ?_
      have t30 := hR.q 0
      go_simp
      exact hK _ hZ
     ·refine cp fun t vs ac wx K Q hR hZ hK => ?_
      have t31 := hR.q 1
      have y0 := hZ.rg.cell HV.out.1 hne
      go_simp
      exact hK _ hZ
     ·refine cp fun t vs ac wx K Q hR hZ hK => ?_
      have t1 : ac.tmps[1]? = some (.pointer (some ⟨g, 0, none⟩)) := hR.o 1
      go_simp
      exact hK _ hZ
     ·refine cp fun t vs ac wx K Q hR hZ hK => ?_
      have t33 := hR.q 3
      go_simp
      exact hK _ hZ
     ·refine cp fun t vs ac wx K Q hR hZ hK => ?_
      have t34 := hR.q 4
      go_simp
      exact hK _ hZ
     ·refine cw fun vs ac wx K Q hR hZ hK => ?_
      have t32 := hR.q 2
      have t35 := hR.q 5
      go_simp
      go_at_call 61
      refine (aB ⟨a.toArray⟩ g 0 T _ _ (by rw [← af]; simp; omega) (hZ.at rfl) (by simp) (HLV.out.lv.below (hZ.rg.below (by omega)))).mono ?_
      rintro e w' hS
      obtain ⟨rfl, hZ2⟩ := hZ.yes (cs := [some #[v0, v1, v2, .bool false], some #[.int .u64 (n : Nat), v1, v2, .bool false], none]) rfl hS (c := #[.int .u64 (n : Nat), v1, v2, .bool false]) (by rw [HN.out]; simp)
      exact hK _ _ bf hZ2
     ·refine cp fun t vs ac wx K Q hR hZ hK => ?_
      have t36 := hR.weq 6 (by kernel_rfl) rfl rfl
      go_simp
      exact hK _ hZ
     ·refine cp fun t vs ac wx K Q hR hZ hK => ?_
      have t5 : ac.tmps[5]? = some (.slice (some ⟨w.heap.size, 0, none⟩) 3 3) := hR.o 5
      go_simp
      exact hK _ hZ
     ·refine cp fun t vs ac wx K Q hR hZ hK => ?_
      have t38 := hR.q 8
      go_simp
      exact hK _ hZ
     ·refine cp fun t vs ac wx K Q hR hZ hK => ?_
      have t39 := hR.q 9
      have y0 := hZ.rg.cell HV.out.2.1 hne
      go_simp
      exact hK _ hZ
     ·refine cp fun t vs ac wx K Q hR hZ hK => ?_
      have t1 : ac.tmps[1]? = some (.pointer (some ⟨g, 0, none⟩)) := hR.o 1
      go_simp
      exact hK _ hZ
     ·refine cp fun t vs ac wx K Q hR hZ hK => ?_
      have t41 := hR.q 11
      go_simp
      exact hK _ hZ
     ·refine cp fun t vs ac wx K Q hR hZ hK => ?_
      have t42 := hR.q 12
      go_simp
      exact hK _ hZ
     ·refine cw fun vs ac wx K Q hR hZ hK => ?_
      have t40 := hR.q 10
      have t43 := hR.q 13
      go_simp
      go_at_call 151
      refine (dC ⟨b.toArray⟩ g 1 T _ _ (by rw [← af]; simp; omega) (hZ.at rfl) (by simp) (HLV.out.below (hZ.rg.below (by omega)))).mono ?_
      rintro e w' hS
      obtain ⟨rfl, hZ2⟩ := hZ.no (cs := [some #[v0, v1, v2, .bool false], some #[.int .u64 (n : Nat), v1, v2, .bool false], none]) rfl hS (by rw [HV2.out]; rfl)
      exact hK _ _ bf hZ2
     ·refine cp fun t vs ac wx K Q hR hZ hK => ?_
      have t37 := hR.q 7
      have t44 := hR.weq 14 (by kernel_rfl) rfl rfl
      go_simp
      exact hK _ hZ
     ·refine cp fun t vs ac wx K Q hR hZ hK => ?_
      have t45 := hR.q 15
      go_simp
      exact hK _ hZ
     intro vs wN hZ
     simp only [aH, List.foldl_cons, List.foldl_nil]
     go_simp
     go_wp2_with fail
     go_ret
     exact gp (HV.out.2.2.trans hZ.rg) hZ.any (by rw [HE.out, HN.out, HV2.out]; rfl)
    ·have HN := hid hna
     have HV2 := hid hvb
     clear hna hvb
     refine aD (w0 := V) rfl [.eq (.slice (some ⟨w.heap.size, 0, none⟩) 3 3), .eq (.pointer (some ⟨w.heap.size, 0, none⟩)), .eq (.string ⟨a.toArray⟩), .eq (.pointer (some ⟨g, 0, none⟩)), .eq (.pointer (some ⟨g, 0, none⟩)), .eq (.pointer (some ⟨g, 0, none⟩)), .weq (.bool true), .eq (.bool true), .eq (.slice (some ⟨w.heap.size, 0, none⟩) 3 3), .eq (.pointer (some ⟨w.heap.size, 1, none⟩)), .eq (.string ⟨b.toArray⟩), .eq (.pointer (some ⟨g, 0, none⟩)), .eq (.pointer (some ⟨g, 0, none⟩)), .eq (.pointer (some ⟨g, 1, none⟩)), .weq (.bool true), .eq (.bool true), .eq (.bool true)] (fw g T V [some #[v0, v1, v2, .bool false], some #[.int .u64 (n : Nat), v1, v2, .bool false], some #[.int .u64 (n : Nat), .int .u64 (v.1 : Nat), .int .u64 (v.2 : Nat), .bool false]]) (by kernel_rfl) (⟨_, HZ.out _ rfl⟩) ⟨?_, ?_, ?_, ?_, ?_, ?_, ?_, ?_, ?_, ?_, ?_, ?_, ?_, ?_, ?_, ?_, ?_, trivial⟩ (fun vs => [(30, .slice (some ⟨w.heap.size, 0, none⟩) 3 3), (31, .pointer (some ⟨w.heap.size, 0, none⟩)), (32, .string ⟨a.toArray⟩), (33, .pointer (some ⟨g, 0, none⟩)), (34, .pointer (some ⟨g, 0, none⟩)), (35, .pointer (some ⟨g, 0, none⟩)), (36, .bool true), (37, .bool true), (38, .slice (some ⟨w.heap.size, 0, none⟩) 3 3), (39, .pointer (some ⟨w.heap.size, 1, none⟩)), (40, .string ⟨b.toArray⟩), (41, .pointer (some ⟨g, 0, none⟩)), (42, .pointer (some ⟨g, 0, none⟩)), (43, .pointer (some ⟨g, 1, none⟩)), (44, .bool true), (45, .bool true), (4, .bool true)]) (fun _ => rfl) 2 (by kernel_rfl) ?_
     ·refine cp fun t vs ac wx K Q hR hZ hK => ?_
      have t5 : ac.tmps[5]? = some (.slice (some ⟨w.heap.size, 0, none⟩) 3 3) := hR.o 5
      go_simp
      exact hK _ hZ
     ·refine cp fun t vs ac wx K Q hR hZ hK => ?_
      have t30 := hR.q 0
      go_simp
      exact hK _ hZ
     ·refine cp fun t vs ac wx K Q hR hZ hK => ?_
      have t31 := hR.q 1
      have y0 := hZ.rg.cell HV.out.1 hne
      go_simp
      exact hK _ hZ
     ·refine cp fun t vs ac wx K Q hR hZ hK => ?_
      have t1 : ac.tmps[1]? = some (.pointer (some ⟨g, 0, none⟩)) := hR.o 1
      go_simp
      exact hK _ hZ
     ·refine cp fun t vs ac wx K Q hR hZ hK => ?_
      have t33 := hR.q 3
      go_simp
      exact hK _ hZ
     ·refine cp fun t vs ac wx K Q hR hZ hK => ?_
      have t34 := hR.q 4
      go_simp
      exact hK _ hZ
     ·refine cw fun vs ac wx K Q hR hZ hK => ?_
      have t32 := hR.q 2
      have t35 := hR.q 5
      go_simp
      go_at_call 61
      refine (aB ⟨a.toArray⟩ g 0 T _ _ (by rw [← af]; simp; omega) (hZ.at rfl) (by simp) (HLV.out.lv.below (hZ.rg.below (by omega)))).mono ?_
      rintro e w' hS
      obtain ⟨rfl, hZ2⟩ := hZ.yes (cs := [some #[v0, v1, v2, .bool false], some #[.int .u64 (n : Nat), v1, v2, .bool false], some #[.int .u64 (n : Nat), .int .u64 (v.1 : Nat), .int .u64 (v.2 : Nat), .bool false]]) rfl hS (c := #[.int .u64 (n : Nat), v1, v2, .bool false]) (by rw [HN.out]; simp)
      exact hK _ _ bf hZ2
     ·refine cp fun t vs ac wx K Q hR hZ hK => ?_
      have t36 := hR.weq 6 (by kernel_rfl) rfl rfl
      go_simp
      exact hK _ hZ
     ·refine cp fun t vs ac wx K Q hR hZ hK => ?_
      have t5 : ac.tmps[5]? = some (.slice (some ⟨w.heap.size, 0, none⟩) 3 3) := hR.o 5
      go_simp
      exact hK _ hZ
     ·refine cp fun t vs ac wx K Q hR hZ hK => ?_
      have t38 := hR.q 8
      go_simp
      exact hK _ hZ
     ·refine cp fun t vs ac wx K Q hR hZ hK => ?_
      have t39 := hR.q 9
      have y0 := hZ.rg.cell HV.out.2.1 hne
      go_simp
      exact hK _ hZ
     ·refine cp fun t vs ac wx K Q hR hZ hK => ?_
      have t1 : ac.tmps[1]? = some (.pointer (some ⟨g, 0, none⟩)) := hR.o 1
      go_simp
      exact hK _ hZ
     ·refine cp fun t vs ac wx K Q hR hZ hK => ?_
      have t41 := hR.q 11
      go_simp
      exact hK _ hZ
     ·refine cp fun t vs ac wx K Q hR hZ hK => ?_
      have t42 := hR.q 12
      go_simp
      exact hK _ hZ
     ·refine cw fun vs ac wx K Q hR hZ hK => ?_
      have t40 := hR.q 10
      have t43 := hR.q 13
      go_simp
      go_at_call 151
      refine (dC ⟨b.toArray⟩ g 1 T _ _ (by rw [← af]; simp; omega) (hZ.at rfl) (by simp) (HLV.out.below (hZ.rg.below (by omega)))).mono ?_
      rintro e w' hS
      obtain ⟨rfl, hZ2⟩ := hZ.yes (cs := [some #[v0, v1, v2, .bool false], some #[.int .u64 (n : Nat), v1, v2, .bool false], some #[.int .u64 (n : Nat), .int .u64 (v.1 : Nat), .int .u64 (v.2 : Nat), .bool false]]) rfl hS (c := #[.int .u64 (n : Nat), .int .u64 (v.1 : Nat), .int .u64 (v.2 : Nat), .bool false]) (by rw [HV2.out]; simp)
      exact hK _ _ bf hZ2
     ·refine cp fun t vs ac wx K Q hR hZ hK => ?_
      have t37 := hR.q 7
      have t44 := hR.weq 14 (by kernel_rfl) rfl rfl
      go_simp
      exact hK _ hZ
     ·refine cp fun t vs ac wx K Q hR hZ hK => ?_
      have t45 := hR.q 15
      go_simp
      exact hK _ hZ
     intro vs wN hZ
     simp only [aH, List.foldl_cons, List.foldl_nil]
     go_simp
     go_wp2_with fail
     go_ret
     exact sU (HV.out.2.2.trans hZ.rg) (hZ.at rfl) (by rw [HE.out, HN.out, HV2.out]; rfl)
   ·go_wp2_with fail
    obtain ⟨V, hV⟩ : ∃ V, V = W.setCell ⟨g, 3, none⟩ (.bool true) := ⟨_, rfl⟩
    have hgV : V.heap[g]? = some (.cells #[v0, v1, v2, .bool true] T (0, 0)) := by rw [hV]; exact ae HB.out.2 (by simp)
    have hRV : Rg g w V := by rw [hV]; exact (Rg.of_below (rb := g) HB.out.1).setCell 3 _
    have d0 : V.cell? ⟨w.heap.size, 0, none⟩ = some (.string ⟨a.toArray⟩) := by rw [hV, World.cell?_setCell_far _ _ _ _ (fun e => hne e.symm)]; exact c0
    have d1 : V.cell? ⟨w.heap.size, 1, none⟩ = some (.string ⟨b.toArray⟩) := by rw [hV, World.cell?_setCell_far _ _ _ _ (fun e => hne e.symm)]; exact c1
    have lgV : g < V.heap.size := (Array.getElem?_eq_some_iff.1 hgV).1
    rw [← hV]
    have HV := hid (And.intro d0 (And.intro d1 hRV))
    have HLV := hid (HL.out.below (hRV.below (by omega)))
    have hZ0 : ∀ (cs : List (Option (Array Value))), cs[0]? = some (some #[v0, v1, v2, .bool true]) → fw g T V cs 0 (fun _ => undef) V.drew := fun cs h => ⟨_, hgV, Rg.of_below br.drew, fun c' h' => by rw [h] at h'; injection h' with h'; injection h'⟩
    have HZ := hid hZ0
    clear hV hgV hRV c0 c1 c2 l0 g3 f3 d0 d1 hZ0
    rcases hn3 with hna | ⟨⟨n, hna⟩, hvb⟩ | ⟨n, v, hna, hvb⟩
    ·have HN := hid hna
     clear hna
     refine aD (w0 := V) rfl [.eq (.slice (some ⟨w.heap.size, 0, none⟩) 3 3), .eq (.pointer (some ⟨w.heap.size, 0, none⟩)), .eq (.string ⟨a.toArray⟩), .eq (.pointer (some ⟨g, 0, none⟩)), .eq (.pointer (some ⟨g, 0, none⟩)), .eq (.pointer (some ⟨g, 0, none⟩)), .weq (.bool false), .eq (.bool false), .skip, .skip, .skip, .skip, .skip, .skip, .skip, .eq ((Value.bool false)), .eq ((Value.bool false))] (fw g T V [some #[v0, v1, v2, .bool true], none]) (by kernel_rfl) (⟨_, HZ.out _ rfl⟩) ⟨?_, ?_, ?_, ?_, ?_, ?_, ?_, ?_, ?_, ?_, trivial⟩ (fun vs => [(30, .slice (some ⟨w.heap.size, 0, none⟩) 3 3), (31, .pointer (some ⟨w.heap.size, 0, none⟩)), (32, .string ⟨a.toArray⟩), (33, .pointer (some ⟨g, 0, none⟩)), (34, .pointer (some ⟨g, 0, none⟩)), (35, .pointer (some ⟨g, 0, none⟩)), (36, .bool false), (37, .bool false), (38, undef), (39, undef), (40, undef), (41, undef), (42, undef), (43, undef), (44, undef), (45, (Value.bool false)), (4, (Value.bool false))]) (fun _ => rfl) 1 (by kernel_rfl) ?_
     ·refine cp fun t vs ac wx K Q hR hZ hK => ?_
      have t5 : ac.tmps[5]? = some (.slice (some ⟨w.heap.size, 0, none⟩) 3 3) := hR.o 5
      go_simp
      exact hK _ hZ
     ·refine cp fun t vs ac wx K Q hR hZ hK => ?_
      have t30 := hR.q 0
      go_simp
      exact hK _ hZ
     ·refine cp fun t vs ac wx K Q hR hZ hK => ?_
      have t31 := hR.q 1
      have y0 := hZ.rg.cell HV.out.1 hne
      go_simp
      exact hK _ hZ
     ·refine cp fun t vs ac wx K Q hR hZ hK => ?_
      have t1 : ac.tmps[1]? = some (.pointer (some ⟨g, 0, none⟩)) := hR.o 1
      go_simp
      exact hK _ hZ
     ·refine cp fun t vs ac wx K Q hR hZ hK => ?_
      have t33 := hR.q 3
      go_simp
      exact hK _ hZ
     ·refine cp fun t vs ac wx K Q hR hZ hK => ?_
      have t34 := hR.q 4
      go_simp
      exact hK _ hZ
     ·refine cw fun vs ac wx K Q hR hZ hK => ?_
      have t32 := hR.q 2
      have t35 := hR.q 5
      go_simp
      go_at_call 61
      refine (aB ⟨a.toArray⟩ g 0 T _ _ (by rw [← af]; simp; omega) (hZ.at rfl) (by simp) (HLV.out.lv.below (hZ.rg.below (by omega)))).mono ?_
      rintro e w' hS
      obtain ⟨rfl, hZ2⟩ := hZ.no (cs := [some #[v0, v1, v2, .bool true], none]) rfl hS (by rw [HN.out]; rfl)
      exact hK _ _ bf hZ2
     ·refine cp fun t vs ac wx K Q hR hZ hK => ?_
      have t36 := hR.weq 6 (by kernel_rfl) rfl rfl
      go_simp
      exact hK _ hZ
     ·refine cp fun t vs ac wx K Q hR hZ hK => ?_
      have t37 := hR.q 7
      have t44 := hR.skip 14 (by kernel_rfl) rfl rfl
      go_simp
      exact hK _ hZ
     ·refine cp fun t vs ac wx K Q hR hZ hK => ?_
      have t45 := hR.q 15
      go_simp
      exact hK _ hZ
     intro vs wN hZ
     simp only [aH, List.foldl_cons, List.foldl_nil]
     go_simp
     go_wp2_with fail
     go_ret
     exact gp (HV.out.2.2.trans hZ.rg) hZ.any (by rw [HE.out, HN.out]; rfl)
    ·have HN := hid hna
     have HV2 := hid hvb
     clear hna hvb
     refine aD (w0 := V) rfl [.eq (.slice (some ⟨w.heap.size, 0, none⟩) 3 3), .eq (.pointer (some ⟨w.heap.size, 0, none⟩)), .eq (.string ⟨a.toArray⟩), .eq (.pointer (some ⟨g, 0, none⟩)), .eq (.pointer (some ⟨g, 0, none⟩)), .eq (.pointer (some ⟨g, 0, none⟩)), .weq (.bool true), .eq (.bool true), .eq (.slice (some ⟨w.heap.size, 0, none⟩) 3 3), .eq (.pointer (some ⟨w.heap.size, 1, none⟩)), .eq (.string ⟨b.toArray⟩), .eq (.pointer (some ⟨g, 0, none⟩)), .eq (.pointer (some ⟨g, 0, none⟩)), .eq (.pointer (some ⟨g, 1, none⟩)), .weq (.bool false), .eq (.bool false), .eq (.bool false)] (fw g T V [some #[v0, v1, v2, .bool true], some #[.int .u64 (n : Nat), v1, v2, .bool true], none]) (by kernel_rfl) (⟨_, HZ.out _ rfl⟩) ⟨?_, ?_, ?_, ?_, ?_, ?_, ?_, ?_, ?_, ?_, ?_, ?_, ?_, ?_, ?_, ?_, ?_, trivial⟩ (fun vs => [(30, .slice (some ⟨w.heap.size, 0, none⟩) 3 3), (31, .pointer (some ⟨w.heap.size, 0, none⟩)), (32, .string ⟨a.toArray⟩), (33, .pointer (some ⟨g, 0, none⟩)), (34, .pointer (some ⟨g, 0, none⟩)), (35, .pointer (some ⟨g, 0, none⟩)), (36, .bool true), (37, .bool true), (38, .slice (some ⟨w.heap.size, 0, none⟩) 3 3), (39, .pointer (some ⟨w.heap.size, 1, none⟩)), (40, .string ⟨b.toArray⟩), (41, .pointer (some ⟨g, 0, none⟩)), (42, .pointer (some ⟨g, 0, none⟩)), (43, .pointer (some ⟨g, 1, none⟩)), (44, .bool false), (45, .bool false), (4, .bool false)]) (fun _ => rfl) 2 (by kernel_rfl) ?_
     ·refine cp fun t vs ac wx K Q hR hZ hK => ?_
      have t5 : ac.tmps[5]? = some (.slice (some ⟨w.heap.size, 0, none⟩) 3 3) := hR.o 5
      go_simp
      exact hK _ hZ
     ·refine cp fun t vs ac wx K Q hR hZ hK => ?_
      have t30 := hR.q 0
      go_simp
      exact hK _ hZ
     ·refine cp fun t vs ac wx K Q hR hZ hK => ?_
      have t31 := hR.q 1
      have y0 := hZ.rg.cell HV.out.1 hne
      go_simp
      exact hK _ hZ
     ·refine cp fun t vs ac wx K Q hR hZ hK => ?_
      have t1 : ac.tmps[1]? = some (.pointer (some ⟨g, 0, none⟩)) := hR.o 1
      go_simp
      exact hK _ hZ
     ·refine cp fun t vs ac wx K Q hR hZ hK => ?_
      have t33 := hR.q 3
      go_simp
      exact hK _ hZ
     ·refine cp fun t vs ac wx K Q hR hZ hK => ?_
      have t34 := hR.q 4
      go_simp
      exact hK _ hZ
     ·refine cw fun vs ac wx K Q hR hZ hK => ?_
      have t32 := hR.q 2
      have t35 := hR.q 5
      go_simp
      go_at_call 61
      refine (aB ⟨a.toArray⟩ g 0 T _ _ (by rw [← af]; simp; omega) (hZ.at rfl) (by simp) (HLV.out.lv.below (hZ.rg.below (by omega)))).mono ?_
      rintro e w' hS
      obtain ⟨rfl, hZ2⟩ := hZ.yes (cs := [some #[v0, v1, v2, .bool true], some #[.int .u64 (n : Nat), v1, v2, .bool true], none]) rfl hS (c := #[.int .u64 (n : Nat), v1, v2, .bool true]) (by rw [HN.out]; simp)
      exact hK _ _ bf hZ2
     ·refine cp fun t vs ac wx K Q hR hZ hK => ?_
      have t36 := hR.weq 6 (by kernel_rfl) rfl rfl
      go_simp
      exact hK _ hZ
     ·refine cp fun t vs ac wx K Q hR hZ hK => ?_
      have t5 : ac.tmps[5]? = some (.slice (some ⟨w.heap.size, 0, none⟩) 3 3) := hR.o 5
      go_simp
      exact hK _ hZ
     ·refine cp fun t vs ac wx K Q hR hZ hK => ?_
      have t38 := hR.q 8
      go_simp
      exact hK _ hZ
     ·refine cp fun t vs ac wx K Q hR hZ hK => ?_
      have t39 := hR.q 9
      have y0 := hZ.rg.cell HV.out.2.1 hne
      go_simp
      exact hK _ hZ
     ·refine cp fun t vs ac wx K Q hR hZ hK => ?_
      have t1 : ac.tmps[1]? = some (.pointer (some ⟨g, 0, none⟩)) := hR.o 1
      go_simp
      exact hK _ hZ
     ·refine cp fun t vs ac wx K Q hR hZ hK => ?_
      have t41 := hR.q 11
      go_simp
      exact hK _ hZ
     ·refine cp fun t vs ac wx K Q hR hZ hK => ?_
      have t42 := hR.q 12
      go_simp
      exact hK _ hZ
     ·refine cw fun vs ac wx K Q hR hZ hK => ?_
      have t40 := hR.q 10
      have t43 := hR.q 13
      go_simp
      go_at_call 151
      refine (dC ⟨b.toArray⟩ g 1 T _ _ (by rw [← af]; simp; omega) (hZ.at rfl) (by simp) (HLV.out.below (hZ.rg.below (by omega)))).mono ?_
      rintro e w' hS
      obtain ⟨rfl, hZ2⟩ := hZ.no (cs := [some #[v0, v1, v2, .bool true], some #[.int .u64 (n : Nat), v1, v2, .bool true], none]) rfl hS (by rw [HV2.out]; rfl)
      exact hK _ _ bf hZ2
     ·refine cp fun t vs ac wx K Q hR hZ hK => ?_
      have t37 := hR.q 7
      have t44 := hR.weq 14 (by kernel_rfl) rfl rfl
      go_simp
      exact hK _ hZ
     ·refine cp fun t vs ac wx K Q hR hZ hK => ?_
      have t45 := hR.q 15
      go_simp
      exact hK _ hZ
     intro vs wN hZ
     simp only [aH, List.foldl_cons, List.foldl_nil]
     go_simp
     go_wp2_with fail
     go_ret
     exact gp (HV.out.2.2.trans hZ.rg) hZ.any (by rw [HE.out, HN.out, HV2.out]; rfl)
    ·have HN := hid hna
     have HV2 := hid hvb
     clear hna hvb
     refine aD (w0 := V) rfl [.eq (.slice (some ⟨w.heap.size, 0, none⟩) 3 3), .eq (.pointer (some ⟨w.heap.size, 0, none⟩)), .eq (.string ⟨a.toArray⟩), .eq (.pointer (some ⟨g, 0, none⟩)), .eq (.pointer (some ⟨g, 0, none⟩)), .eq (.pointer (some ⟨g, 0, none⟩)), .weq (.bool true), .eq (.bool true), .eq (.slice (some ⟨w.heap.size, 0, none⟩) 3 3), .eq (.pointer (some ⟨w.heap.size, 1, none⟩)), .eq (.string ⟨b.toArray⟩), .eq (.pointer (some ⟨g, 0, none⟩)), .eq (.pointer (some ⟨g, 0, none⟩)), .eq (.pointer (some ⟨g, 1, none⟩)), .weq (.bool true), .eq (.bool true), .eq (.bool true)] (fw g T V [some #[v0, v1, v2, .bool true], some #[.int .u64 (n : Nat), v1, v2, .bool true], some #[.int .u64 (n : Nat), .int .u64 (v.1 : Nat), .int .u64 (v.2 : Nat), .bool true]]) (by kernel_rfl) (⟨_, HZ.out _ rfl⟩) ⟨?_, ?_, ?_, ?_, ?_, ?_, ?_, ?_, ?_, ?_, ?_, ?_, ?_, ?_, ?_, ?_, ?_, trivial⟩ (fun vs => [(30, .slice (some ⟨w.heap.size, 0, none⟩) 3 3), (31, .pointer (some ⟨w.heap.size, 0, none⟩)), (32, .string ⟨a.toArray⟩), (33, .pointer (some ⟨g, 0, none⟩)), (34, .pointer (some ⟨g, 0, none⟩)), (35, .pointer (some ⟨g, 0, none⟩)), (36, .bool true), (37, .bool true), (38, .slice (some ⟨w.heap.size, 0, none⟩) 3 3), (39, .pointer (some ⟨w.heap.size, 1, none⟩)), (40, .string ⟨b.toArray⟩), (41, .pointer (some ⟨g, 0, none⟩)), (42, .pointer (some ⟨g, 0, none⟩)), (43, .pointer (some ⟨g, 1, none⟩)), (44, .bool true), (45, .bool true), (4, .bool true)]) (fun _ => rfl) 2 (by kernel_rfl) ?_
     ·refine cp fun t vs ac wx K Q hR hZ hK => ?_
      have t5 : ac.tmps[5]? = some (.slice (some ⟨w.heap.size, 0, none⟩) 3 3) := hR.o 5
      go_simp
      exact hK _ hZ
     ·refine cp fun t vs ac wx K Q hR hZ hK => ?_
      have t30 := hR.q 0
      go_simp
      exact hK _ hZ
     ·refine cp fun t vs ac wx K Q hR hZ hK => ?_
      have t31 := hR.q 1
      have y0 := hZ.rg.cell HV.out.1 hne
      go_simp
      exact hK _ hZ
     ·refine cp fun t vs ac wx K Q hR hZ hK => ?_
      have t1 : ac.tmps[1]? = some (.pointer (some ⟨g, 0, none⟩)) := hR.o 1
      go_simp
      exact hK _ hZ
     ·refine cp fun t vs ac wx K Q hR hZ hK => ?_
      have t33 := hR.q 3
      go_simp
      exact hK _ hZ
     ·refine cp fun t vs ac wx K Q hR hZ hK => ?_
      have t34 := hR.q 4
      go_simp
      exact hK _ hZ
     ·refine cw fun vs ac wx K Q hR hZ hK => ?_
      have t32 := hR.q 2
      have t35 := hR.q 5
      go_simp
      go_at_call 61
      refine (aB ⟨a.toArray⟩ g 0 T _ _ (by rw [← af]; simp; omega) (hZ.at rfl) (by simp) (HLV.out.lv.below (hZ.rg.below (by omega)))).mono ?_
      rintro e w' hS
      obtain ⟨rfl, hZ2⟩ := hZ.yes (cs := [some #[v0, v1, v2, .bool true], some #[.int .u64 (n : Nat), v1, v2, .bool true], some #[.int .u64 (n : Nat), .int .u64 (v.1 : Nat), .int .u64 (v.2 : Nat), .bool true]]) rfl hS (c := #[.int .u64 (n : Nat), v1, v2, .bool true]) (by rw [HN.out]; simp)
      exact hK _ _ bf hZ2
     ·refine cp fun t vs ac wx K Q hR hZ hK => ?_
      have t36 := hR.weq 6 (by kernel_rfl) rfl rfl
      go_simp
      exact hK _ hZ
     ·refine cp fun t vs ac wx K Q hR hZ hK => ?_
      have t5 : ac.tmps[5]? = some (.slice (some ⟨w.heap.size, 0, none⟩) 3 3) := hR.o 5
      go_simp
      exact hK _ hZ
     ·refine cp fun t vs ac wx K Q hR hZ hK => ?_
      have t38 := hR.q 8
      go_simp
      exact hK _ hZ
     ·refine cp fun t vs ac wx K Q hR hZ hK => ?_
      have t39 := hR.q 9
      have y0 := hZ.rg.cell HV.out.2.1 hne
      go_simp
      exact hK _ hZ
     ·refine cp fun t vs ac wx K Q hR hZ hK => ?_
      have t1 : ac.tmps[1]? = some (.pointer (some ⟨g, 0, none⟩)) := hR.o 1
      go_simp
      exact hK _ hZ
     ·refine cp fun t vs ac wx K Q hR hZ hK => ?_
      have t41 := hR.q 11
      go_simp
      exact hK _ hZ
     ·refine cp fun t vs ac wx K Q hR hZ hK => ?_
      have t42 := hR.q 12
      go_simp
      exact hK _ hZ
     ·refine cw fun vs ac wx K Q hR hZ hK => ?_
      have t40 := hR.q 10
      have t43 := hR.q 13
      go_simp
      go_at_call 151
      refine (dC ⟨b.toArray⟩ g 1 T _ _ (by rw [← af]; simp; omega) (hZ.at rfl) (by simp) (HLV.out.below (hZ.rg.below (by omega)))).mono ?_
      rintro e w' hS
      obtain ⟨rfl, hZ2⟩ := hZ.yes (cs := [some #[v0, v1, v2, .bool true], some #[.int .u64 (n : Nat), v1, v2, .bool true], some #[.int .u64 (n : Nat), .int .u64 (v.1 : Nat), .int .u64 (v.2 : Nat), .bool true]]) rfl hS (c := #[.int .u64 (n : Nat), .int .u64 (v.1 : Nat), .int .u64 (v.2 : Nat), .bool true]) (by rw [HV2.out]; simp)
      exact hK _ _ bf hZ2
     ·refine cp fun t vs ac wx K Q hR hZ hK => ?_
      have t37 := hR.q 7
      have t44 := hR.weq 14 (by kernel_rfl) rfl rfl
      go_simp
      exact hK _ hZ
     ·refine cp fun t vs ac wx K Q hR hZ hK => ?_
      have t45 := hR.q 15
      go_simp
      exact hK _ hZ
     intro vs wN hZ
     simp only [aH, List.foldl_cons, List.foldl_nil]
     go_simp
     go_wp2_with fail
     go_ret
     exact sU (HV.out.2.2.trans hZ.rg) (hZ.at rfl) (by rw [HE.out, HN.out, HV2.out]; rfl)
  ·-- neither
   have hn48 : (f == [48]) = false := by rw [beq_eq_false_iff_ne]; exact fun e => hff (.inl e)
   have hn49 : (f == [49]) = false := by rw [beq_eq_false_iff_ne]; exact fun e => hff (.inr e)
   have hN : jP s.data.toList = none := by rw [HE.out, if_neg hff]
   have HN := hid hN
   clear hff hN
   go_wp2_with fail
   go_ret
   exact gp (Rg.of_below HB.out.1) HB.out.2 (by rw [HN.out]; rfl)
 ·have HN := hid (yl h3)
  obtain ⟨n, hn⟩ : ∃ n, n = (cuts 58 s.data.toList).length := ⟨_, rfl⟩
  rw [← hn] at h3 ⊢
  have t3 : ((n : Int) != 3) = true := by simp; omega
  clear h3
  have hb : Below w.heap.size w (w.alloc (.cells (strs (cuts 58 s.data.toList)).toArray 9)) := br.alloc nl _
  have HB := hid hb
  clear hb hn
  go_wp2_with fail
  go_ret
  exact gp (Rg.of_below HB.out) ((HB.out.block _ hlt).trans HH.out) (by rw [HN.out]; rfl)
end Go.Proofs.YtlpgokcapdjgjaaGreatDoor
