/- Walks: versions and entries of a record's text. -/
import Derived.Test.YtjedgiiplebofaaGreatDoorQW20
import Derived.Test.YtjedgiiplebofaaGreatDoorQ21
import Derived.Deep.RegionHeld3
import Derived.Deep.RegionLaw
namespace Go.Proofs.YtjedgiiplebofaaGreatDoor
open Go.RowKit Go
set_option linter.unusedVariables false
set_option linter.unusedSimpArgs false
/-- What the library's variables hold, for texts that are cut. -/
structure Lq (B : Nat) (w : World) : Prop where
  lv : Lv B w
  mx : ∃ m, w.cell? ⟨0, 0, none⟩ = some (.int .i64 m)
  ml : 0 < B
theorem Lq.below {B : Nat} {w w' : World} (h : Lq B w) (hb : Below B w w') : Lq B w' := ⟨h.lv.below hb, by obtain ⟨m, hm⟩ := h.mx; exact ⟨m, (hb.cell h.ml).trans hm⟩, h.ml⟩
theorem Lq.mono {B B' : Nat} {w : World} (h : Lq B w) (hB : B ≤ B') : Lq B' w := ⟨h.lv.mono hB, h.mx, by have := h.ml; omega⟩
theorem cut_any (c : UInt8) (s : ByteArray) (w : World) (hs : s.size ≤ 1000000) (hL : Lq w.heap.size w) :
    Calls Tryz.prog 132 #[.string s, .string ⟨#[c]⟩] w fun e w' => e = .returned (.tuple #[.string ⟨(Lib.cut s.data.toList [c]).1.toArray⟩, .string ⟨(Lib.cut s.data.toList [c]).2.1.toArray⟩, .bool (Lib.cut s.data.toList [c]).2.2]) ∧ Below w.heap.size w w' := by
  obtain ⟨m, hm⟩ := hL.mx
  refine (Tryz.strings_Cut s ⟨#[c]⟩ m w (by omega) hm).mono ?_
  rintro e w' ⟨rfl, n, rfl⟩
  exact ⟨rfl, below_drewN (Below.refl _ _) _⟩
theorem split_any (c : UInt8) (s : ByteArray) (w : World) (hs : s.size ≤ 1000000) (hL : Lq w.heap.size w) :
    Calls Tryz.prog 81 #[.string s, .string ⟨#[c]⟩] w fun e w' => e = .returned (.slice (some ⟨w.heap.size, 0, none⟩) (cuts c s.data.toList).length (cuts c s.data.toList).length) ∧ w' = w.alloc (.cells (strs (cuts c s.data.toList)).toArray 9) := by
  obtain ⟨m, hm⟩ := hL.mx
  refine (Tryz.strings_Split s ⟨#[c]⟩ m w (by omega) hm (by simp [ByteArray.size])).mono ?_
  rintro e w' ⟨rfl, rfl⟩
  rw [splitB_len, ← splitB_cuts]
  refine ⟨rfl, ?_⟩
  congr 3
  simp only [strs, List.map_map]
  apply List.map_congr_left
  intro b _
  simp
/-- A row of texts in memory, at its first cell. -/
def RepS (w : World) (S : Nat → Prop) (l : List (List UInt8)) (v : Value) : Prop := Sl w S true 1 l.length (strs l) v
theorem RepS.at {w : World} {S : Nat → Prop} {l : List (List UInt8)} {ad : Option Addr} {cap : Nat} (h : RepS w S l (.slice ad l.length cap)) (hn : 0 < l.length) :
    ∃ bl off, ad = some ⟨bl, off, none⟩ ∧ S bl ∧ ∀ j (hj : j < l.length), w.cell? ⟨bl, off + j, none⟩ = some (.string ⟨l[j].toArray⟩) := by
  obtain ⟨bl, off, h1, h2, h3⟩ := Sl.cells h hn
  refine ⟨bl, off, h1, h2, fun j hj => ?_⟩
  have := (h3 j (by rw [strs_length]; exact hj)).1
  rw [this]; simp [strs]
theorem RepS.alloc (w : World) (l : List (List UInt8)) (T : TypeId) (hl : l.length ≤ 9223372036854775807) : RepS (w.alloc (.cells (strs l).toArray T)) (fun b => b = w.heap.size) l (.slice (some ⟨w.heap.size, 0, none⟩) l.length l.length) := by
  refine ⟨by rw [strs_length]; omega, hl, _, _, rfl, Nat.le_refl _, fun _ => ⟨_, _, rfl, rfl, fun j hj => ⟨?_, fun _ => ?_⟩⟩⟩
  · rw [cell_of_row _ _ _ _ _ _ (heap_alloc_at w _ _ rfl), Nat.zero_add, List.getElem?_toArray, List.getElem?_eq_getElem hj]
  · rw [frozen_of_row _ _ _ _ _ (heap_alloc_at w _ _ rfl)]
set_option maxHeartbeats 1000000 in
set_option maxRecDepth 100000 in
theorem recVersion_any (s : ByteArray) (g o : Nat) (T : TypeId) (cs : Array Value) (w : World) (hs : s.size ≤ 100000) (hh : w.heap[g]? = some (.cells cs T (0, 0))) (ho : o + 1 < cs.size) (hL : Lq g w) :
    Calls Tryz.prog 221 #[.string s, .pointer (some ⟨g, o, none⟩)] w (Sets g T ((verB s.data.toList).map fun (v : Nat × Nat) => (cs.setIfInBounds o (.int .u64 (v.1 : Nat))).setIfInBounds (o + 1) (.int .u64 (v.2 : Nat))) w) := by
  have hlt : g < w.heap.size := (Array.getElem?_eq_some_iff.1 hh).1
  have HP := Lib.hid (cut_any 46 s w (by omega) (hL.mono (by omega)))
  have HH := Lib.hid hh
  have HL := Lib.hid hL
  clear hh hL
  by_cases hm : (46 : UInt8) ∈ s.data.toList
  · obtain ⟨x, r, hc, hx, hn⟩ := cut_some hm
    have hsx : x.length ≤ s.size ∧ r.length ≤ s.size := by
      rw [← ba_size, hx]; simp; omega
    have HV := Lib.hid (And.intro hc (And.intro (verB_cut (r := r) hn) hx))
    clear hc hm hx hn
    go_enter Tryz.func221, Tryz.ntmps221
    go_wp2_with fail
    refine HP.out.mono ?_
    rintro e w1 ⟨rfl, hb1⟩
    rw [HV.out.1]
    have hz1 : g < w1.heap.size := by have := hb1.size; omega
    have HB := Lib.hid hb1
    clear hb1
    go_wp2_with fail
    refine (recNumber_any ⟨x.toArray⟩ g o T cs _ (by rw [← ba_size]; simp; omega) ((HB.out.block _ hlt).trans HH.out) (by omega) (HL.out.lv.below (HB.out.mono (by omega)))).mono ?_
    rintro e w2 ⟨cs2, rfl, h2, hg2, hw2⟩
    have hlt2 : g < w2.heap.size := (Array.getElem?_eq_some_iff.1 h2).1
    rw [Option.isSome_map]
    cases hnx : numB x with
    | none =>
      have HN := Lib.hid (And.intro h2 ((Rg.of_below (rb := g) HB.out).trans hg2))
      have HX := Lib.hid hnx
      clear h2 hg2 hw2 hnx
      have hf : (none : Option Nat).isSome = false := rfl
      rw [hf]; clear hf
      go_wp2_with fail
      go_ret
      exact sets_mk HN.out.2 HN.out.1 (by rw [HV.out.2.2, HV.out.2.1, HX.out]; rfl) (fun c hc => by rw [HV.out.2.2, HV.out.2.1, HX.out] at hc; cases hc)
    | some n1 =>
      have e2 := hw2 (cs.setIfInBounds o (.int .u64 (n1 : Nat))) (by simp [hnx])
      subst e2
      have HN := Lib.hid (And.intro h2 ((Rg.of_below (rb := g) HB.out).trans hg2))
      have HX := Lib.hid hnx
      clear h2 hg2 hw2 hnx
      have hf : (some n1).isSome = true := rfl
      rw [hf]; clear hf
      go_wp2_with fail
      refine (recNumber_any ⟨r.toArray⟩ g (o + 1) T _ _ (by rw [← ba_size]; simp; omega) HN.out.1 (by simp; omega) (HL.out.lv.below (HN.out.2.below (by omega)))).mono ?_
      rintro e w3 ⟨cs3, rfl, h3, hg3, hw3⟩
      have HE := Lib.hid (And.intro h3 (And.intro (HN.out.2.trans hg3) hw3))
      clear h3 hg3 hw3
      go_wp2_with fail
      go_ret
      refine sets_mk HE.out.2.1 HE.out.1 ?_ ?_
      · rw [HV.out.2.2, HV.out.2.1, HX.out]; simp
      · intro c hc
        refine HE.out.2.2 c ?_
        rw [HV.out.2.2, HV.out.2.1, HX.out] at hc
        simp only [Option.bind_some, Option.map_map] at hc
        simpa [Function.comp_def] using hc
  · have HV := Lib.hid (And.intro (cut_none hm) (verB_cut_none hm))
    clear hm
    go_enter Tryz.func221, Tryz.ntmps221
    go_wp2_with fail
    refine HP.out.mono ?_
    rintro e w1 ⟨rfl, hb1⟩
    rw [HV.out.1]
    have HB := Lib.hid hb1
    clear hb1
    go_wp2_with fail
    go_ret
    exact sets_mk (Rg.of_below HB.out) ((HB.out.block _ hlt).trans HH.out) (by rw [HV.out.2]; rfl) (fun c hc => by rw [HV.out.2] at hc; cases hc)
end Go.Proofs.YtjedgiiplebofaaGreatDoor
