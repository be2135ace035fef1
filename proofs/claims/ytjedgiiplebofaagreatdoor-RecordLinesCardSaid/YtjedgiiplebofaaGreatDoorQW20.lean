/- Walks: the numbers of a record's text. -/
import Derived.Test.YtjedgiiplebofaaGreatDoorQ39
import Derived.Test.YtjedgiiplebofaaGreatDoorQ21
import Derived.Test.YtjedgiiplebofaaGreatDoorQ20
namespace Go.Proofs.YtjedgiiplebofaaGreatDoor
open Go.RowKit Go
set_option linter.unusedVariables false
set_option linter.unusedSimpArgs false
theorem recDigits_any (u : Nat) (w : World) (hu64 : u < 18446744073709551616) (hL : Lv w.heap.size w) :
    Calls Tryz.prog 102 #[.int .u64 u] w fun e w' => e = .returned (.string ⟨(Lib.decDigits u).toArray⟩) ∧ Below w.heap.size w w' := by
  have HF := Lib.hid (formatUint_any u w hu64 hL.tab)
  clear hL
  go_enter Tryz.func102, Tryz.ntmps102
  go_wp2_with fail
  refine HF.out.mono ?_
  rintro e w' ⟨rfl, hb⟩
  go_wp2_with fail
  go_ret
  exact ⟨rfl, hb⟩
/-- ParseUint at any text. -/
theorem parseAll_any (s : ByteArray) (w : World) (hL : Lv w.heap.size w) (hsz : s.size ≤ 1000000) :
    Calls Tryz.prog 163 #[.string s, .int .i64 10, .int .i64 64] w fun e w' => ∃ (v : Nat) (er : Value), e = .returned (.tuple #[.int .u64 v, er]) ∧ v < 18446744073709551616 ∧
      ((er = .nilIface ∧ Lib.parseUintB 64 s.data.toList = .ok v) ∨ ((∃ te pe, er = .iface te (.pointer (some pe))) ∧ ∀ n, Lib.parseUintB 64 s.data.toList ≠ .ok n)) ∧ Below w.heap.size w w' := by
  rcases parse_three s.data.toList with ⟨u, hp⟩ | ⟨hno, hp | hp⟩
  · refine (Tryz.strconv_ParseUint_10_at64_ok s (by omega) _ hp w).mono ?_
    rintro e w' ⟨rfl, hw⟩
    refine ⟨_, _, rfl, (numB_of_ok hp).1, .inl ⟨rfl, hp⟩, ?_⟩
    rcases hw with rfl | rfl
    · exact Below.refl _ _
    · exact Lib.bytesWorld_below _ _ _
  · obtain ⟨tp, p, hs⟩ := hL.rng
    refine (Tryz.strconv_ParseUint_10_at64_range_var s (by omega) hp tp p w hs).mono ?_
    rintro e w' ⟨N, rfl, _, _, hb⟩
    exact ⟨18446744073709551615, _, rfl, by omega, .inr ⟨⟨_, _, rfl⟩, hno⟩, hb⟩
  · obtain ⟨tp, p, hs⟩ := hL.syn
    refine (Tryz.strconv_ParseUint_10_at64_syntax_var s (by omega) hp tp p w hs).mono ?_
    rintro e w' ⟨N, rfl, _, _, hb⟩
    exact ⟨0, _, rfl, by omega, .inr ⟨⟨_, _, rfl⟩, hno⟩, hb⟩
/-- What a call that reads into block g tells and leaves: all else stays. -/
def Sets (g : Nat) (T : TypeId) (want : Option (Array Value)) (w : World) (e : Ending) (w' : World) : Prop :=
  ∃ cs', e = .returned (.bool want.isSome) ∧ w'.heap[g]? = some (.cells cs' T (0, 0)) ∧ Rg g w w' ∧ ∀ c, want = some c → cs' = c
theorem sets_mk {g : Nat} {T : TypeId} {want : Option (Array Value)} {w w' : World} {b : Bool} {cs' : Array Value} (h1 : Rg g w w') (h2 : w'.heap[g]? = some (.cells cs' T (0, 0))) (h3 : b = want.isSome) (h4 : ∀ c, want = some c → cs' = c) : Sets g T want w (.returned (.bool b)) w' :=
  ⟨cs', by rw [h3], h2, h1, h4⟩
set_option maxHeartbeats 1000000 in
set_option maxRecDepth 100000 in
theorem recNumber_any (s : ByteArray) (g o : Nat) (T : TypeId) (cs : Array Value) (w : World) (hs : s.size ≤ 100000) (hh : w.heap[g]? = some (.cells cs T (0, 0))) (ho : o < cs.size) (hL : Lv g w) :
    Calls Tryz.prog 83 #[.string s, .pointer (some ⟨g, o, none⟩)] w (Sets g T ((numB s.data.toList).map fun (n : Nat) => cs.setIfInBounds o (.int .u64 (n : Nat))) w) := by
  have hlt : g < w.heap.size := (Array.getElem?_eq_some_iff.1 hh).1
  have HP := Lib.hid (parseAll_any s w (hL.mono (by omega)) (by omega))
  have HH := Lib.hid hh
  have HL := Lib.hid hL
  clear hh hL
  go_enter Tryz.func83, Tryz.ntmps83
  go_wp2_with fail
  refine HP.out.mono ?_
  rintro e w1 ⟨v, er, rfl, hv, hcase, hb1⟩
  have hh1 : w1.heap[g]? = some (.cells cs T (0, 0)) := (hb1.block _ hlt).trans HH.out
  have hz1 : g < w1.heap.size := by have := hb1.size; omega
  obtain ⟨u, hu⟩ : ∃ u, w1.cell? ⟨g, o, none⟩ = some u := ⟨cs[o], by rw [cell_of_row w1 _ o _ _ _ hh1]; exact Array.getElem?_eq_getElem ho⟩
  have hf : w1.frozen? ⟨g, o, none⟩ = false := by rw [frozen_of_row w1 _ o _ _ hh1]
  have hhs : (w1.setCell ⟨g, o, none⟩ (.int .u64 v)).heap[g]? = some (.cells (cs.setIfInBounds o (.int .u64 v)) T (0, 0)) := heap_set_at hh1 rfl
  have HS := Lib.hid (And.intro hhs ((Rg.of_below (rb := g) hb1).setCell o (.int .u64 v)))
  have HL1 := Lib.hid (HL.out.below (hb1.mono (by omega)))
  clear hh1 hhs hb1
  rcases hcase with ⟨rfl, hp⟩ | ⟨⟨te, pe, rfl⟩, hno⟩
  · have HN := Lib.hid (numB_of_ok hp)
    have HLs : Hid (Lv (w1.setCell ⟨g, o, none⟩ (.int .u64 v)).heap.size (w1.setCell ⟨g, o, none⟩ (.int .u64 v))) := Lib.hid ((HL.out.below (HS.out.2.below (by omega))).mono (by have := HS.out.2.size; omega))
    clear hp
    go_wp2_with fail
    refine (recDigits_any v _ hv HLs.out).mono ?_
    rintro e w2 ⟨rfl, hb2⟩
    have HB := Lib.hid hb2
    clear hb2
    go_wp2_with fail
    go_ret
    refine sets_mk (HS.out.2.trans (Rg.of_below HB.out)) ((HB.out.block _ (by simp; omega)).trans HS.out.1) ?_ ?_
    · rw [Option.isSome_map, ← HN.out.2.1, ByteArray.toList_eq]; by_cases hq : Lib.decDigits v = s.data.toList <;> simp [hq]
    · intro c hc
      obtain ⟨n, hn, rfl⟩ := Option.map_eq_some_iff.1 hc
      rw [HN.out.2.2 n hn]
  · have HN := Lib.hid (numB_of_no hno)
    clear hno
    go_wp2_with fail
    go_ret
    exact sets_mk HS.out.2 HS.out.1 (by rw [HN.out]; rfl) (fun c hc => by rw [HN.out] at hc; cases hc)
end Go.Proofs.YtjedgiiplebofaaGreatDoor
