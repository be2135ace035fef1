/- The law PhenomTexts returns true whatever the phenomena and the text are, and they read behind the call as before: the row and its tied card. The conditions are the card's own: the listed variables of Go's library read as laid. -/
import Derived.Test.YtacbiajedbbnbaaGreatDoorUP11
import Derived.Test.YtacbiajedbbnbaaGreatDoorUR06
import Derived.Test.YtacbiajedbbnbaaGreatDoorUF20
import Derived.Test.YtacbiajedbbnbaaGreatDoorTie
import Derived.Test.YtacbiajedbbnbaaGreatDoorCards
import Derived.Carry
namespace Go.Proofs.YtacbiajedbbnbaaGreatDoor
open Go.ChangeShapes Go.WideShapes Go.ChangeAt Go.RowKit Go
set_option linter.unusedVariables false
set_option linter.unusedSimpArgs false
section
variable {P : Program} {w : World} {r : Reach} {b : Nat} {t : TypeId} {v : Value}
/-- The cells of a struct that came in. -/
theorem agg_cells {fs : Array Field} (hu : P.underlying t = some (.struct fs)) (h : Value.okWide P w r b t v) : ∃ cs ts, v = .agg cs ∧ cs.size = P.cellsOf t ∧ P.cellTypes P.depth t = some ts ∧ ∀ i V, cs[i]? = some V → ∃ u, ts[i % ts.length]? = some u ∧ Cell.okWide P w r b u V := by
  simp only [Value.okWide, hu] at h
  obtain ⟨cs, rfl, h2, ts, h3, h4, h5⟩ := h
  exact ⟨cs, ts, rfl, h2, h3, h5⟩
theorem agg_at {fs : Array Field} {cs : Array Value} {i : Nat} {V : Value} {u : TypeId} (hu : P.underlying t = some (.struct fs)) (h : Value.okWide P w r b t (.agg cs)) (hV : cs[i]? = some V) (ht : (P.cellTypes P.depth t).bind (fun ts => ts[i % ts.length]?) = some u) : Cell.okWide P w r b u V := by
  obtain ⟨cs', ts, e, _, h3, h5⟩ := agg_cells hu h
  cases e
  obtain ⟨u', e', hc⟩ := h5 i V hV
  rw [h3] at ht
  have ht : ts[i % ts.length]? = some u := ht
  rw [ht] at e'; cases e'
  exact hc
theorem u64_cell {V : Value} {u : TypeId} (hk : P.underlying u = some (.int .u64)) (h : Cell.okWide P w r b u V) : ∃ n : Nat, V = .int .u64 n ∧ n < 18446744073709551616 := by
  cases V <;> simp [Cell.okWide, Cell.ok, hk] at h
  obtain ⟨rfl, h⟩ := h
  have h := has_u64 h
  obtain ⟨n, rfl⟩ := Int.eq_ofNat_of_zero_le h.1
  exact ⟨n, rfl, by omega⟩
theorem i64_cell {V : Value} {u : TypeId} (hk : P.underlying u = some (.int .i64)) (h : Cell.okWide P w r b u V) : ∃ n : Int, V = .int .i64 n ∧ -9223372036854775808 ≤ n ∧ n ≤ 9223372036854775807 := by
  cases V <;> simp [Cell.okWide, Cell.ok, hk] at h
  obtain ⟨rfl, h⟩ := h
  exact ⟨_, rfl, has_i64 h⟩
end
theorem list7 {l : List Value} (h : l.length = 7) : ∃ a b c d e f g, l = [a, b, c, d, e, f, g] := by
  match l, h with
  | [a, b, c, d, e, f, g], _ => exact ⟨a, b, c, d, e, f, g, rfl⟩
set_option maxRecDepth 100000 in
theorem open_ph {w : World} {r : Reach} {b : Nat} {v : Value} (h : Value.okWide Tryz.prog w r b 26 v) : ∃ p : Ph, p.nums ∧ v = .agg p.vals.toArray := by
  obtain ⟨cs, ts, rfl, h2, h3, _⟩ := agg_cells Tryz.underlying26 h
  have hc : Tryz.prog.cellsOf 26 = 7 := by kernel_rfl
  obtain ⟨c0, c1, c2, c3, c4, c5, c6, hq⟩ := list7 (l := cs.toList) (by rw [Array.length_toList, h2, hc])
  obtain rfl : cs = #[c0, c1, c2, c3, c4, c5, c6] := by rw [← hq]
  have at_ := fun i V u hV ht => agg_at (i := i) (V := V) (u := u) Tryz.underlying26 h hV ht
  obtain ⟨k, rfl, k1, k2⟩ := i64_cell Tryz.underlying3 (at_ 0 _ 3 rfl (by kernel_rfl))
  obtain ⟨a, rfl, a1, a2⟩ := i64_cell Tryz.underlying3 (at_ 1 _ 3 rfl (by kernel_rfl))
  obtain ⟨c, rfl, b1, b2⟩ := i64_cell Tryz.underlying3 (at_ 2 _ 3 rfl (by kernel_rfl))
  obtain ⟨d, rfl, d1⟩ := u64_cell Tryz.underlying22 (at_ 3 _ 22 rfl (by kernel_rfl))
  obtain ⟨e, rfl, e1⟩ := u64_cell Tryz.underlying22 (at_ 4 _ 22 rfl (by kernel_rfl))
  obtain ⟨f, rfl, f1⟩ := u64_cell Tryz.underlying22 (at_ 5 _ 22 rfl (by kernel_rfl))
  obtain ⟨g, rfl, g1⟩ := u64_cell Tryz.underlying22 (at_ 6 _ 22 rfl (by kernel_rfl))
  exact ⟨⟨k, a, c, d, e, f, g⟩, ⟨⟨k1, k2⟩, ⟨a1, a2⟩, ⟨b1, b2⟩, d1, e1, f1, g1⟩, rfl⟩
theorem ev_laidOut : laidOutB Tryz.prog = true := by kernel_rfl
theorem phenomTexts_own : ownKnob Tryz.prog.godebug = none := by kernel_rfl
set_option maxRecDepth 100000 in
theorem phenomTexts_lifted (os : Os) (started : os.Started) (H : Type) (enc : TypeId × Value → H) :
    ReturnsInHanded {} Tryz.checked os 3 .any (fun w args => (Rows.phenomTextsSpec.pre enc Tryz.prog Tryz.f3 [] false w args ∧ laidMetH Tryz.prog laidL w) ∧ sizedMet enc Tryz.prog Tryz.f3 (OpenSpec.ofChange Rows.phenomTextsSpec) false w args)
      (Rows.phenomTextsSpec.post enc Tryz.prog Tryz.f3 false true false false) := by
  refine handed_both (C := Tryz.checked) (X := fun w _ => laidMetH Tryz.prog laidL w) (fun _ _ _ hh h => h.of_heap hh) phenomTexts_own started (by kernel_rfl) Tryz.func3
    (ChangeSpec.witness_shaped (enc := enc) (C := Tryz.checked) (os := os) (X := fun w _ => laidMetH Tryz.prog laidL w) false (laidW os) #[.agg Ph.zero.vals.toArray, .agg Ph.zero.vals.toArray, .string ⟨#[]⟩] 8 (World.laidAll_os _ _ _)
      (laidW_shaped os _) (by kernel_rfl) (by kernel_rfl) (by kernel_rfl) (laidW_met os _)) ?_
  intro W base args ds gs before hval0 hW hsh hL
  have hval : ∀ (j : Nat) t v, Tryz.f3.params[j]? = some t → args[j]? = some v → Value.okWide Tryz.prog W .any base t v := hval0
  have hW' := hW
  obtain ⟨p, q, hA0, hV, rfl, _, _⟩ := hW
  have hA : DataW.TrodAll enc Tryz.prog W 0 (fun _ => true) true Tryz.f3.params.toList args.toList ds p := hA0
  rw [Tryz.params3] at hA hval
  obtain ⟨v0, v1, v2, d0, d1, d2, p0, p1, p2, rfl, rfl, rfl, h0, h1, h2⟩ := trodAll_three hA
  obtain ⟨rfl, rfl⟩ := trodVars_none hV
  obtain ⟨x0, n0, rfl⟩ := open_ph (hval 0 _ v0 rfl rfl)
  obtain ⟨x1, n1, rfl⟩ := open_ph (hval 1 _ v1 rfl rfl)
  obtain ⟨s, rfl, rfl, rfl, ws⟩ := Go.ChangeMaps.open_string Tryz.underlying9 (hval 2 9 v2 rfl rfl) h2
  simp only [List.append_nil] at hW'
  have lt0 : ∀ z ∈ p0, z.block < W.heap.size := fun z hz => by simpa using hW'.lt z (by simp [hz])
  have lt1 : ∀ z ∈ p1, z.block < W.heap.size := fun z hz => by simpa using hW'.lt z (by simp [hz])
  refine (phenomTexts_law x0 x1 n0 n1 s ws W (lq_of_laid hL hsh)).mono fun e W' ⟨he, hb⟩ => ?_
  subst he
  exact ⟨_, rfl, _, _, _, [], _, [], hW', trodAll_mk1 (shut_bool Tryz.underlying4 _), trodAll_mk3 (Below.trod ev_laidOut (by kernel_rfl) (of_decide_eq_true (by kernel_rfl)) h0 hb lt0) (Below.trod ev_laidOut (by kernel_rfl) (of_decide_eq_true (by kernel_rfl)) h1 hb lt1) (Go.ChangeMaps.shut_string Tryz.underlying9 ws), rfl, hb.frame _, fun h => by cases h⟩

theorem phenomTexts_row : Rows.PhenomTextsSaid :=
  OpenClaim.holds_of_wide 3 Tryz.f3 rfl rfl rfl rfl rfl rfl rfl ⟨rfl, rfl, rfl, rfl, rfl⟩ rfl rfl rfl rfl rfl phenomTexts_named Tryz.func3 phenomTexts_facts
    (of_decide_eq_true (by kernel_rfl)) (by unfold Func.isWrapper; first | (rw [if_pos (by decide +kernel)]; kernel_rfl) | (rw [if_neg (by decide +kernel)]; exact ⟨rfl, rfl⟩))
    (fun os started H enc _ => phenomTexts_lifted os started H enc)

theorem phenomTexts_card : Rows.PhenomTextsCardSaid :=
  Claim7.holds_tied_plain_at .later [] [.data, .data, .data, .data, .sentinel, .sentinel, .pinned] true (true, "178eb33c9f76f89b1e6ec82091838988f4291eade92f6b3f968a02d2c7d84cd2") true
    phenomTexts_row (fun _ h => by cases h) phenomTexts_wf (fun _ h => by cases h) phenomTexts_row_tie rfl ⟨rfl, rfl⟩ seat_main rfl
    (fun f fn hf hfn => by
      obtain rfl : f = 3 := Option.some.inj (phenomTexts_named.symm.trans hf) |>.symm
      obtain rfl : fn = Tryz.f3 := (Option.some.inj (Tryz.func3.symm.trans hfn)).symm
      exact ⟨seat_looks, fun j t ht => by
        rw [Tryz.params3] at ht
        have hm : t ∈ [26, 9] := by
          have := Array.mem_of_getElem? ht
          simp at this ⊢
          omega
        have hs := List.all_eq_true.1 phenomTexts_stand t hm
        simpa using hs⟩)
    phenomTexts_goes
#print axioms phenomTexts_card
end Go.Proofs.YtacbiajedbbnbaaGreatDoor
