/- The law JustNone returns true whatever its arguments are, and they read behind the call as before: the row and its tied card. The conditions are the card's own: the listed variables of Go's library read as laid. -/
import Derived.Test.YtignadeeafddmaaGreatDoorE00
import Derived.Test.YtignadeeafddmaaGreatDoorE05b
import Derived.Test.YtignadeeafddmaaGreatDoorF23
import Derived.Test.YtignadeeafddmaaGreatDoorTie
import Derived.Test.YtignadeeafddmaaGreatDoorCards
namespace Go.Proofs.YtignadeeafddmaaGreatDoor
open Go.ChangeShapes Go.WideShapes Go.ChangeAt Go.RowKit Go.Ev Go
set_option linter.unusedVariables false
set_option linter.unusedSimpArgs false
section
variable {P : Program} {w : World} {r : Reach} {b : Nat} {t : TypeId} {v : Value}
theorem int_cell {V : Value} {u : TypeId} {k : IntKind} (hk : P.underlying u = some (.int k)) (h : Cell.okWide P w r b u V) : ∃ n, V = .int k n ∧ k.has n := by
  cases V <;> simp [Cell.okWide, Cell.ok, hk] at h
  obtain ⟨rfl, h⟩ := h
  exact ⟨_, rfl, h⟩
/-- A struct whose first cell is an int: it is negative, or it is not. -/
theorem any_agg1 {fs : Array Field} {n : Nat} {u : TypeId} (hu : P.underlying t = some (.struct fs)) (h : Value.okWide P w r b t v) (hn : P.cellsOf t = n + 1) (ht : (P.cellTypes P.depth t).bind (·.head?) = some u) (hk : P.underlying u = some (.int .i64)) (m : Mp) :
    Rel m (.a (.r .i64 0 9223372036854775807 :: List.replicate n .any)) v ∨ Rel m (.a (.r .i64 (-9223372036854775808) (-1) :: List.replicate n .any)) v := by
  simp only [Value.okWide, hu] at h
  obtain ⟨cs, rfl, h2, ts, h3, h4, h5⟩ := h
  rw [h3] at ht
  have ht : ts.head? = some u := ht
  have hz : 0 < cs.size := by omega
  obtain ⟨u0, e0, hc⟩ := h5 0 cs[0] (Array.getElem?_eq_getElem hz)
  rw [Nat.zero_mod, ← List.head?_eq_getElem?, ht] at e0
  cases e0
  obtain ⟨q, hq, hr⟩ := int_cell hk hc
  have hb : -9223372036854775808 ≤ q ∧ q ≤ 9223372036854775807 := by simpa [IntKind.has, IntKind.min, IntKind.max, IntKind.signed, IntKind.bits] using hr
  have key : ∀ x, Rel m x cs[0] → Rel m (.a (x :: List.replicate n .any)) (.agg cs) := by
    intro x hx
    refine .a_of ⟨by simp [h2, hn], fun i y V hy hV => ?_⟩
    rw [Array.getElem?_toList] at hV
    cases i with
    | zero =>
      rw [Array.getElem?_eq_getElem hz] at hV
      simp at hy hV; subst hy; subst hV; exact hx
    | succ i =>
      rw [List.getElem?_cons_succ, List.getElem?_replicate] at hy
      split at hy
      · cases hy
        obtain ⟨u', _, hc'⟩ := h5 _ V hV
        exact rel_any (cell_one hc')
      · cases hy
  rcases Int.lt_or_le q 0 with hl | hl
  · exact .inr (key _ (by rw [hq]; exact .r _ _ _ _ hb.1 (by omega)))
  · exact .inl (key _ (by rw [hq]; exact .r _ _ _ _ hl hb.2))
end
theorem justNone_own : ownKnob Tryz.prog.godebug = none := by kernel_rfl
set_option maxRecDepth 100000 in
theorem justNone_lifted (os : Os) (started : os.Started) (H : Type) (enc : TypeId × Value → H) :
    ReturnsInHanded {} Tryz.checked os 5 .any (fun w args => (Rows.justNoneSpec.pre enc Tryz.prog Tryz.f5 [] false w args ∧ laidMetH Tryz.prog laidL w) ∧ sizedMet enc Tryz.prog Tryz.f5 (OpenSpec.ofChange Rows.justNoneSpec) false w args)
      (Rows.justNoneSpec.post enc Tryz.prog Tryz.f5 false true false false) := by
  refine returnsInHanded_of_change_and (C := Tryz.checked) (X := fun w _ => laidMetH Tryz.prog laidL w) (fun _ _ _ hh h => h.of_heap hh) justNone_own started (by kernel_rfl) Tryz.func5
    (ChangeSpec.witness_shaped (enc := enc) (C := Tryz.checked) (os := os) (X := fun w _ => laidMetH Tryz.prog laidL w) false (laidW os) #[.agg #[.int .i64 0, .int .i64 0, .int .i64 0, .int .u64 0, .int .u64 0, .int .u64 0, .int .u64 0, .int .u64 0, .int .i64 0], .int .i64 0] 8 (World.laidAll_os _ _ _)
      (laidW_shaped os _) (by kernel_rfl) (by kernel_rfl) (by kernel_rfl) (laidW_met os _)) ?_
  intro W base args ds gs before hval0 hW _ _ hL _
  have hval : ∀ (j : Nat) t v, Tryz.f5.params[j]? = some t → args[j]? = some v → Value.okWide Tryz.prog W .any base t v := hval0
  have hW' := hW
  obtain ⟨p, q, hA0, hV, rfl, _, _⟩ := hW
  have hA : DataW.TrodAll enc Tryz.prog W 0 (fun _ => true) true Tryz.f5.params.toList args.toList ds p := hA0
  rw [Tryz.params5] at hA hval
  obtain ⟨v0, v1, d0, d1, p0, p1, rfl, rfl, rfl, h0, h1⟩ := trodAll_two hA
  obtain ⟨rfl, rfl⟩ := trodVars_none hV
  have r0 := any_agg1 Tryz.underlying65 (hval 0 _ v0 rfl rfl) (n := 8) (u := 3) (by kernel_rfl) (by kernel_rfl) Tryz.underlying3 (fun _ => none)
  have r1 := any_int Tryz.underlying3 (hval 1 _ v1 rfl rfl) (fun _ => none)
  simp only [List.append_nil] at hW'
  have lt0 : ∀ z ∈ p0, z.block < W.heap.size := fun z hz => by simpa using hW'.lt z (by simp [hz])
  have lt1 : ∀ z ∈ p1, z.block < W.heap.size := fun z hz => by simpa using hW'.lt z (by simp [hz])
  have hC : Calls Tryz.prog 5 #[v0, v1] W fun e w' => e = .returned (.bool true) ∧ Below W.heap.size W w' := by
    rcases r0 with r0 | r0
    · exact calls_of_ev (A := #[v0, v1]) evJustNone (.cons r0 (.cons r1 (.nil _))) Tryz.func5 (by kernel_rfl) (by kernel_rfl) W
    · exact calls_of_ev (A := #[v0, v1]) evJustNone' (.cons r0 (.cons r1 (.nil _))) Tryz.func5 (by kernel_rfl) (by kernel_rfl) W
  refine hC.mono fun e W' ⟨he, hb⟩ => ?_
  subst he
  exact ⟨_, rfl, _, _, _, [], _, [], hW', trodAll_mk1 (shut_bool Tryz.underlying4 _), trodAll_mk2 (Below.trod seat_laidOut (by kernel_rfl) (of_decide_eq_true (by kernel_rfl)) h0 hb lt0) (Below.trod seat_laidOut (by kernel_rfl) (of_decide_eq_true (by kernel_rfl)) h1 hb lt1), rfl, hb.frame _, fun h => by cases h⟩

theorem justNone_row : Rows.JustNoneSaid :=
  OpenClaim.holds_of_wide 5 Tryz.f5 rfl rfl rfl rfl rfl rfl rfl ⟨rfl, rfl, rfl, rfl, rfl⟩ rfl rfl rfl rfl rfl justNone_named Tryz.func5 justNone_facts
    (of_decide_eq_true (by kernel_rfl)) (by unfold Func.isWrapper; first | (rw [if_pos (by decide +kernel)]; kernel_rfl) | (rw [if_neg (by decide +kernel)]; exact ⟨rfl, rfl⟩))
    (fun os started H enc _ => justNone_lifted os started H enc)

theorem justNone_card : Rows.JustNoneCardSaid :=
  Claim7.holds_tied_plain_at .later [] [.data, .data, .data, .data, .sentinel, .sentinel, .pinned] true (true, "473864b382232a35800d5bf75206eae645fab30b608ceb992687eb1ba0c8ef74") true
    justNone_row (fun _ h => by cases h) justNone_wf (fun _ h => by cases h) justNone_row_tie rfl ⟨rfl, rfl⟩ just_main rfl
    (fun f fn hf hfn => by
      obtain rfl : f = 5 := Option.some.inj (justNone_named.symm.trans hf) |>.symm
      obtain rfl : fn = Tryz.f5 := (Option.some.inj (Tryz.func5.symm.trans hfn)).symm
      exact ⟨just_looks, fun j t ht => by
        rw [Tryz.params5] at ht
        have hm : t ∈ [65, 3] := by simpa using Array.mem_of_getElem? ht
        have hs := List.all_eq_true.1 justNone_stand t hm
        simpa using hs⟩)
    justNone_goes
#print axioms justNone_card
end Go.Proofs.YtignadeeafddmaaGreatDoor
