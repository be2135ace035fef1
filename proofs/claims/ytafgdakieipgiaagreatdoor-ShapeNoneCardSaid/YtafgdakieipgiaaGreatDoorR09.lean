/- The law ShapeNone returns true whatever its arguments are, and they read behind the call as before: the row and its tied card. The conditions are the card's own: the listed variables of Go's library read as laid. -/
import Derived.Test.YtafgdakieipgiaaGreatDoorE00
import Derived.Test.YtafgdakieipgiaaGreatDoorL09
import Derived.Test.YtafgdakieipgiaaGreatDoorF09
import Derived.Test.YtafgdakieipgiaaGreatDoorTie
import Derived.Test.YtafgdakieipgiaaGreatDoorCards
namespace Go.Proofs.YtafgdakieipgiaaGreatDoor
open Go.ChangeShapes Go.WideShapes Go.ChangeAt Go.RowKit Go.Ev Go
set_option linter.unusedVariables false
set_option linter.unusedSimpArgs false
section
variable {P : Program} {w : World} {r : Reach} {b : Nat} {t : TypeId} {v : Value}
/-- The cells of a struct that came in. -/
theorem agg_cells {fs : Array Field} (hu : P.underlying t = some (.struct fs)) (h : Value.okWide P w r b t v) : ∃ cs ts, v = .agg cs ∧ cs.size = P.cellsOf t ∧ P.cellTypes P.depth t = some ts ∧ ∀ i V, cs[i]? = some V → ∃ u, ts[i % ts.length]? = some u ∧ Cell.okWide P w r b u V := by
  simp only [Value.okWide, hu] at h
  obtain ⟨cs, rfl, h2, ts, h3, h4, h5⟩ := h
  exact ⟨cs, ts, rfl, h2, h3, h5⟩
theorem agg_one {fs : Array Field} {cs : Array Value} (hu : P.underlying t = some (.struct fs)) (h : Value.okWide P w r b t (.agg cs)) : ∀ V ∈ cs.toList, V.oneCell' = true := by
  obtain ⟨cs', ts, e, _, _, h5⟩ := agg_cells hu h
  cases e
  intro V hV
  obtain ⟨i, hi⟩ := List.getElem?_of_mem hV
  obtain ⟨u, _, hc⟩ := h5 i V (by simpa using hi)
  exact @cell_one env0 _ _ _ _ _ _ hc
theorem agg_at {fs : Array Field} {cs : Array Value} {i : Nat} {V : Value} {u : TypeId} (hu : P.underlying t = some (.struct fs)) (h : Value.okWide P w r b t (.agg cs)) (hV : cs[i]? = some V) (ht : (P.cellTypes P.depth t).bind (fun ts => ts[i % ts.length]?) = some u) : Cell.okWide P w r b u V := by
  obtain ⟨cs', ts, e, _, h3, h5⟩ := agg_cells hu h
  cases e
  obtain ⟨u', e', hc⟩ := h5 i V hV
  rw [h3] at ht
  have ht : ts[i % ts.length]? = some u := ht
  rw [ht] at e'; cases e'
  exact hc
theorem u64_cell {V : Value} {u : TypeId} (hk : P.underlying u = some (.int .u64)) (h : Cell.okWide P w r b u V) : ∃ n : Int, V = .int .u64 n ∧ 0 ≤ n ∧ n ≤ 18446744073709551615 := by
  cases V <;> simp [Cell.okWide, Cell.ok, hk] at h
  obtain ⟨rfl, h⟩ := h
  exact ⟨_, rfl, by simpa [IntKind.has, IntKind.min, IntKind.max, IntKind.signed, IntKind.bits] using h⟩
theorem slice_cell {V : Value} {u e : TypeId} (hk : P.underlying u = some (.slice e)) (h : Cell.okWide P w r b u V) : ∃ ad n c, V = .slice ad n c := by
  cases V <;> simp [Cell.okWide, Cell.ok, hk] at h
  exact ⟨_, _, _, rfl⟩
end
theorem rels_any [Env] {m : Mp} (k : Nat) : ∀ {A : List Value}, (∀ V ∈ A, V.oneCell' = true) → (∀ i V, A[i]? = some V → Env.E (k + i) V) → RelL m ((List.range A.length).map fun i => .any (k + i)) A := by
  intro A h1 h2
  refine ⟨by simp, fun i x V hx hV => ?_⟩
  have hi : i < A.length := (List.getElem?_eq_some_iff.1 hV).1
  simp [hi] at hx
  subst hx
  exact rel_any (h2 i V hV) (h1 V (List.mem_of_getElem? hV))
set_option maxRecDepth 100000 in
/-- The law's call, for any record and any Ask. -/
theorem shapeNone_calls {H : Type} {enc : TypeId × Value → H} (w : World) {r0 : Reach} {b0 : Nat} {sp : Nat → Bool} {v0 v1 : Value} {d0 d1 : DataW H} {p0 p1 : List MemPlace}
    (o0 : Value.okWide Tryz.prog w r0 b0 30 v0) (o1 : Value.okWide Tryz.prog w r0 b0 32 v1)
    (h0 : DataW.Trod enc Tryz.prog w 0 sp true 30 v0 d0 p0) (h1 : DataW.Trod enc Tryz.prog w 0 sp true 32 v1 d1 p1) :
    Calls Tryz.prog 3 #[v0, v1] w fun e w' => e = .returned (.bool true) ∧ Below w.heap.size w w' := by
  obtain ⟨cs0, _, rfl, _, _, _⟩ := agg_cells Tryz.underlying30 o0
  obtain ⟨cs1, _, rfl, _, _, _⟩ := agg_cells Tryz.underlying32 o1
  obtain ⟨f0, g0⟩ := h0
  obtain ⟨f1, g1⟩ := h1
  obtain ⟨a0, a1, a2, a3, a4, a5, a6, a7, a8, a9, a10, e0, q0, t0⟩ := rec_tree (by simpa [Value.cells] using g0)
  obtain ⟨s0, s1, s2, s3, s4, s5, s6, s7, e1, q1, t1⟩ := ask_tree (by simpa [Value.cells] using g1)
  obtain rfl : cs0 = #[a0, a1, a2, a3, a4, a5, a6, a7, a8, a9, a10] := by cases cs0; simpa using q0
  obtain rfl : cs1 = #[s0, s1, s2, s3, s4, s5, s6, s7] := by cases cs1; simpa using q1
  have n0 := agg_one Tryz.underlying30 o0
  have n1 := agg_one Tryz.underlying32 o1
  obtain ⟨ad, n, c, rfl⟩ := slice_cell Tryz.underlying28 (agg_at Tryz.underlying30 o0 (i := 10) (by rfl) (u := 28) (by kernel_rfl))
  obtain ⟨W, rfl, hW0, hW1⟩ := u64_cell Tryz.underlying22 (agg_at Tryz.underlying32 o1 (i := 2) (by rfl) (u := 22) (by kernel_rfl))
  obtain ⟨N, rfl, hN0, hN1⟩ := u64_cell Tryz.underlying22 (agg_at Tryz.underlying32 o1 (i := 3) (by rfl) (u := 22) (by kernel_rfl))
  obtain ⟨k', a', b', ad', n', cap', e6⟩ := t0.conc
  have c1 : ∀ w', (∀ k, k < w.heap.size → w'.heap[k]? = w.heap[k]?) → Calls Tryz.prog 4 #[.agg [a0, a1, a2, a3, a4, a5, a6, a7, a8, a9, .slice ad n c].toArray] w' fun e w'' => e = .returned (.bool (decide (n ≤ 60) && decide (e0.size ≤ 60))) ∧ Below w'.heap.size w' w'' := by
    intro w' hw
    have ht := tree_stays t0 hw
    rw [e6] at ht
    simp only [Value.agg.injEq, Array.mk.injEq, List.cons.injEq, and_true] at e6
    obtain ⟨rfl, rfl, rfl, rfl⟩ := e6
    exact docFewRec_cells _ _ e0 _ _ _ _ _ _ _ _ _ _ _ _ _ _ _ w' ht
  have c2 : ∀ w', (∀ k, k < w.heap.size → w'.heap[k]? = w.heap[k]?) → Calls Tryz.prog 5 #[.agg ([s0, s1, .int .u64 W, .int .u64 N, s4, s5, s6, s7].drop 4).toArray] w' fun e w'' => e = .returned (.bool (decide (e1.size ≤ 60))) ∧ Below w'.heap.size w' w'' := by
    intro w' hw
    exact docFew_any _ _ e1 _ w' (tree_stays t1 hw)
  have key := fun b1 b2 h1 h2 l hev hl => shapeNone_law [a0, a1, a2, a3, a4, a5, a6, a7, a8, a9, .slice ad n c] [s0, s1, .int .u64 W, .int .u64 N, s4, s5, s6, s7] w rfl rfl n0 n1 b1 b2 h1 h2 (l := l) hev hl
  have rel : ∀ x y : AV, (∀ [Env], (∀ k V, ([a0, a1, a2, a3, a4, a5, a6, a7, a8, a9, .slice ad n c] ++ [s0, s1, .int .u64 W, .int .u64 N, s4, s5, s6, s7])[k]? = some V → Env.E k V) → Rel (fun _ => none) x (.int .u64 W) ∧ Rel (fun _ => none) y (.int .u64 N)) →
      ∀ [Env], (∀ k V, ([a0, a1, a2, a3, a4, a5, a6, a7, a8, a9, .slice ad n c] ++ [s0, s1, .int .u64 W, .int .u64 N, s4, s5, s6, s7])[k]? = some V → Env.E k V) → RelL (fun _ => none) (shArgs x y) [.agg [a0, a1, a2, a3, a4, a5, a6, a7, a8, a9, .slice ad n c].toArray, .agg [s0, s1, .int .u64 W, .int .u64 N, s4, s5, s6, s7].toArray] := by
    intro x y hxy _ hE
    obtain ⟨hx, hy⟩ := hxy hE
    have one0 : ∀ V ∈ [a0, a1, a2, a3, a4, a5, a6, a7, a8, a9, .slice ad n c], V.oneCell' = true := n0
    have one1 : ∀ V ∈ [s0, s1, .int .u64 W, .int .u64 N, s4, s5, s6, s7], V.oneCell' = true := n1
    simp only [List.forall_mem_cons] at one0 one1
    obtain ⟨z0, z1, z2, z3, z4, z5, z6, z7, z8, z9, z10, _⟩ := one0
    obtain ⟨y0, y1, _, _, y4, y5, y6, y7, _⟩ := one1
    refine .cons (.a_of ?_) (.cons (.a_of ?_) (.nil _))
    · exact .cons (rel_any (hE 0 _ rfl) z0) (.cons (rel_any (hE 1 _ rfl) z1) (.cons (rel_any (hE 2 _ rfl) z2) (.cons (rel_any (hE 3 _ rfl) z3) (.cons (rel_any (hE 4 _ rfl) z4) (.cons (rel_any (hE 5 _ rfl) z5) (.cons (rel_any (hE 6 _ rfl) z6) (.cons (rel_any (hE 7 _ rfl) z7) (.cons (rel_any (hE 8 _ rfl) z8) (.cons (rel_any (hE 9 _ rfl) z9) (.cons (rel_any (hE 10 _ rfl) z10) (.nil _)))))))))))
    · exact .cons (rel_any (hE 11 _ rfl) y0) (.cons (rel_any (hE 12 _ rfl) y1) (.cons hx (.cons hy (.cons (rel_any (hE 15 _ rfl) y4) (.cons (rel_any (hE 16 _ rfl) y5) (.cons (rel_any (hE 17 _ rfl) y6) (.cons (rel_any (hE 18 _ rfl) y7) (.nil _))))))))
  have any13 : ∀ [Env], (∀ k V, ([a0, a1, a2, a3, a4, a5, a6, a7, a8, a9, .slice ad n c] ++ [s0, s1, .int .u64 W, .int .u64 N, s4, s5, s6, s7])[k]? = some V → Env.E k V) → Rel (fun _ => none) (.any 13) (.int .u64 W) := fun hE => rel_any (hE 13 _ rfl) rfl
  have any14 : ∀ [Env], (∀ k V, ([a0, a1, a2, a3, a4, a5, a6, a7, a8, a9, .slice ad n c] ++ [s0, s1, .int .u64 W, .int .u64 N, s4, s5, s6, s7])[k]? = some V → Env.E k V) → Rel (fun _ => none) (.any 14) (.int .u64 N) := fun hE => rel_any (hE 14 _ rfl) rfl
  have isr : ∀ [Env] (q : Int), 0 ≤ q → q ≤ 18446744073709551615 → q ≠ 0 → Rel (fun _ => none) p64 (.int .u64 q) := fun q h1 h2 h3 => .r _ _ _ _ (by omega) h2
  cases hb1 : (decide (n ≤ 60) && decide (e0.size ≤ 60)) with
  | false =>
    rw [hb1] at c1
    exact key _ _ c1 c2 _ (evSh_f _) (rel _ _ fun hE => ⟨any13 hE, any14 hE⟩)
  | true =>
    rw [hb1] at c1
    cases hb2 : decide (e1.size ≤ 60) with
    | false =>
      rw [hb2] at c2
      exact key _ _ c1 c2 _ evSh_tf (rel _ _ fun hE => ⟨any13 hE, any14 hE⟩)
    | true =>
      rw [hb2] at c2
      by_cases hw : W = 0
      · by_cases hn : N = 0
        · exact key _ _ c1 c2 _ evSh_0 (rel _ _ fun hE => by subst hw; subst hn; exact ⟨.i _ _, .i _ _⟩)
        · exact key _ _ c1 c2 _ evSh_n (rel _ _ fun hE => by subst hw; exact ⟨.i _ _, isr N hN0 hN1 hn⟩)
      · exact key _ _ c1 c2 _ evSh_w (rel _ _ fun hE => ⟨isr W hW0 hW1 hw, any14 hE⟩)
theorem shapeNone_own : ownKnob Tryz.prog.godebug = none := by kernel_rfl
set_option maxRecDepth 100000 in
theorem shapeNone_lifted (os : Os) (started : os.Started) (H : Type) (enc : TypeId × Value → H) :
    ReturnsInHanded {} Tryz.checked os 3 .any (fun w args => (Rows.shapeNoneSpec.pre enc Tryz.prog Tryz.f3 [] false w args ∧ laidMetH Tryz.prog laidL w) ∧ sizedMet enc Tryz.prog Tryz.f3 (OpenSpec.ofChange Rows.shapeNoneSpec) false w args)
      (Rows.shapeNoneSpec.post enc Tryz.prog Tryz.f3 false true false false) := by
  refine returnsInHanded_of_change_and (C := Tryz.checked) (X := fun w _ => laidMetH Tryz.prog laidL w) (fun _ _ _ hh h => h.of_heap hh) shapeNone_own started (by kernel_rfl) Tryz.func3
    (ChangeSpec.witness_shaped (enc := enc) (C := Tryz.checked) (os := os) (X := fun w _ => laidMetH Tryz.prog laidL w) false (laidW os) #[.agg #[.int .i64 0, .int .u64 0, .int .u64 0, .int .u64 0, .int .u64 0, .int .u64 0, .int .i64 0, .int .u64 0, .int .u64 0, .slice none 0 0, .slice none 0 0], .agg #[.int .u64 0, .int .u64 0, .int .u64 0, .int .u64 0, .int .i64 0, .int .u64 0, .int .u64 0, .slice none 0 0]] 8 (World.laidAll_os _ _ _)
      (laidW_shaped os _) (by kernel_rfl) (by kernel_rfl) (by kernel_rfl) (laidW_met os _)) ?_
  intro W base args ds gs before hval0 hW _ _ hL _
  have hval : ∀ (j : Nat) t v, Tryz.f3.params[j]? = some t → args[j]? = some v → Value.okWide Tryz.prog W .any base t v := hval0
  have hW' := hW
  obtain ⟨p, q, hA0, hV, rfl, _, _⟩ := hW
  have hA : DataW.TrodAll enc Tryz.prog W 0 (fun _ => true) true Tryz.f3.params.toList args.toList ds p := hA0
  rw [Tryz.params3] at hA hval
  obtain ⟨v0, v1, d0, d1, p0, p1, rfl, rfl, rfl, h0, h1⟩ := trodAll_two hA
  obtain ⟨rfl, rfl⟩ := trodVars_none hV
  simp only [List.append_nil] at hW'
  have lt0 : ∀ z ∈ p0, z.block < W.heap.size := fun z hz => by simpa using hW'.lt z (by simp [hz])
  have lt1 : ∀ z ∈ p1, z.block < W.heap.size := fun z hz => by simpa using hW'.lt z (by simp [hz])
  refine (shapeNone_calls W (hval 0 _ v0 rfl rfl) (hval 1 _ v1 rfl rfl) h0 h1).mono fun e W' ⟨he, hb⟩ => ?_
  subst he
  exact ⟨_, rfl, _, _, _, [], _, [], hW', trodAll_mk1 (shut_bool Tryz.underlying4 _), trodAll_mk2 (Below.trod ev_laidOut (by kernel_rfl) (of_decide_eq_true (by kernel_rfl)) h0 hb lt0) (Below.trod ev_laidOut (by kernel_rfl) (of_decide_eq_true (by kernel_rfl)) h1 hb lt1), rfl, hb.frame _, fun h => by cases h⟩

theorem shapeNone_row : Rows.ShapeNoneSaid :=
  OpenClaim.holds_of_wide 3 Tryz.f3 rfl rfl rfl rfl rfl rfl rfl ⟨rfl, rfl, rfl, rfl, rfl⟩ rfl rfl rfl rfl rfl shapeNone_named Tryz.func3 shapeNone_facts
    (of_decide_eq_true (by kernel_rfl)) (by unfold Func.isWrapper; first | (rw [if_pos (by decide +kernel)]; kernel_rfl) | (rw [if_neg (by decide +kernel)]; exact ⟨rfl, rfl⟩))
    (fun os started H enc _ => shapeNone_lifted os started H enc)

theorem shapeNone_card : Rows.ShapeNoneCardSaid :=
  Claim7.holds_tied_plain_at .later [] [.data, .data, .data, .data, .sentinel, .sentinel, .pinned] true (true, "e8ace3d24928facc4f1106bcf6601bc39e3f29dbcc77806c192acc6f0332f0f6") true
    shapeNone_row (fun _ h => by cases h) shapeNone_wf (fun _ h => by cases h) shapeNone_row_tie rfl ⟨rfl, rfl⟩ seat_main rfl
    (fun f fn hf hfn => by
      obtain rfl : f = 3 := Option.some.inj (shapeNone_named.symm.trans hf) |>.symm
      obtain rfl : fn = Tryz.f3 := (Option.some.inj (Tryz.func3.symm.trans hfn)).symm
      exact ⟨seat_looks, fun j t ht => by
        rw [Tryz.params3] at ht
        have hm : t ∈ [30, 32] := by simpa using Array.mem_of_getElem? ht
        have hs := List.all_eq_true.1 shapeNone_stand t hm
        simpa using hs⟩)
    shapeNone_goes
#print axioms shapeNone_card
end Go.Proofs.YtafgdakieipgiaaGreatDoor
