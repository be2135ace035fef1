/- The law CheckTexts returns true whatever the reason is, and it reads behind the call as before: the row and its tied card. The conditions are the card's own: the listed variables of Go's library read as laid. -/
import Derived.Test.YthfkgdjekmebgaaGreatDoorE00
import Derived.Test.YthfkgdjekmebgaaGreatDoorE10
import Derived.Test.YthfkgdjekmebgaaGreatDoorE11
import Derived.Test.YthfkgdjekmebgaaGreatDoorE15
import Derived.Test.YthfkgdjekmebgaaGreatDoorF30
import Derived.Test.YthfkgdjekmebgaaGreatDoorTie
import Derived.Test.YthfkgdjekmebgaaGreatDoorCards
namespace Go.Proofs.YthfkgdjekmebgaaGreatDoor
open Go.ChangeShapes Go.WideShapes Go.ChangeAt Go.RowKit Go.Ev Go
set_option linter.unusedVariables false
set_option linter.unusedSimpArgs false
theorem orcK_at : ∀ f g, orcK f = some g → @CallAt env0 Tryz.prog g f := by
  intro f g h
  unfold orcK at h
  cases e1 : Nat.beq f 11 with
  | true => have := beq_t e1; subst this; rw [e1] at h; cases h; exact gBB_at Tryz.func11 (by kernel_rfl) (by kernel_rfl) evCheck30
  | false => rw [e1] at h; exact @orc_at env0 f g h
theorem works30_ok (w : World) : Calls Tryz.prog 5 #[] w fun e w' => e = .returned (.bool true) ∧ Below w.heap.size w w' :=
  @calls_true env0 orcK orcK_at 200 _ [] #[] evWorks30 (@RelL.nil env0 _) _ Tryz.func5 (by kernel_rfl) (by kernel_rfl) w trivial
theorem works_at [Env] : CallAt Tryz.prog (gPure gTrue) 5 := by
  refine callAt_calls Tryz.func5 (by kernel_rfl) (by kernel_rfl) fun args v hv m A w hA hI => ?_
  unfold gTrue at hv
  split at hv
  · cases hv
    have := hA.nil_inv
    have hA' : A = #[] := by cases A; simpa using this
    rw [hA']
    refine (works30_ok w).mono fun e w' => ?_
    rintro ⟨rfl, hb⟩
    exact ⟨_, rfl, .b _, hb⟩
  · cases hv
theorem orcC_at [Env] : ∀ f g, orcC f = some g → CallAt Tryz.prog g f := by
  intro f g h
  unfold orcC at h
  cases e1 : Nat.beq f 5 with
  | true => have := beq_t e1; subst this; rw [e1] at h; cases h; exact works_at
  | false => rw [e1] at h; exact orc_at f g h
theorem ct_of {v : AV} {V : Value} (h : evCt v = true) (hv : ∀ [Env], Rel (fun _ => none) v V) (w : World) : Calls Tryz.prog 3 #[V] w fun e w' => e = .returned (.bool true) ∧ Below w.heap.size w w' :=
  @calls_true env0 orcC (@orcC_at env0) 200 3 [v] #[V] h (@RelL.cons env0 _ _ _ _ _ (@hv env0) (@RelL.nil env0 _)) _ Tryz.func3 (by kernel_rfl) (by kernel_rfl) w trivial
theorem checkTexts_law (n : Int) (h1 : -9223372036854775808 ≤ n) (h2 : n ≤ 9223372036854775807) (w : World) : Calls Tryz.prog 3 #[.int .i64 n] w fun e w' => e = .returned (.bool true) ∧ Below w.heap.size w w' := by
  by_cases hn : n < 0
  · exact ct_of evCt_n (.r _ _ _ _ h1 (by omega)) w
  · by_cases hb : 9 ≤ n
    · exact ct_of evCt_b (.r _ _ _ _ hb h2) w
    · have h : n = 0 ∨ n = 1 ∨ n = 2 ∨ n = 3 ∨ n = 4 ∨ n = 5 ∨ n = 6 ∨ n = 7 ∨ n = 8 := by omega
      rcases h with rfl | rfl | rfl | rfl | rfl | rfl | rfl | rfl | rfl
      · exact ct_of evCt_0 (.i _ _) w
      · exact ct_of evCt_1 (.i _ _) w
      · exact ct_of evCt_2 (.i _ _) w
      · exact ct_of evCt_3 (.i _ _) w
      · exact ct_of evCt_4 (.i _ _) w
      · exact ct_of evCt_5 (.i _ _) w
      · exact ct_of evCt_6 (.i _ _) w
      · exact ct_of evCt_7 (.i _ _) w
      · exact ct_of evCt_8 (.i _ _) w
theorem open_int {P : Program} {w : World} {r : Reach} {b : Nat} {t : TypeId} {v : Value} (hu : P.underlying t = some (.int .i64)) (h : Value.okWide P w r b t v) : ∃ n : Int, v = .int .i64 n ∧ -9223372036854775808 ≤ n ∧ n ≤ 9223372036854775807 := by
  simp only [Value.okWide, hu] at h
  cases v <;> simp [Cell.okWide, Cell.ok, hu] at h
  obtain ⟨rfl, hr⟩ := h
  exact ⟨_, rfl, by simpa [IntKind.has, IntKind.min, IntKind.max, IntKind.signed, IntKind.bits] using hr⟩
theorem checkTexts_own : ownKnob Tryz.prog.godebug = none := by kernel_rfl
set_option maxRecDepth 100000 in
theorem checkTexts_lifted (os : Os) (started : os.Started) (H : Type) (enc : TypeId × Value → H) :
    ReturnsInHanded {} Tryz.checked os 3 .any (fun w args => (Rows.checkTextsSpec.pre enc Tryz.prog Tryz.f3 [] false w args ∧ laidMetH Tryz.prog laidL w) ∧ sizedMet enc Tryz.prog Tryz.f3 (OpenSpec.ofChange Rows.checkTextsSpec) false w args)
      (Rows.checkTextsSpec.post enc Tryz.prog Tryz.f3 false true false false) := by
  refine returnsInHanded_of_change_and (C := Tryz.checked) (X := fun w _ => laidMetH Tryz.prog laidL w) (fun _ _ _ hh h => h.of_heap hh) checkTexts_own started (by kernel_rfl) Tryz.func3
    (ChangeSpec.witness_shaped (enc := enc) (C := Tryz.checked) (os := os) (X := fun w _ => laidMetH Tryz.prog laidL w) false (laidW os) #[.int .i64 0] 8 (World.laidAll_os _ _ _)
      (laidW_shaped os _) (by kernel_rfl) (by kernel_rfl) (by kernel_rfl) (laidW_met os _)) ?_
  intro W base args ds gs before hval0 hW _ _ hL _
  have hval : ∀ (j : Nat) t v, Tryz.f3.params[j]? = some t → args[j]? = some v → Value.okWide Tryz.prog W .any base t v := hval0
  have hW' := hW
  obtain ⟨p, q, hA0, hV, rfl, _, _⟩ := hW
  have hA : DataW.TrodAll enc Tryz.prog W 0 (fun _ => true) true Tryz.f3.params.toList args.toList ds p := hA0
  rw [Tryz.params3] at hA hval
  obtain ⟨v0, d0, rfl, rfl, h0⟩ := trodAll_one hA
  obtain ⟨rfl, rfl⟩ := trodVars_none hV
  obtain ⟨n, rfl, n1, n2⟩ := open_int Tryz.underlying22 (hval 0 _ v0 rfl rfl)
  simp only [List.append_nil] at hW'
  have lt0 : ∀ z ∈ p, z.block < W.heap.size := fun z hz => by simpa using hW'.lt z (by simp [hz])
  refine (checkTexts_law n n1 n2 W).mono fun e W' ⟨he, hb⟩ => ?_
  subst he
  exact ⟨_, rfl, _, _, _, [], _, [], hW', trodAll_mk1 (shut_bool Tryz.underlying4 _), trodAll_mk1 (Below.trod ev_laidOut (by kernel_rfl) (of_decide_eq_true (by kernel_rfl)) h0 hb lt0), rfl, hb.frame _, fun h => by cases h⟩

theorem checkTexts_row : Rows.CheckTextsSaid :=
  OpenClaim.holds_of_wide 3 Tryz.f3 rfl rfl rfl rfl rfl rfl rfl ⟨rfl, rfl, rfl, rfl, rfl⟩ rfl rfl rfl rfl rfl checkTexts_named Tryz.func3 checkTexts_facts
    (of_decide_eq_true (by kernel_rfl)) (by unfold Func.isWrapper; first | (rw [if_pos (by decide +kernel)]; kernel_rfl) | (rw [if_neg (by decide +kernel)]; exact ⟨rfl, rfl⟩))
    (fun os started H enc _ => checkTexts_lifted os started H enc)

theorem checkTexts_card : Rows.CheckTextsCardSaid :=
  Claim7.holds_tied_plain_at .later [] [.data, .data, .data, .data, .sentinel, .sentinel, .pinned] true (true, "f339d54987597adcf13a1bb392bfd83b9e0de5f59dc9447764ae325af7a6a5c4") true
    checkTexts_row (fun _ h => by cases h) checkTexts_wf (fun _ h => by cases h) checkTexts_row_tie rfl ⟨rfl, rfl⟩ seat_main rfl
    (fun f fn hf hfn => by
      obtain rfl : f = 3 := Option.some.inj (checkTexts_named.symm.trans hf) |>.symm
      obtain rfl : fn = Tryz.f3 := (Option.some.inj (Tryz.func3.symm.trans hfn)).symm
      exact ⟨seat_looks, fun j t ht => by
        rw [Tryz.params3] at ht
        have hm : t ∈ [22] := by simpa using Array.mem_of_getElem? ht
        have hs := List.all_eq_true.1 checkTexts_stand t hm
        simpa using hs⟩)
    checkTexts_goes
#print axioms checkTexts_card
end Go.Proofs.YthfkgdjekmebgaaGreatDoor
