/- The law PhenomNone returns true whatever its arguments are, and they read behind the call as before: the row and its tied card. The conditions are the card's own: the listed variables of Go's library read as laid. -/
import Derived.Test.YtignadeeafddmaaGreatDoorE00
import Derived.Test.YtignadeeafddmaaGreatDoorE04
import Derived.Test.YtignadeeafddmaaGreatDoorF19
import Derived.Test.YtignadeeafddmaaGreatDoorTie
import Derived.Test.YtignadeeafddmaaGreatDoorCards
namespace Go.Proofs.YtignadeeafddmaaGreatDoor
open Go.ChangeShapes Go.WideShapes Go.ChangeAt Go.RowKit Go.Ev Go
set_option linter.unusedVariables false
set_option linter.unusedSimpArgs false
theorem phenomNone_own : ownKnob Tryz.prog.godebug = none := by kernel_rfl
set_option maxRecDepth 100000 in
theorem phenomNone_lifted (os : Os) (started : os.Started) (H : Type) (enc : TypeId × Value → H) :
    ReturnsInHanded {} Tryz.checked os 4 .any (fun w args => (Rows.phenomNoneSpec.pre enc Tryz.prog Tryz.f4 [] false w args ∧ laidMetH Tryz.prog laidL w) ∧ sizedMet enc Tryz.prog Tryz.f4 (OpenSpec.ofChange Rows.phenomNoneSpec) false w args)
      (Rows.phenomNoneSpec.post enc Tryz.prog Tryz.f4 false true false false) := by
  refine returnsInHanded_of_change_and (C := Tryz.checked) (X := fun w _ => laidMetH Tryz.prog laidL w) (fun _ _ _ hh h => h.of_heap hh) phenomNone_own started (by kernel_rfl) Tryz.func4
    (ChangeSpec.witness_shaped (enc := enc) (C := Tryz.checked) (os := os) (X := fun w _ => laidMetH Tryz.prog laidL w) false (laidW os) #[.int .u64 0, .agg #[.int .i64 0, .int .i64 0, .int .i64 0, .int .u64 0, .int .u64 0, .int .u64 0, .int .u64 0]] 8 (World.laidAll_os _ _ _)
      (laidW_shaped os _) (by kernel_rfl) (by kernel_rfl) (by kernel_rfl) (laidW_met os _)) ?_
  intro W base args ds gs before hval0 hW _ _ hL _
  have hval : ∀ (j : Nat) t v, Tryz.f4.params[j]? = some t → args[j]? = some v → Value.okWide Tryz.prog W .any base t v := hval0
  have hW' := hW
  obtain ⟨p, q, hA0, hV, rfl, _, _⟩ := hW
  have hA : DataW.TrodAll enc Tryz.prog W 0 (fun _ => true) true Tryz.f4.params.toList args.toList ds p := hA0
  rw [Tryz.params4] at hA hval
  obtain ⟨v0, v1, d0, d1, p0, p1, rfl, rfl, rfl, h0, h1⟩ := trodAll_two hA
  obtain ⟨rfl, rfl⟩ := trodVars_none hV
  have r0 := any_int Tryz.underlying22 (hval 0 _ v0 rfl rfl) (fun _ => none)
  have r1 := any_agg Tryz.underlying54 (hval 1 _ v1 rfl rfl) (n := 7) (by kernel_rfl) (fun _ => none)
  simp only [List.append_nil] at hW'
  have lt0 : ∀ z ∈ p0, z.block < W.heap.size := fun z hz => by simpa using hW'.lt z (by simp [hz])
  have lt1 : ∀ z ∈ p1, z.block < W.heap.size := fun z hz => by simpa using hW'.lt z (by simp [hz])
  refine (calls_of_ev (A := #[v0, v1]) evPhenomNone (.cons r0 (.cons r1 (.nil _))) Tryz.func4 (by kernel_rfl) (by kernel_rfl) W).mono fun e W' ⟨he, hb⟩ => ?_
  subst he
  exact ⟨_, rfl, _, _, _, [], _, [], hW', trodAll_mk1 (shut_bool Tryz.underlying4 _), trodAll_mk2 (Below.trod seat_laidOut (by kernel_rfl) (of_decide_eq_true (by kernel_rfl)) h0 hb lt0) (Below.trod seat_laidOut (by kernel_rfl) (of_decide_eq_true (by kernel_rfl)) h1 hb lt1), rfl, hb.frame _, fun h => by cases h⟩

theorem phenomNone_row : Rows.PhenomNoneSaid :=
  OpenClaim.holds_of_wide 4 Tryz.f4 rfl rfl rfl rfl rfl rfl rfl ⟨rfl, rfl, rfl, rfl, rfl⟩ rfl rfl rfl rfl rfl phenomNone_named Tryz.func4 phenomNone_facts
    (of_decide_eq_true (by kernel_rfl)) (by unfold Func.isWrapper; first | (rw [if_pos (by decide +kernel)]; kernel_rfl) | (rw [if_neg (by decide +kernel)]; exact ⟨rfl, rfl⟩))
    (fun os started H enc _ => phenomNone_lifted os started H enc)

theorem phenomNone_card : Rows.PhenomNoneCardSaid :=
  Claim7.holds_tied_plain_at .later [] [.data, .data, .data, .data, .sentinel, .sentinel, .pinned] true (true, "473864b382232a35800d5bf75206eae645fab30b608ceb992687eb1ba0c8ef74") true
    phenomNone_row (fun _ h => by cases h) phenomNone_wf (fun _ h => by cases h) phenomNone_row_tie rfl ⟨rfl, rfl⟩ seat_main rfl
    (fun f fn hf hfn => by
      obtain rfl : f = 4 := Option.some.inj (phenomNone_named.symm.trans hf) |>.symm
      obtain rfl : fn = Tryz.f4 := (Option.some.inj (Tryz.func4.symm.trans hfn)).symm
      exact ⟨seat_looks, fun j t ht => by
        rw [Tryz.params4] at ht
        have hm : t ∈ [22, 54] := by simpa using Array.mem_of_getElem? ht
        have hs := List.all_eq_true.1 phenomNone_stand t hm
        simpa using hs⟩)
    phenomNone_goes
#print axioms phenomNone_card
end Go.Proofs.YtignadeeafddmaaGreatDoor
