/- The law RecordPuts returns true whatever the records and the versions are, and they read behind the call as before. -/
import Derived.Test.YtmgbhhmipmgcpaaGreatDoorQL33
import Derived.Test.YtmgbhhmipmgcpaaGreatDoorQ50
import Derived.Test.YtmgbhhmipmgcpaaGreatDoorTie
import Derived.Test.YtmgbhhmipmgcpaaGreatDoorCards
import Derived.JoinedOf
set_option maxHeartbeats 8000000
set_option maxRecDepth 100000
namespace Go.Proofs.YtmgbhhmipmgcpaaGreatDoor
open Go
theorem gK : Tryz.pinned.checked.prog.funcNamed Rows.recordPutsRow.func = some 4 := by kernel_rfl
theorem jW : joinedFacts Tryz.pinned.checked.prog 4 Tryz.f4 Rows.recordPutsSpec Rows.recordPutsRow = true := by
 unfold joinedFacts
 simp only [Bool.and_eq_true]
 repeat' apply And.intro
 all_goals decide +kernel
theorem mW : Rows.recordPutsRow.wfByText (OpenSpec.ofChange Rows.recordPutsSpec) = true := by kernel_rfl
theorem kJ : false = Rows.recordPutsRow.goesBy Tryz.pinned.checked.prog := by kernel_rfl
theorem vg : Tryz.pinned.checked.prog.mainIs = some (true, "618b4a6eb7601e603824b6fb2c38f963de592571654e91271ef8055d48290d27".toList) := by kernel_rfl
theorem sW : true = Tryz.pinned.checked.prog.looks [] := by kernel_rfl
theorem jX : ([47, 47, 41, 41].all fun u => !Tryz.pinned.checked.prog.wantsStandIn u) = true := by kernel_rfl
open Go.ChangeShapes Go.WideShapes Go.ChangeAt Go.RowKit
set_option linter.unusedVariables false
set_option linter.unusedSimpArgs false
theorem mg : ownKnob Tryz.prog.godebug = none := by kernel_rfl
theorem jK (os : Os) (started : os.Started) (H : Type) (enc : TypeId × Value → H) :
  ReturnsInHanded {} Tryz.checked os 4 .any (fun w args => (Rows.recordPutsSpec.pre enc Tryz.prog Tryz.f4 [] false w args ∧ laidMetH Tryz.prog laidL w) ∧ sizedMet enc Tryz.prog Tryz.f4 (OpenSpec.ofChange Rows.recordPutsSpec) false w args)
   (Rows.recordPutsSpec.post enc Tryz.prog Tryz.f4 false true false false) := by
 refine qW (C := Tryz.checked) (X := fun w _ => laidMetH Tryz.prog laidL w) (fun _ _ _ hh h => h.of_heap hh) mg started (by kernel_rfl) Tryz.func4
  (ChangeSpec.witness_shaped (enc := enc) (C := Tryz.checked) (os := os) (X := fun w _ => laidMetH Tryz.prog laidL w) false (laidW os) #[.agg #[.int .i64 0, .int .u64 0, .int .u64 0, .int .u64 0, .int .u64 0, .int .u64 0, .int .i64 0, .int .u64 0, .int .u64 0, .slice none 0 0, .slice none 0 0], .agg #[.int .i64 0, .int .u64 0, .int .u64 0, .int .u64 0, .int .u64 0, .int .u64 0, .int .i64 0, .int .u64 0, .int .u64 0, .slice none 0 0, .slice none 0 0], .agg #[.int .u64 0, .int .u64 0], .agg #[.int .u64 0, .int .u64 0]] 8 (World.laidAll_os _ _ _)
   (pF os _) (by kernel_rfl) (by kernel_rfl) (by kernel_rfl) (ve os _)) ?_
 intro W base args ds gs before hval0 hW hsh hL
 have hval : ∀ (j : Nat) t v, Tryz.f4.params[j]? = some t → args[j]? = some v → Value.okWide Tryz.prog W .any base t v := hval0
 have hW' := hW
 obtain ⟨p, q, hA0, hV, rfl, _, _⟩ := hW
 have hA : DataW.TrodAll enc Tryz.prog W 0 (fun _ => true) true Tryz.f4.params.toList args.toList ds p := hA0
 rw [Tryz.params4] at hA hval
 obtain ⟨v0, v1, v2, v3, d0, d1, d2, d3, p0, p1, p2, p3, rfl, rfl, rfl, h0, h1, h2, h3⟩ := trodAll_four hA
 obtain ⟨rfl, rfl⟩ := trodVars_none hV
 obtain ⟨r, r0⟩ := qU (hval 0 _ v0 rfl rfl) h0
 obtain ⟨o, r1⟩ := qU (hval 1 _ v1 rfl rfl) h1
 obtain ⟨va, vb, rfl, ha, hb4⟩ := qV (hval 2 _ v2 rfl rfl) h2
 obtain ⟨wa, wb, rfl, _, _⟩ := qV (hval 3 _ v3 rfl rfl) h3
 simp only [List.append_nil] at hW'
 have lt0 : ∀ z ∈ p0, z.block < W.heap.size := fun z hz => by simpa using hW'.lt z (by simp [hz])
 have lt1 : ∀ z ∈ p1, z.block < W.heap.size := fun z hz => by simpa using hW'.lt z (by simp [hz])
 have lt2 : ∀ z ∈ p2, z.block < W.heap.size := fun z hz => by simpa using hW'.lt z (by simp [hz])
 have lt3 : ∀ z ∈ p3, z.block < W.heap.size := fun z hz => by simpa using hW'.lt z (by simp [hz])
 refine (mf _ _ _ _ r o v0 v1 va vb wa wb W r0 r1 ⟨ha, hb4⟩ (sV hL hsh)).mono fun e W' ⟨he, hb⟩ => ?_
 subst he
 exact ⟨_, rfl, _, _, _, [], _, [], hW', trodAll_mk1 (shut_bool Tryz.underlying4 _), trodAll_mk4 (Below.trod fP (by kernel_rfl) (of_decide_eq_true (by kernel_rfl)) h0 hb lt0) (Below.trod fP (by kernel_rfl) (of_decide_eq_true (by kernel_rfl)) h1 hb lt1) (Below.trod fP (by kernel_rfl) (of_decide_eq_true (by kernel_rfl)) h2 hb lt2) (Below.trod fP (by kernel_rfl) (of_decide_eq_true (by kernel_rfl)) h3 hb lt3), rfl, hb.frame _, fun h => by cases h⟩
theorem mh : Rows.RecordPutsSaid :=
 OpenClaim.holds_of_wide 4 Tryz.f4 rfl rfl rfl rfl rfl rfl rfl ⟨rfl, rfl, rfl, rfl, rfl⟩ rfl rfl rfl rfl rfl gK Tryz.func4 jW
  (of_decide_eq_true (by kernel_rfl)) (by unfold Func.isWrapper; first | (rw [if_pos (by decide +kernel)]; kernel_rfl) | (rw [if_neg (by decide +kernel)]; exact ⟨rfl, rfl⟩))
  (fun os started H enc _ => jK os started H enc)
theorem recordPuts_card : Rows.RecordPutsCardSaid :=
 Claim7.holds_tied_plain_at .later [] [.data, .data, .data, .data, .sentinel, .sentinel, .pinned] true (true, "618b4a6eb7601e603824b6fb2c38f963de592571654e91271ef8055d48290d27") true
  mh (fun _ h => by cases h) mW (fun _ h => by cases h) recordPuts_row_tie rfl ⟨rfl, rfl⟩ vg rfl
  (fun f fn hf hfn => by
   obtain rfl : f = 4 := Option.some.inj (gK.symm.trans hf) |>.symm
   obtain rfl : fn = Tryz.f4 := (Option.some.inj (Tryz.func4.symm.trans hfn)).symm
   exact ⟨sW, fun j t ht => by
    rw [Tryz.params4] at ht
    have hm : t ∈ [47, 47, 41, 41] := by simpa using Array.mem_of_getElem? ht
    have hs := List.all_eq_true.1 jX t hm
    simpa using hs⟩)
  kJ
#print axioms recordPuts_card
end Go.Proofs.YtmgbhhmipmgcpaaGreatDoor
