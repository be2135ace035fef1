/- The law PredKnown returns true: the row and its tied card. The conditions are the card's own: the listed variables of Go's library read as laid. Ahead of it: What the rows' listed variables give a walk, and the world that lays them. -/
import Derived.Test.YtohjkejdkhdjbaaGreatDoorQS07
import Derived.Test.YtohjkejdkhdjbaaGreatDoorRows
import Derived.Test.YtohjkejdkhdjbaaGreatDoorQL04e
import Derived.Test.YtohjkejdkhdjbaaGreatDoorTie
import Derived.Test.YtohjkejdkhdjbaaGreatDoorCards
import Derived.WalkKit
import Derived.ProofKit
import Derived.Lib.LaidU8
import Derived.MakeChecks
import Derived.Lay
import Derived.LaidOnce
import Derived.LaidLaws
import Derived.SevenTiedAt
namespace Go.Proofs.YtohjkejdkhdjbaaGreatDoor
open Go.ChangeShapes Go.WideShapes Go.ChangeAt Go.RowKit Go
theorem iface_of_reads {n : String} {nm : String} {d : DataW Unit} {w : World} {g : Nat} {t : TypeId} {ms : Array (String × TypeId)} (hg : Tryz.prog.globalNamed n = some g) (ht : (Tryz.prog.globals[g]?).map (·.type) = some t)
    (hi : Tryz.prog.underlying t = some (.interface ms)) (h : Lib.VarReads Tryz.prog w n (.iface nm d)) : ∃ tp p, w.var? Tryz.prog n = some #[.iface tp p] := by
  obtain ⟨g', t', cs, fuel, p, h1, h2, h3, h4⟩ := h
  obtain rfl := Option.some.inj (hg.symm.trans h1)
  obtain rfl := Option.some.inj (ht.symm.trans h2)
  obtain ⟨_, u, v, hcs, _, _⟩ := iface_of_trod hi h4
  refine ⟨u, v, ?_⟩
  rw [h3]
  cases cs
  simp at hcs
  simp [hcs]
theorem tab_of_reads {n : String} {w : World} {g : Nat} {t e : TypeId} {m : Nat} {k : IntKind} {zs : List Int} (hg : Tryz.prog.globalNamed n = some g) (ht : (Tryz.prog.globals[g]?).map (·.type) = some t)
    (hu : Tryz.prog.underlying t = some (.array m e)) (he : Tryz.prog.underlying e = some (.int k)) (hce : Tryz.prog.cellsOf e = 1) (hct : Tryz.prog.cellsOf t = m)
    (h : Lib.VarReads Tryz.prog w n (Lib.tabData k zs)) : Lib.TabIs Tryz.prog w n k zs := by
  obtain ⟨g', t', cs, fuel, p, h1, h2, h3, h4⟩ := h
  obtain rfl := Option.some.inj (hg.symm.trans h1)
  obtain rfl := Option.some.inj (ht.symm.trans h2)
  have := Lib.cells_of_tab hu he hce hct h4
  unfold Lib.TabIs
  rw [h3, ← this]
theorem global_lt {n : String} {w : World} {g : Nat} {cs : Array Value} (hg : Tryz.prog.globalNamed n = some g) (h : w.var? Tryz.prog n = some cs) : g < w.heap.size := by
  unfold World.var? at h
  rw [hg] at h
  simp only [Option.bind_some] at h
  cases e : w.heap[g]? with
  | none => simp [e] at h
  | some o => exact (Array.getElem?_eq_some_iff.1 e).1
/-- What is listed in the rows of the chapter. -/
noncomputable def laidL : List (String × DataW Unit) := Rows.predReadsRow.laid
theorem lv_of_laid {w : World} (h : laidMetH Tryz.prog laidL w) : Lv w.heap.size w := by
  rw [MakeChecks.laidMetH_plain _ _ _ (by kernel_rfl)] at h
  have m3 : ("internal/strconv.uint64pow10", (Rows.laid_internal_strconv_uint64pow10 : DataW Unit)) ∈ laidL := .tail _ (.tail _ (.head _))
  have m5 : ("strconv.ErrRange", (Rows.laid_strconv_ErrRange : DataW Unit)) ∈ laidL := .tail _ (.tail _ (.tail _ (.tail _ (.head _))))
  have m6 : ("strconv.ErrSyntax", (Rows.laid_strconv_ErrSyntax : DataW Unit)) ∈ laidL := .tail _ (.tail _ (.tail _ (.tail _ (.tail _ (.head _)))))
  have e3 : (Rows.laid_internal_strconv_uint64pow10 : DataW Unit) = Lib.tabData .u64 Lib.pow10Tab := by rfl
  rw [e3] at m3
  have hT := tab_of_reads gTab (by kernel_rfl) (t := 179) (e := 23) (m := 20) (by kernel_rfl) (by kernel_rfl) (by kernel_rfl) (by kernel_rfl) (Lib.laidMet.reads h m3)
  have hS := iface_of_reads gSyn (t := 126) (by kernel_rfl) Tryz.underlying126 (Lib.laidMet.reads h m6)
  have hR := iface_of_reads gRng (t := 126) (by kernel_rfl) Tryz.underlying126 (Lib.laidMet.reads h m5)
  obtain ⟨t1, p1, e1⟩ := hS
  obtain ⟨t2, p2, e2⟩ := hR
  exact ⟨hT, ⟨t1, p1, e1⟩, ⟨t2, p2, e2⟩, global_lt gTab hT, global_lt gSyn e1, global_lt gRng e2⟩
noncomputable def laidW (os : Os) : World := World.laidAll Tryz.prog os laidL
theorem laidW_met (os : Os) (args : Array Value) : laidMetH Tryz.prog laidL ((laidW os).forCall (fun _ _ => 0) ⟨#[], args, []⟩).memory := by
  rw [MakeChecks.laidMetH_plain _ _ _ (by kernel_rfl)]
  exact laidMet_laidAll _ (by kernel_rfl) (by kernel_rfl)
theorem laidW_shaped (os : Os) (args : Array Value) : ((laidW os).forCall (fun _ _ => 0) ⟨#[], args, []⟩).Shaped Tryz.prog := World.shaped_of_ZipB (by kernel_rfl) (by kernel_rfl)
end Go.Proofs.YtohjkejdkhdjbaaGreatDoor
namespace Go.Proofs.YtohjkejdkhdjbaaGreatDoor
open Go.ChangeShapes Go.WideShapes Go.ChangeAt Go.RowKit Go
set_option linter.unusedVariables false
set_option linter.unusedSimpArgs false
theorem predKnown_own : ownKnob Tryz.prog.godebug = none := by kernel_rfl
set_option maxRecDepth 100000 in
theorem predKnown_lifted (os : Os) (started : os.Started) (H : Type) (enc : TypeId × Value → H) :
    ReturnsInHanded {} Tryz.checked os 7 .any (fun w args => (Rows.predKnownSpec.pre enc Tryz.prog Tryz.f7 [] false w args ∧ laidMetH Tryz.prog laidL w) ∧ sizedMet enc Tryz.prog Tryz.f7 (OpenSpec.ofChange Rows.predKnownSpec) false w args)
      (Rows.predKnownSpec.post enc Tryz.prog Tryz.f7 false true false false) := by
  refine returnsInHanded_of_change_and (C := Tryz.checked) (X := fun w _ => laidMetH Tryz.prog laidL w) (fun _ _ _ hh h => h.of_heap hh) predKnown_own started (by kernel_rfl) Tryz.func7
    (ChangeSpec.witness_shaped (enc := enc) (C := Tryz.checked) (os := os) (X := fun w _ => laidMetH Tryz.prog laidL w) false (laidW os) #[] 8 (World.laidAll_os _ _ _)
      (laidW_shaped os _) (by kernel_rfl) (by kernel_rfl) (by kernel_rfl) (laidW_met os _)) ?_
  intro W base args ds gs before hval0 hW _ _ hL _
  have hW' := hW
  obtain ⟨p, q, hA0, hV, rfl, _, _⟩ := hW
  have hA : DataW.TrodAll enc Tryz.prog W 0 (fun _ => true) true Tryz.f7.params.toList args.toList ds p := hA0
  rw [Tryz.params7] at hA
  obtain ⟨rfl, rfl, rfl⟩ := trodAll_none hA
  obtain ⟨rfl, rfl⟩ := trodVars_none hV
  simp only [List.append_nil] at hW'
  refine (predKnown_law W (lv_of_laid hL)).mono fun e W' ⟨he, hb⟩ => ?_
  subst he
  exact ⟨_, rfl, _, _, _, [], [], [], hW', trodAll_mk1 (shut_bool Tryz.underlying4 _), trodAll_mk0, rfl, hb.frame _, fun h => by cases h⟩
theorem predKnown_row : Rows.PredKnownSaid :=
  OpenClaim.holds_of_wide 7 Tryz.f7 rfl rfl rfl rfl rfl rfl rfl ⟨rfl, rfl, rfl, rfl, rfl⟩ rfl rfl rfl rfl rfl (by kernel_rfl) Tryz.func7 (by kernel_rfl)
    (of_decide_eq_true (by kernel_rfl)) (by unfold Func.isWrapper; first | (rw [if_pos (by decide +kernel)]; kernel_rfl) | (rw [if_neg (by decide +kernel)]; exact ⟨rfl, rfl⟩))
    (fun os started H enc _ => predKnown_lifted os started H enc)
theorem predKnown_card : Rows.PredKnownCardSaid :=
  Claim7.holds_tied_plain_at .later [] [.data, .data, .data, .data, .sentinel, .sentinel, .pinned] true (true, "572aa6f6fe2d099dc5cac68c4a667c56ce2400581330bfd7f74ba6bca3c8942a") true
    predKnown_row (fun _ h => by cases h) (by kernel_rfl) (fun _ h => by cases h) predKnown_row_tie rfl ⟨rfl, rfl⟩ (by kernel_rfl) rfl
    (fun f fn hf hfn => by
      obtain rfl : f = 7 := Option.some.inj ((show Tryz.prog.funcNamed "alibi/alibilaw04.PredKnown" = some 7 by kernel_rfl).symm.trans hf) |>.symm
      obtain rfl : fn = Tryz.f7 := (Option.some.inj (Tryz.func7.symm.trans hfn)).symm
      exact ⟨by kernel_rfl, fun j t ht => by
        rw [Tryz.params7] at ht
        simp at ht⟩)
    (by kernel_rfl)
#print axioms predKnown_card
end Go.Proofs.YtohjkejdkhdjbaaGreatDoor
