/- The law CertTells returns true whatever the certificates are, and they read behind the call as before: the row and its tied card. The conditions are the card's own: the listed variables of Go's library read as laid. Ahead of it: What the rows' listed variables and the world's shape give a walk (for seats without chapter 4's readers: R05 over P01), the world that lays them, and the wrap that keeps both. Closed facts of the row and the card of CertTells, each by itself. -/
import Derived.Test.YtmhiblmgadmgcaaDoorUP01
import Derived.Test.YtmhiblmgadmgcaaDoorRows
import Derived.Test.YtmhiblmgadmgcaaDoorChecked
import Derived.Test.YtmhiblmgadmgcaaDoorUL28
import Derived.Test.YtmhiblmgadmgcaaDoorUO28
import Derived.Test.YtmhiblmgadmgcaaDoorTie
import Derived.Test.YtmhiblmgadmgcaaDoorCards
import Derived.HandedShaped
import Derived.Shelf.Vars
import Derived.WalkKit
import Derived.ProofKit
import Derived.Lib.LaidU8
import Derived.MakeChecks
import Derived.Lay
import Derived.LaidOnce
import Derived.LaidLaws
import Derived.SevenTiedAt
import Derived.JoinedOf
import Derived.KernelRfl
import Derived.Carry
namespace Go.Proofs.YtmhiblmgadmgcaaDoor
open Go.ChangeShapes Go.WideShapes Go.ChangeAt Go.RowKit Go
theorem tab_of_reads {n : String} {w : World} {g : Nat} {t e : TypeId} {m : Nat} {k : IntKind} {zs : List Int} (hg : Tryd.prog.globalNamed n = some g) (ht : (Tryd.prog.globals[g]?).map (·.type) = some t)
    (hu : Tryd.prog.underlying t = some (.array m e)) (he : Tryd.prog.underlying e = some (.int k)) (hce : Tryd.prog.cellsOf e = 1) (hct : Tryd.prog.cellsOf t = m)
    (h : Lib.VarReads Tryd.prog w n (Lib.tabData k zs)) : Lib.TabIs Tryd.prog w n k zs := by
  obtain ⟨g', t', cs, fuel, p, h1, h2, h3, h4⟩ := h
  obtain rfl := Option.some.inj (hg.symm.trans h1)
  obtain rfl := Option.some.inj (ht.symm.trans h2)
  have := Lib.cells_of_tab hu he hce hct h4
  unfold Lib.TabIs
  rw [h3, ← this]
theorem global_lt {n : String} {w : World} {g : Nat} {cs : Array Value} (hg : Tryd.prog.globalNamed n = some g) (h : w.var? Tryd.prog n = some cs) : g < w.heap.size := by
  unfold World.var? at h
  rw [hg] at h
  simp only [Option.bind_some] at h
  cases e : w.heap[g]? with
  | none => simp [e] at h
  | some o => exact (Array.getElem?_eq_some_iff.1 e).1
/-- What is listed in the rows of the chapter. -/
noncomputable def laidL : List (String × DataW Unit) := Rows.certTellsRow.laid
theorem lv_of_laid {w : World} (h : laidMetH Tryd.prog laidL w) : Lv w.heap.size w := by
  rw [MakeChecks.laidMetH_plain _ _ _ (by kernel_rfl)] at h
  have m3 : ("internal/strconv.uint64pow10", (Rows.laid_internal_strconv_uint64pow10 : DataW Unit)) ∈ laidL := by repeat (first | exact List.Mem.head _ | apply List.Mem.tail)
  have e3 : (Rows.laid_internal_strconv_uint64pow10 : DataW Unit) = Lib.tabData .u64 Lib.pow10Tab := by rfl
  rw [e3] at m3
  have hT := tab_of_reads gTab (by kernel_rfl) (t := 151) (e := 48) (m := 20) (by kernel_rfl) (by kernel_rfl) (by kernel_rfl) (by kernel_rfl) (Lib.laidMet.reads h m3)
  exact ⟨hT, global_lt gTab hT⟩
theorem lq_of_laid {w : World} (h : laidMetH Tryd.prog laidL w) (_ : w.ShapedOpen Tryd.prog) : Lq w.heap.size w := ⟨lv_of_laid h⟩
theorem handed_both {H : Type} {enc : TypeId × Value → H} {a : Assume} {C : Checked} {os : Os} {f : FuncId} {fn : Func} {s : ChangeSpec} {conds : List PathCond} {apart fresh handsOn again : Bool} {X : World → Array Value → Prop}
    (hX : ∀ (w w' : World) (args : Array Value), w.heap = w'.heap → X w args → X w' args)
    (own : ownKnob C.prog.godebug = none) (started : os.Started) (noInit : C.prog.inits.idxOf? f = none) (hfn : C.prog.funcs[f]? = some fn)
    (witness : ∃ (w : World) (tape : Tape) (i : Input), w.os = os ∧ (w.forCall tape i).Shaped C.prog ∧ i.vars = [] ∧ Input.okWide C.prog (w.forCall tape i) .any w.heap.size f i ∧
      ((s.pre enc C.prog fn conds apart (w.forCall tape i).memory i.args ∧ X (w.forCall tape i).memory i.args) ∧ sizedMet enc C.prog fn (OpenSpec.ofChange s) apart (w.forCall tape i).memory i.args) ∧ a.holds C.prog (lone (Frame.enter C.prog f i.args .normal) [] (w.forCall tape i)))
    (contract : ∀ (W : World) (base : Nat) (args : Array Value) (ds gs : List (DataW H)) (before : List MemPlace),
      (∀ (j : Nat) t v, fn.params[j]? = some t → args[j]? = some v → Value.okWide C.prog W .any base t v) →
      DataW.Whole enc C.prog fn.params.toList s.vars apart W args.toList ds gs before →
      W.ShapedOpen C.prog → X W args →
      Calls C.prog f args W fun e W' => ∃ v, e = .returned v ∧ s.post enc C.prog fn apart fresh handsOn again W args v W') :
    ReturnsInHanded a C os f .any (fun w args => (s.pre enc C.prog fn conds apart w args ∧ X w args) ∧ sizedMet enc C.prog fn (OpenSpec.ofChange s) apart w args) (s.post enc C.prog fn apart fresh handsOn again) := by
  refine returnsInHanded_of_calls own started noInit witness ?_
  intro w tape i _ hsh _ hok hpre hholds
  obtain ⟨_, _, _, fn', hfn', _, _, _, _, hval⟩ := hok
  have e : fn' = fn := Option.some.inj (hfn'.symm.trans hfn)
  subst e
  obtain ⟨⟨⟨ds, gs, before, hw, _⟩, hx⟩, _⟩ := hpre
  refine (contract (w.forCall tape i) w.heap.size i.args ds gs before hval (DataW.Whole.of_heap (w' := w.forCall tape i) (by rfl) hw) hsh (hX _ _ _ (by rfl) hx)).mono fun e W' ⟨v, he, hp⟩ => ?_
  subst he
  exact ChangeSpec.post_blind hp
noncomputable def laidW (os : Os) : World := World.laidAll Tryd.prog os laidL
theorem laidW_met (os : Os) (args : Array Value) : laidMetH Tryd.prog laidL ((laidW os).forCall (fun _ _ => 0) ⟨#[], args, []⟩).memory := by
  rw [MakeChecks.laidMetH_plain _ _ _ (by kernel_rfl)]
  exact laidMet_laidAll _ (by kernel_rfl) (by kernel_rfl)
theorem laidW_shaped (os : Os) (args : Array Value) : ((laidW os).forCall (fun _ _ => 0) ⟨#[], args, []⟩).Shaped Tryd.prog := World.shaped_of_ZipB (by kernel_rfl) (by kernel_rfl)
end Go.Proofs.YtmhiblmgadmgcaaDoor
namespace Go.Proofs.YtmhiblmgadmgcaaDoor
open Go
theorem certTells_named : Tryd.pinned.checked.prog.funcNamed Rows.certTellsRow.func = some 3 := by kernel_rfl
set_option maxHeartbeats 8000000 in
theorem certTells_facts : joinedFacts Tryd.pinned.checked.prog 3 Tryd.f3 Rows.certTellsSpec Rows.certTellsRow = true := by
  unfold joinedFacts
  simp only [Bool.and_eq_true]
  repeat' apply And.intro
  all_goals decide +kernel
theorem certTells_wf : Rows.certTellsRow.wfByText (OpenSpec.ofChange Rows.certTellsSpec) = true := by kernel_rfl
theorem certTells_goes : false = Rows.certTellsRow.goesBy Tryd.pinned.checked.prog := by kernel_rfl
theorem seat_main : Tryd.pinned.checked.prog.mainIs = some (true, "03f5316ded44880761e04963487e11f5140b5af00548078896b635db111334a5".toList) := by kernel_rfl
theorem seat_looks : false = Tryd.pinned.checked.prog.looks [] := by kernel_rfl
theorem certTells_stand : ([25].all fun u => !Tryd.pinned.checked.prog.wantsStandIn u) = true := by kernel_rfl
end Go.Proofs.YtmhiblmgadmgcaaDoor
namespace Go.Proofs.YtmhiblmgadmgcaaDoor
open Go.ChangeShapes Go.WideShapes Go.ChangeAt Go.RowKit Go
set_option linter.unusedVariables false
set_option linter.unusedSimpArgs false
theorem ev_laidOut : laidOutB Tryd.prog = true := by kernel_rfl
theorem certTells_own : ownKnob Tryd.prog.godebug = none := by kernel_rfl
set_option maxRecDepth 100000 in
theorem certTells_lifted (os : Os) (started : os.Started) (H : Type) (enc : TypeId × Value → H) :
    ReturnsInHanded {} Tryd.checked os 3 .any (fun w args => (Rows.certTellsSpec.pre enc Tryd.prog Tryd.f3 [] false w args ∧ laidMetH Tryd.prog laidL w) ∧ sizedMet enc Tryd.prog Tryd.f3 (OpenSpec.ofChange Rows.certTellsSpec) false w args)
      (Rows.certTellsSpec.post enc Tryd.prog Tryd.f3 false true false false) := by
  refine handed_both (C := Tryd.checked) (X := fun w _ => laidMetH Tryd.prog laidL w) (fun _ _ _ hh h => h.of_heap hh) certTells_own started (by kernel_rfl) Tryd.func3
    (ChangeSpec.witness_shaped (enc := enc) (C := Tryd.checked) (os := os) (X := fun w _ => laidMetH Tryd.prog laidL w) false (laidW os) #[(.agg #[.int .i64 0, .slice none 0 0, .int .i64 0, .int .i64 0, .slice none 0 0]), (.agg #[.int .i64 0, .slice none 0 0, .int .i64 0, .int .i64 0, .slice none 0 0])] 8 (World.laidAll_os _ _ _)
      (laidW_shaped os _) (by kernel_rfl) (by kernel_rfl) (by kernel_rfl) (laidW_met os _)) ?_
  intro W base args ds gs before hval0 hW hsh hL
  have hval : ∀ (j : Nat) t v, Tryd.f3.params[j]? = some t → args[j]? = some v → Value.okWide Tryd.prog W .any base t v := hval0
  have hW' := hW
  obtain ⟨p, q, hA0, hV, rfl, _, _⟩ := hW
  have hA : DataW.TrodAll enc Tryd.prog W 0 (fun _ => true) true Tryd.f3.params.toList args.toList ds p := hA0
  rw [Tryd.params3] at hA hval
  obtain ⟨v0, v1, d0, d1, p0, p1, rfl, rfl, rfl, h0, h1⟩ := trodAll_two hA
  obtain ⟨rfl, rfl⟩ := trodVars_none hV
  obtain ⟨c0, n0, r0⟩ := open_crt (hval 0 _ v0 rfl rfl) h0
  obtain ⟨c1, n1, r1⟩ := open_crt (hval 1 _ v1 rfl rfl) h1
  simp only [List.append_nil] at hW'
  have lt0 : ∀ z ∈ p0, z.block < W.heap.size := fun z hz => by simpa using hW'.lt z (by simp [hz])
  have lt1 : ∀ z ∈ p1, z.block < W.heap.size := fun z hz => by simpa using hW'.lt z (by simp [hz])
  refine (certTells_law _ _ c0 c1 v0 v1 W r0 r1 n0 n1 (lq_of_laid hL hsh)).mono fun e W' ⟨he, hb⟩ => ?_
  subst he
  exact ⟨_, rfl, _, _, _, [], _, [], hW', trodAll_mk1 (shut_bool Tryd.underlying4 _), trodAll_mk2 (Below.trod ev_laidOut (by kernel_rfl) (of_decide_eq_true (by kernel_rfl)) h0 hb lt0) (Below.trod ev_laidOut (by kernel_rfl) (of_decide_eq_true (by kernel_rfl)) h1 hb lt1), rfl, hb.frame _, fun h => by cases h⟩
theorem certTells_row : Rows.CertTellsSaid :=
  OpenClaim.holds_of_wide 3 Tryd.f3 rfl rfl rfl rfl rfl rfl rfl ⟨rfl, rfl, rfl, rfl, rfl⟩ rfl rfl rfl rfl rfl certTells_named Tryd.func3 certTells_facts
    (of_decide_eq_true (by kernel_rfl)) (by unfold Func.isWrapper; first | (rw [if_pos (by decide +kernel)]; kernel_rfl) | (rw [if_neg (by decide +kernel)]; exact ⟨rfl, rfl⟩))
    (fun os started H enc _ => certTells_lifted os started H enc)
theorem certTells_card : Rows.CertTellsCardSaid :=
  Claim7.holds_tied_plain_at .later [] [.data, .data, .data] true (true, "03f5316ded44880761e04963487e11f5140b5af00548078896b635db111334a5") false
    certTells_row (fun _ h => by cases h) certTells_wf (fun _ h => by cases h) certTells_row_tie rfl ⟨rfl, rfl⟩ seat_main rfl
    (fun f fn hf hfn => by
      obtain rfl : f = 3 := Option.some.inj (certTells_named.symm.trans hf) |>.symm
      obtain rfl : fn = Tryd.f3 := (Option.some.inj (Tryd.func3.symm.trans hfn)).symm
      exact ⟨seat_looks, fun j t ht => by
        rw [Tryd.params3] at ht
        have hm : t ∈ [25] := by
          have := Array.mem_of_getElem? ht
          simp at this ⊢
          omega
        have hs := List.all_eq_true.1 certTells_stand t hm
        simpa using hs⟩)
    certTells_goes
#print axioms certTells_card
end Go.Proofs.YtmhiblmgadmgcaaDoor
