/- The law WireDecodes returns true whatever the bytes are, and its argument reads behind the call as before. -/
import Derived.Test.YtlpgokcapdjgjaaGreatDoorY78
import Derived.Test.YtlpgokcapdjgjaaGreatDoorY87
import Derived.Test.YtlpgokcapdjgjaaGreatDoorTie
import Derived.Test.YtlpgokcapdjgjaaGreatDoorCards
import Derived.ProofKit
import Derived.ChangeSlices
import Derived.HandedShaped
import Derived.Shelf.Vars
import Derived.Lib.LaidU8
import Derived.MakeChecks
import Derived.Lay
import Derived.LaidOnce
import Derived.LaidLaws
import Derived.Carry
set_option maxRecDepth 100000
namespace Go.Proofs.YtlpgokcapdjgjaaGreatDoor
open Go.ChangeShapes Go.WideShapes Go.ChangeAt Go.RowKit Go
set_option linter.unusedVariables false
set_option linter.unusedSimpArgs false
theorem cU8 : Tryz.prog.cellsOf 5 = 1 := by kernel_rfl
theorem Bi {H : Type} {enc : TypeId × Value → H} {w : World} {r : Reach} {b0 : Nat} {sp : Nat → Bool} {held : Bool} {v : Value} {d : DataW H} {ps : List MemPlace} (hval : Value.okWide Tryz.prog w r b0 32 v)
  (h : DataW.Trod enc Tryz.prog w 0 sp held 32 v d ps) : ∃ l, aO w (fun _ => True) false l v := by
 obtain ⟨a0, len, cap, rfl⟩ := okWide_slice Tryz.underlying32 hval;obtain ⟨fuel, hf⟩ := h;rcases open_ints Tryz.underlying32 Tryz.underlying5 cU8 hf with ⟨hcs, _⟩ | ⟨a, len', cap', zs, hcs, _, hl, hm, hz, _, hcell, hwz⟩
 ·have e : Value.slice a0 len cap = .slice none 0 0 := by simpa [Value.cells] using hcs
  rw [e];exact ⟨[], aO.none⟩
 ·have e : Value.slice a0 len cap = .slice (some a) len' cap' := by simpa [Value.cells] using hcs
  rw [e];have hzl : len' ≤ zs.length := by rw [hz]; split <;> omega
  have hby : ∀ j (hj : j < zs.length), 0 ≤ zs[j] ∧ zs[j] ≤ 255 := fun j hj => by
   have := hwz _ (List.getElem_mem hj);simpa [Lit.wf, IntKind.min, IntKind.max, IntKind.signed, IntKind.bits] using this
  have hll : ((zs.take len').map fun z => z.toNat.toUInt8).length = len' := by simp; omega
  refine ⟨(zs.take len').map fun z => z.toNat.toUInt8, by simp, by rw [hll]; unfold maxLen at hm; omega, some a, cap', by rw [hll], by rw [hll]; exact hl, fun hn => ?_⟩;rw [hll] at hn;obtain ⟨bl, off, spt⟩ := a;have h0 := hcell 0 (by omega);have hsp : spt = none := World.cell?_spot (a := ⟨bl, off, spt⟩) (by simpa [Addr.add] using h0);subst hsp;refine ⟨bl, off, rfl, trivial, fun j hj => ⟨?_, fun h => by cases h⟩⟩;have hj' : j < len' := by rw [bytes_length, hll] at hj; exact hj
  have hc := hcell j (by omega);have hadd : (⟨bl, off, none⟩ : Addr).add j = ⟨bl, off + j, none⟩ := by unfold Addr.add; split <;> simp_all
  rw [hadd] at hc;rw [hc];have hb := hby j (by omega);have e2 : zs.getD j 0 = zs[j] := by simp [List.getD, af (show j < zs.length by omega)]
  rw [e2];simp only [bytes, List.getElem_map, List.getElem_take, Option.some.injEq, Value.int.injEq, true_and];rw [fU (by omega)];omega
theorem lU {n : String} {nm : String} {d : DataW Unit} {w : World} {g : Nat} {t : TypeId} {ms : Array (String × TypeId)} (hg : Tryz.prog.globalNamed n = some g) (ht : (Tryz.prog.globals[g]?).map (·.type) = some t)
  (hi : Tryz.prog.underlying t = some (.interface ms)) (h : Lib.VarReads Tryz.prog w n (.iface nm d)) : ∃ tp p, w.var? Tryz.prog n = some #[.iface tp p] := by
 obtain ⟨g', t', cs, fuel, p, h1, h2, h3, h4⟩ := h;obtain rfl := Option.some.inj (hg.symm.trans h1);obtain rfl := Option.some.inj (ht.symm.trans h2);obtain ⟨_, u, v, hcs, _, _⟩ := iface_of_trod hi h4;refine ⟨u, v, ?_⟩;rw [h3];cases cs
 simp at hcs;simp [hcs]
theorem xC {n : String} {w : World} {g : Nat} {t e : TypeId} {m : Nat} {k : IntKind} {zs : List Int} (hg : Tryz.prog.globalNamed n = some g) (ht : (Tryz.prog.globals[g]?).map (·.type) = some t)
  (hu : Tryz.prog.underlying t = some (.array m e)) (he : Tryz.prog.underlying e = some (.int k)) (hce : Tryz.prog.cellsOf e = 1) (hct : Tryz.prog.cellsOf t = m)
  (h : Lib.VarReads Tryz.prog w n (Lib.tabData k zs)) : Lib.TabIs Tryz.prog w n k zs := by
 obtain ⟨g', t', cs, fuel, p, h1, h2, h3, h4⟩ := h;obtain rfl := Option.some.inj (hg.symm.trans h1);obtain rfl := Option.some.inj (ht.symm.trans h2);have := Lib.cells_of_tab hu he hce hct h4;unfold Lib.TabIs;rw [h3, ← this]
theorem pV {n : String} {w : World} {g : Nat} {cs : Array Value} (hg : Tryz.prog.globalNamed n = some g) (h : w.var? Tryz.prog n = some cs) : g < w.1.size := by
 unfold World.var? at h;rw [hg] at h;simp only [ai] at h;cases e : w.1[g]? with
 | none => simp [e] at h
 | some o => exact (ak e).1
noncomputable def laidL : List (String × DataW Unit) := Rows.wireLinesRow.laid
theorem Bj {w : World} (h : laidMetH Tryz.prog laidL w) : Lv w.1.size w := by
 rw [MakeChecks.laidMetH_plain _ _ _ (by kernel_rfl)] at h;have m3 : ("internal/strconv.uint64pow10", (Rows.laid_internal_strconv_uint64pow10 : DataW Unit)) ∈ laidL := .tail _ (.tail _ (.head _));have m5 : ("strconv.ErrRange", (Rows.laid_strconv_ErrRange : DataW Unit)) ∈ laidL := .tail _ (.tail _ (.tail _ (.tail _ (.head _))));have m6 : ("strconv.ErrSyntax", (Rows.laid_strconv_ErrSyntax : DataW Unit)) ∈ laidL := .tail _ (.tail _ (.tail _ (.tail _ (.tail _ (.head _)))));have e3 : (Rows.laid_internal_strconv_uint64pow10 : DataW Unit) = Lib.tabData .u64 Lib.pow10Tab := by rfl
 rw [e3] at m3;have hT := xC Gt (by kernel_rfl) (t := 328) (e := 57) (m := 20) (by kernel_rfl) (by kernel_rfl) (by kernel_rfl) (by kernel_rfl) (Lib.laidMet.reads h m3);have hS := lU Gu (t := 124) (by kernel_rfl) Tryz.underlying124 (Lib.laidMet.reads h m6);have hR := lU Gw (t := 124) (by kernel_rfl) Tryz.underlying124 (Lib.laidMet.reads h m5);obtain ⟨t1, p1, e1⟩ := hS;obtain ⟨t2, p2, e2⟩ := hR;exact ⟨hT, ⟨t1, p1, e1⟩, ⟨t2, p2, e2⟩, pV Gt hT, pV Gu e1, pV Gw e2⟩
theorem Bl {w : World} (h : laidMetH Tryz.prog laidL w) (hsh : w.ShapedOpen Tryz.prog) : Lq w.1.size w := by
 obtain ⟨m, hm⟩ := cell_of_shapedOpen_int (P := Tryz.prog) (g := 0) (t := 3) (zero := #[.int .i64 0]) hsh (of_decide_eq_true (by kernel_rfl)) (by kernel_rfl) rfl (by kernel_rfl) (by kernel_rfl) Tryz.underlying3;exact ⟨Bj h, ⟨m, hm⟩, aG w _ hm⟩
theorem zD {H : Type} {enc : TypeId × Value → H} {a : Assume} {C : Checked} {os : Os} {f : FuncId} {fn : Func} {s : ChangeSpec} {conds : List PathCond} {apart fresh handsOn again : Bool} {X : World → Array Value → Prop}
  (hX : ∀ (w w' : World) (args : Array Value), w.heap = w'.heap → X w args → X w' args)
  (own : ownKnob C.prog.godebug = none) (started : os.Started) (noInit : C.prog.inits.idxOf? f = none) (hfn : C.prog.funcs[f]? = some fn)
  (witness : ∃ (w : World) (tape : Tape) (i : Input), w.os = os ∧ (w.forCall tape i).Shaped C.prog ∧ i.vars = [] ∧ Input.okWide C.prog (w.forCall tape i) .any w.1.size f i ∧
   ((s.pre enc C.prog fn conds apart (w.forCall tape i).memory i.args ∧ X (w.forCall tape i).memory i.args) ∧ sizedMet enc C.prog fn (OpenSpec.ofChange s) apart (w.forCall tape i).memory i.args) ∧ a.holds C.prog (lone (Frame.enter C.prog f i.args .normal) [] (w.forCall tape i)))
  (contract : ∀ (W : World) (base : Nat) (args : Array Value) (ds gs : List (DataW H)) (before : List MemPlace),
   (∀ (j : Nat) t v, fn.params[j]? = some t → args[j]? = some v → Value.okWide C.prog W .any base t v) →
   DataW.Whole enc C.prog fn.params.toList s.vars apart W args.toList ds gs before →
   W.ShapedOpen C.prog → X W args →
   Calls C.prog f args W fun e W' => ∃ v, e = .returned v ∧ s.post enc C.prog fn apart fresh handsOn again W args v W') :
  ReturnsInHanded a C os f .any (fun w args => (s.pre enc C.prog fn conds apart w args ∧ X w args) ∧ sizedMet enc C.prog fn (OpenSpec.ofChange s) apart w args) (s.post enc C.prog fn apart fresh handsOn again) := by
 refine returnsInHanded_of_calls own started noInit witness ?_;intro w tape i _ hsh _ hok hpre hholds;obtain ⟨_, _, _, fn', hfn', _, _, _, _, hval⟩ := hok;have e : fn' = fn := Option.some.inj (hfn'.symm.trans hfn);subst e;obtain ⟨⟨⟨ds, gs, before, hw, _⟩, hx⟩, _⟩ := hpre;refine (contract (w.forCall tape i) w.1.size i.args ds gs before hval (DataW.Whole.of_heap (w' := w.forCall tape i) (by rfl) hw) hsh (hX _ _ _ (by rfl) hx)).mono fun e W' ⟨v, he, hp⟩ => ?_
 subst he;exact ChangeSpec.post_blind hp
noncomputable def laidW (os : Os) : World := World.laidAll Tryz.prog os laidL
theorem Dp (os : Os) (args : Array Value) : laidMetH Tryz.prog laidL ((laidW os).forCall (fun _ _ => 0) ⟨#[], args, []⟩).memory := by
 rw [MakeChecks.laidMetH_plain _ _ _ (by kernel_rfl)];exact laidMet_laidAll _ (by kernel_rfl) (by kernel_rfl)
theorem xD (os : Os) (args : Array Value) : ((laidW os).forCall (fun _ _ => 0) ⟨#[], args, []⟩).Shaped Tryz.prog := World.shaped_of_ZipB (by kernel_rfl) (by kernel_rfl)
theorem qJ : ownKnob Tryz.prog.godebug = none := by kernel_rfl
theorem nC (os : Os) (started : os.Started) (H : Type) (enc : TypeId × Value → H) :
  ReturnsInHanded {} Tryz.checked os 4 .any (fun w args => (Rows.wireDecodesSpec.pre enc Tryz.prog Tryz.f4 [] false w args ∧ laidMetH Tryz.prog laidL w) ∧ sizedMet enc Tryz.prog Tryz.f4 (OpenSpec.ofChange Rows.wireDecodesSpec) false w args)
   (Rows.wireDecodesSpec.post enc Tryz.prog Tryz.f4 false true false false) := by
 refine zD (C := Tryz.checked) (X := fun w _ => laidMetH Tryz.prog laidL w) (fun _ _ _ hh h => h.of_heap hh) qJ started (by kernel_rfl) Tryz.func4
  (ChangeSpec.witness_shaped (enc := enc) (C := Tryz.checked) (os := os) (X := fun w _ => laidMetH Tryz.prog laidL w) false (laidW os) #[.slice none 0 0] 8 (World.laidAll_os _ _ _)
   (xD os _) (by kernel_rfl) (by kernel_rfl) (by kernel_rfl) (Dp os _)) ?_
 intro W base args ds gs before hval0 hW hsh hL;have hval : ∀ (j : Nat) t v, Tryz.f4.params[j]? = some t → args[j]? = some v → Value.okWide Tryz.prog W .any base t v := hval0;have hW' := hW;obtain ⟨p, q, hA0, hV, rfl, _, _⟩ := hW;have hA : DataW.TrodAll enc Tryz.prog W 0 (fun _ => true) true Tryz.f4.params.toList args.toList ds p := hA0;rw [Tryz.params4] at hA hval;obtain ⟨v0, d0, rfl, rfl, h0⟩ := trodAll_one hA;obtain ⟨rfl, rfl⟩ := trodVars_none hV;obtain ⟨l, r0⟩ := Bi (hval 0 _ v0 rfl rfl) h0;simp only [List.append_nil] at hW';have lt0 : ∀ z ∈ p, z.block < W.1.size := fun z hz => by simpa using hW'.lt z (by simp [hz])
 refine (qI _ _ l v0 W r0 (Bl hL hsh)).mono fun e W' ⟨he, hb⟩ => ?_
 subst he;exact ⟨_, rfl, _, _, _, [], _, [], hW', trodAll_mk1 (shut_bool Tryz.underlying4 _), trodAll_mk1 (Below.trod xB (by kernel_rfl) (of_decide_eq_true (by kernel_rfl)) h0 hb lt0), rfl, hb.frame _, fun h => by cases h⟩
theorem qK : Rows.WireDecodesSaid :=
 OpenClaim.holds_of_wide 4 Tryz.f4 rfl rfl rfl rfl rfl rfl rfl ⟨rfl, rfl, rfl, rfl, rfl⟩ rfl rfl rfl rfl rfl jv Tryz.func4 oK
  (of_decide_eq_true (by kernel_rfl)) (by unfold Func.isWrapper; first | (rw [if_pos (by decide +kernel)]; kernel_rfl) | (rw [if_neg (by decide +kernel)]; exact ⟨rfl, rfl⟩))
  (fun os started H enc _ => nC os started H enc)
theorem wireDecodes_card : Rows.WireDecodesCardSaid :=
 Claim7.holds_tied_plain_at .later [] [.data, .data, .data, .data, .sentinel, .sentinel, .pinned] true (true, "b93610b3fa7d4fa11c66d052e10adb942f8d10353ecfea2a0b12dad2e2706bf5") true
  qK (fun _ h => by cases h) uh (fun _ h => by cases h) wireDecodes_row_tie rfl ⟨rfl, rfl⟩ Dn rfl
  (fun f fn hf hfn => by
   obtain rfl : f = 4 := Option.some.inj (jv.symm.trans hf) |>.symm
   obtain rfl : fn = Tryz.f4 := (Option.some.inj (Tryz.func4.symm.trans hfn)).symm;exact ⟨Bh, fun j t ht => by
    rw [Tryz.params4] at ht;have hm : t ∈ [32] := (by simpa using Array.mem_of_getElem? ht);have hs := List.all_eq_true.1 oL t hm;simpa using hs⟩)
  pU
#print axioms wireDecodes_card
end Go.Proofs.YtlpgokcapdjgjaaGreatDoor
