/- What the rows' listed variables and the world's shape give a walk (chapter 5), the world that lays them, and the wrap that keeps both. -/
import Derived.Test.YtmgbhhmipmgcpaaGreatDoorY48
import Derived.Test.YtmgbhhmipmgcpaaGreatDoorRows
import Derived.Deep.Slices
import Derived.DataReads
import Derived.ProofKit
import Derived.Carry
import Derived.ChangeSlices
import Derived.HandedShaped
import Derived.Shelf.Vars
import Derived.Lib.LaidU8
import Derived.MakeChecks
import Derived.Lay
import Derived.LaidOnce
import Derived.LaidLaws
import Derived.SevenTiedAt
set_option maxRecDepth 100000
namespace Go.Proofs.YtmgbhhmipmgcpaaGreatDoor
open Go.RowKit Go Go.Deep
set_option linter.unusedVariables false
set_option linter.unusedSimpArgs false
open Go.ChangeShapes Go.WideShapes Go.ChangeAt
theorem tC : laidOutB Tryz.prog = true := by kernel_rfl
section
variable {H : Type} {enc : TypeId × Value → H} {P : Program} {w : World} {base : Nat} {spare : Nat → Bool} {held : Bool}
end
theorem cU8 : Tryz.prog.cellsOf 5 = 1 := by kernel_rfl
theorem Cn : Tryz.prog.cellsOf 24 = 2 := by kernel_rfl
theorem cBy : Tryz.prog.cellsOf 22 = 1 := by kernel_rfl
theorem yA : ∃ fs : Array Field, Tryz.prog.underlying 24 = some (.struct fs) ∧ fs.toList.map (fun f => (f.type, f.offset)) = [(5, 0), (22, 1)] := ⟨_, Tryz.underlying24, by kernel_rfl⟩
section
variable {H : Type} {enc : TypeId × Value → H} {w : World} {sp : Nat → Bool} {held : Bool}
theorem ve {fuel : Nat} {T : TypeId} {fs : Array Field} {l : List (TypeId × Nat)} {cs : List Value} {x : DataW H × List MemPlace} (hu : Tryz.prog.underlying T = some (.struct fs)) (hf : fs.toList.map (fun f => (f.type, f.offset)) = l)
  (h : DataW.trod enc Tryz.prog w 0 sp held fuel T cs = some x) : cs.length = Tryz.prog.cellsOf T ∧ ∃ n, n < fuel ∧ ∀ i (hi : i < l.length), ∃ y, DataW.trod enc Tryz.prog w 0 sp held n l[i].1 ((cs.drop l[i].2).take (Tryz.prog.cellsOf l[i].1)) = some y := by
 obtain ⟨xs, n, rfl, rfl, hl, hxl, hall⟩ := DataW.trod_struct hu h
 refine ⟨hl, n, by omega, fun i hi => ?_⟩
 have hfl : fs.size = l.length := by have := congrArg List.length hf; simpa using this
 have hi' : i < fs.size := by omega
 have hfi : (fs[i].type, fs[i].offset) = l[i] := by
  have := List.getElem_of_eq hf (i := i) (by simpa using hi')
  simpa using this
 have ha := hall i fs[i] (by simp [hi'])
 rw [List.getElem?_eq_getElem (show i < xs.length by omega)] at ha
 rw [← hfi]
 exact ⟨_, ha⟩
theorem qA {n : Nat} {c : Value} {y : DataW H × List MemPlace} (h : DataW.trod enc Tryz.prog w 0 sp held n 22 [c] = some y) : ∃ l, ay w (fun _ => True) false l c := by
 rcases open_ints Tryz.underlying22 Tryz.underlying5 cU8 h with ⟨hcs, _⟩ | ⟨a, len', cap', zs, hcs, _, hl, hm, hz, _, hcell, hwz⟩
 ·simp only [List.cons.injEq, and_true] at hcs
  rw [hcs]
  exact ⟨[], ay.none⟩
 ·simp only [List.cons.injEq, and_true] at hcs
  rw [hcs]
  have hzl : len' ≤ zs.length := by rw [hz]; split <;> omega
  have hby : ∀ j (hj : j < zs.length), 0 ≤ zs[j] ∧ zs[j] ≤ 255 := fun j hj => by
   have := hwz _ (List.getElem_mem hj)
   simpa [Lit.wf, IntKind.min, IntKind.max, IntKind.signed, IntKind.bits] using this
  have hll : ((zs.take len').map fun z => z.toNat.toUInt8).length = len' := by simp; omega
  refine ⟨(zs.take len').map fun z => z.toNat.toUInt8, by simp, by rw [hll]; unfold maxLen at hm; omega, some a, cap', by rw [hll], by rw [hll]; exact hl, fun hn => ?_⟩
  rw [hll] at hn
  obtain ⟨bl, off, spt⟩ := a
  have h0 := hcell 0 (by omega)
  have hsp : spt = none := World.cell?_spot (a := ⟨bl, off, spt⟩) (by simpa [Addr.add] using h0)
  subst hsp
  refine ⟨bl, off, rfl, trivial, fun j hj => ⟨?_, fun h => by cases h⟩⟩
  have hj' : j < len' := by rw [bytes_length, hll] at hj; exact hj
  have hc := hcell j (by omega)
  have hadd : (⟨bl, off, none⟩ : Addr).add j = ⟨bl, off + j, none⟩ := by unfold Addr.add; split <;> simp_all
  rw [hadd] at hc
  rw [hc]
  have hb := hby j (by omega)
  have e2 : zs.getD j 0 = zs[j] := by simp [List.getD, List.getElem?_eq_getElem (show j < zs.length by omega)]
  rw [e2]
  simp only [bytes, List.getElem_map, List.getElem_take, Option.some.injEq, Value.int.injEq, true_and]
  rw [gW (by omega)]
  omega
theorem qB {n : Nat} {cs : List Value} {y : DataW H × List MemPlace} (h : DataW.trod enc Tryz.prog w 0 sp held n 24 cs = some y) : ∃ (k : Nat) (b : List UInt8) (vb : Value), cs = [.int .u8 (k : Nat), vb] ∧ k < 256 ∧ ay w (fun _ => True) false b vb := by
 obtain ⟨fs, hu, hf⟩ := yA
 obtain ⟨hl, m, hm, hall⟩ := ve hu hf h
 rw [Cn] at hl
 match cs, hl with
 | [c0, c1], _ =>
  obtain ⟨y0, a0⟩ := hall 0 (by simp)
  obtain ⟨y1, a1⟩ := hall 1 (by simp)
  simp only [List.getElem_cons_zero, List.getElem_cons_succ, cU8, cBy, List.drop_zero, List.drop_succ_cons, List.take_succ_cons, List.take_zero] at a0 a1
  obtain ⟨k, q0, _, w0⟩ := DataW.trod_int Tryz.underlying5 a0
  simp only [List.cons.injEq, and_true] at q0
  have hk : 0 ≤ k ∧ k ≤ 255 := by simpa [Lit.wf, IntKind.min, IntKind.max, IntKind.signed, IntKind.bits] using w0
  obtain ⟨k, rfl⟩ := Int.eq_ofNat_of_zero_le hk.1
  obtain ⟨b, hb⟩ := qA a1
  exact ⟨k, b, c1, by rw [q0], by omega, hb⟩
theorem wQ {r : Reach} {b0 : Nat} {v : Value} {d : DataW H} {ps : List MemPlace} (hval : Value.okWide Tryz.prog w r b0 24 v)
  (h : DataW.Trod enc Tryz.prog w 0 sp held 24 v d ps) : ∃ (k : Nat) (b : List UInt8) (vb : Value), v = .agg #[.int .u8 (k : Nat), vb] ∧ k < 256 ∧ ay w (fun _ => True) false b vb := by
 obtain ⟨cs, rfl, _⟩ := okWide_struct Tryz.underlying24 hval
 obtain ⟨fuel, hf⟩ := h
 obtain ⟨k, b, vb, hc, hk, hb⟩ := qB hf
 refine ⟨k, b, vb, ?_, hk, hb⟩
 have : cs.toList = [.int .u8 (k : Nat), vb] := by simpa [Value.cells] using hc
 rw [← Array.toArray_toList (xs := cs), this]
end
theorem jT {n : String} {nm : String} {d : DataW Unit} {w : World} {g : Nat} {t : TypeId} {ms : Array (String × TypeId)} (hg : Tryz.prog.globalNamed n = some g) (ht : (Tryz.prog.globals[g]?).map (·.type) = some t)
  (hi : Tryz.prog.underlying t = some (.interface ms)) (h : Lib.VarReads Tryz.prog w n (.iface nm d)) : ∃ tp p, w.var? Tryz.prog n = some #[.iface tp p] := by
 obtain ⟨g', t', cs, fuel, p, h1, h2, h3, h4⟩ := h
 obtain rfl := Option.some.inj (hg.symm.trans h1)
 obtain rfl := Option.some.inj (ht.symm.trans h2)
 obtain ⟨_, u, v, hcs, _, _⟩ := iface_of_trod hi h4
 refine ⟨u, v, ?_⟩
 rw [h3]
 cases cs
 simp at hcs
 simp [hcs]
theorem tF {n : String} {w : World} {g : Nat} {t e : TypeId} {m : Nat} {k : IntKind} {zs : List Int} (hg : Tryz.prog.globalNamed n = some g) (ht : (Tryz.prog.globals[g]?).map (·.type) = some t)
  (hu : Tryz.prog.underlying t = some (.array m e)) (he : Tryz.prog.underlying e = some (.int k)) (hce : Tryz.prog.cellsOf e = 1) (hct : Tryz.prog.cellsOf t = m)
  (h : Lib.VarReads Tryz.prog w n (Lib.tabData k zs)) : Lib.TabIs Tryz.prog w n k zs := by
 obtain ⟨g', t', cs, fuel, p, h1, h2, h3, h4⟩ := h
 obtain rfl := Option.some.inj (hg.symm.trans h1)
 obtain rfl := Option.some.inj (ht.symm.trans h2)
 have := Lib.cells_of_tab hu he hce hct h4
 unfold Lib.TabIs
 rw [h3, ← this]
theorem mF {n : String} {w : World} {g : Nat} {cs : Array Value} (hg : Tryz.prog.globalNamed n = some g) (h : w.var? Tryz.prog n = some cs) : g < w.heap.size := by
 unfold World.var? at h
 rw [hg] at h
 simp only [Option.bind_some] at h
 cases e : w.heap[g]? with
 | none => simp [e] at h
 | some o => exact (Array.getElem?_eq_some_iff.1 e).1
noncomputable def laidL : List (String × DataW Unit) := Rows.recordParsesRow.laid
theorem wR {w : World} (h : laidMetH Tryz.prog laidL w) : Lv w.heap.size w := by
 rw [MakeChecks.laidMetH_plain _ _ _ (by kernel_rfl)] at h
 have m3 : ("internal/strconv.uint64pow10", (Rows.laid_internal_strconv_uint64pow10 : DataW Unit)) ∈ laidL := .tail _ (.tail _ (.head _))
 have m5 : ("strconv.ErrRange", (Rows.laid_strconv_ErrRange : DataW Unit)) ∈ laidL := .tail _ (.tail _ (.tail _ (.tail _ (.head _))))
 have m6 : ("strconv.ErrSyntax", (Rows.laid_strconv_ErrSyntax : DataW Unit)) ∈ laidL := .tail _ (.tail _ (.tail _ (.tail _ (.tail _ (.head _)))))
 have e3 : (Rows.laid_internal_strconv_uint64pow10 : DataW Unit) = Lib.tabData .u64 Lib.pow10Tab := by rfl
 rw [e3] at m3
 have hT := tF Bd (by kernel_rfl) (t := 255) (e := 29) (m := 20) (by kernel_rfl) (by kernel_rfl) (by kernel_rfl) (by kernel_rfl) (Lib.laidMet.reads h m3)
 have hS := jT Be (t := 169) (by kernel_rfl) Tryz.underlying169 (Lib.laidMet.reads h m6)
 have hR := jT Bf (t := 169) (by kernel_rfl) Tryz.underlying169 (Lib.laidMet.reads h m5)
 obtain ⟨t1, p1, e1⟩ := hS
 obtain ⟨t2, p2, e2⟩ := hR
 exact ⟨hT, ⟨t1, p1, e1⟩, ⟨t2, p2, e2⟩, mF Bd hT, mF Be e1, mF Bf e2⟩
theorem wS {w : World} (h : laidMetH Tryz.prog laidL w) (hsh : w.ShapedOpen Tryz.prog) : Lq w.heap.size w := by
 obtain ⟨m, hm⟩ := cell_of_shapedOpen_int (P := Tryz.prog) (g := 1) (t := 3) (zero := #[.int .i64 0]) hsh (of_decide_eq_true (by kernel_rfl)) (by kernel_rfl) rfl (by kernel_rfl) (by kernel_rfl) Tryz.underlying3
 exact ⟨wR h, ⟨m, hm⟩, World.block_lt_of_cell? w _ hm⟩
theorem vg {H : Type} {enc : TypeId × Value → H} {a : Assume} {C : Checked} {os : Os} {f : FuncId} {fn : Func} {s : ChangeSpec} {conds : List PathCond} {apart fresh handsOn again : Bool} {X : World → Array Value → Prop}
  (hX : ∀ (w w' : World) (args : Array Value), w.heap = w'.heap → X w args → X w' args)
  (own : ownKnob C.prog.godebug = none) (started : os.Started) (noInit : C.prog.inits.idxOf? f = none) (hfn : C.prog.funcs[f]? = some fn)
  (witness : ∃ (w : World) (tape : Tape) (i : Input), w.os = os ∧ (w.forCall tape i).Shaped C.prog ∧ i.vars = [] ∧ Input.okWide C.prog (w.forCall tape i) .any w.heap.size f i ∧
   ((s.pre enc C.prog fn conds apart (w.forCall tape i).memory i.args ∧ X (w.forCall tape i).memory i.args) ∧ sizedMet enc C.prog fn (OpenSpec.ofChange s) apart (w.forCall tape i).memory i.args) ∧ a.holds C.prog (lone (Frame.enter C.prog f i.args .normal) [] (w.forCall tape i)))
  (contract : ∀ (W : World) (base : Nat) (args : Array Value) (ds gs : List (DataW H)) (before : List MemPlace),
   (∀ (j : Nat) t v, fn.params[j]? = some t → args[j]? = some v → Value.okWide C.prog W .any base t v) →
   DataW.Whole enc C.prog fn.params.toList s.vars apart W args.toList ds gs before →
   W.ShapedOpen C.prog → X W args →
   Calls C.prog f args W fun e W' => ∃ v, e = .returned v ∧ s.post enc C.prog fn apart fresh handsOn again W args v W') :
  ReturnsInHanded a C os f .any (fun w args => (s.pre enc C.prog fn conds apart w args ∧ X w args) ∧ sizedMet enc C.prog fn (OpenSpec.ofChange s) apart w args) (s.post enc C.prog fn apart fresh handsOn again) := by
 refine returnsInHanded_of_calls own started noInit witness ?_
 intro w tape i _ hsh _ hok hpre hholds
 obtain ⟨_, _, _, fn', hfn', _, _, _, _, hval⟩ := hok
 have e : fn' = fn := Option.some.inj (hfn'.symm.trans hfn)
 subst e
 obtain ⟨⟨⟨ds, gs, before, hw, _⟩, hx⟩, _⟩ := hpre
 refine (contract (w.forCall tape i) w.heap.size i.args ds gs before hval (DataW.Whole.of_heap (w' := w.forCall tape i) (by rfl) hw) hsh (hX _ _ _ (by rfl) hx)).mono fun e W' ⟨v, he, hp⟩ => ?_
 subst he
 exact ChangeSpec.post_blind hp
noncomputable def laidW (os : Os) : World := World.laidAll Tryz.prog os laidL
theorem yB (os : Os) (args : Array Value) : laidMetH Tryz.prog laidL ((laidW os).forCall (fun _ _ => 0) ⟨#[], args, []⟩).memory := by
 rw [MakeChecks.laidMetH_plain _ _ _ (by kernel_rfl)]
 exact laidMet_laidAll _ (by kernel_rfl) (by kernel_rfl)
theorem tH (os : Os) (args : Array Value) : ((laidW os).forCall (fun _ _ => 0) ⟨#[], args, []⟩).Shaped Tryz.prog := World.shaped_of_ZipB (by kernel_rfl) (by kernel_rfl)
end Go.Proofs.YtmgbhhmipmgcpaaGreatDoor
