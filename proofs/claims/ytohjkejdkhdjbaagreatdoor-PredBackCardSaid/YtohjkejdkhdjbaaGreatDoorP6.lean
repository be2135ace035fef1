/- The law PredBack returns true whatever the trees, the bytes and the numbers are, and its arguments read behind the call as before: the row and its tied card. The conditions are the card's own: the listed variables of Go's library read as laid. Ahead of it: A predicate that comes in as an argument: its tree. Arguments that are predicates; five arguments. Bytes that come in as an argument. What the rows' listed variables give a walk, and the world that lays them. -/
import Derived.Test.YtohjkejdkhdjbaaGreatDoorPLib
import Derived.Test.YtohjkejdkhdjbaaGreatDoorChecked
import Derived.Test.YtohjkejdkhdjbaaGreatDoorP1
import Derived.Test.YtohjkejdkhdjbaaGreatDoorPS07
import Derived.Test.YtohjkejdkhdjbaaGreatDoorRows
import Derived.Test.YtohjkejdkhdjbaaGreatDoorP15
import Derived.Test.YtohjkejdkhdjbaaGreatDoorTie
import Derived.Test.YtohjkejdkhdjbaaGreatDoorCards
import Derived.Deep.Slices
import Derived.DataReads
import Derived.ProofKit
import Derived.Carry
import Derived.ChangeSlices
import Derived.WalkKit
import Derived.Lib.LaidU8
import Derived.MakeChecks
import Derived.Lay
import Derived.LaidOnce
import Derived.LaidLaws
import Derived.SevenTiedAt
namespace Go.Proofs.YtohjkejdkhdjbaaGreatDoor
open Go.RowKit Go Go.Deep
set_option linter.unusedVariables false
set_option linter.unusedSimpArgs false
theorem pTP : Tryz.prog.cellsOf 26 = 4 := by kernel_rfl
theorem cInt : Tryz.prog.cellsOf 3 = 1 := by kernel_rfl
theorem cU64 : Tryz.prog.cellsOf 23 = 1 := by kernel_rfl
theorem cSl : Tryz.prog.cellsOf 24 = 1 := by kernel_rfl
theorem exFields : ∃ fs : Array Field, Tryz.prog.underlying 26 = some (.struct fs) ∧ fs.toList.map (fun f => (f.type, f.offset)) = [(3, 0), (23, 1), (23, 2), (24, 3)] := ⟨_, Tryz.underlying26, rfl⟩

/-- The cells of all elements, one after the other. -/
def flat (f : Nat → List Value) : Nat → List Value
  | 0 => []
  | n + 1 => flat f n ++ f n
theorem flat_length (f : Nat → List Value) (k n : Nat) (h : ∀ i, i < n → (f i).length = k) : (flat f n).length = n * k := by
  induction n with
  | zero => simp [flat]
  | succ n ih => rw [flat, List.length_append, ih (fun i hi => h i (by omega)), h n (by omega), Nat.succ_mul]
theorem flat_get (f : Nat → List Value) (k n : Nat) (h : ∀ i, i < n → (f i).length = k) (hk : 0 < k) : ∀ j, j < n * k → (flat f n)[j]? = (f (j / k))[j % k]? := by
  induction n with
  | zero => intro j hj; simp at hj
  | succ n ih =>
    intro j hj
    have hl := flat_length f k n (fun i hi => h i (by omega))
    rw [flat]
    by_cases hlt : j < n * k
    · rw [List.getElem?_append_left (by omega)]; exact ih (fun i hi => h i (by omega)) j hlt
    · rw [List.getElem?_append_right (by omega), hl]
      rw [Nat.succ_mul] at hj
      have e : j = (j - n * k) + k * n := by rw [Nat.mul_comm k n]; omega
      have h1 : j / k = n := by
        rw [e, Nat.add_mul_div_left _ _ hk, Nat.div_eq_of_lt (by omega)]; omega
      have h2 : j % k = j - n * k := by
        rw [e, Nat.add_mul_mod_self_left, Nat.mod_eq_of_lt (by omega), ← e]
      rw [h1, h2]
theorem reps_flat {w : World} {S : Nat → Prop} {own : Bool} (g : Nat → Ex) (f : Nat → List Value) : ∀ n, (∀ i, i < n → RepE w S own (g i) (.agg (f i).toArray) ∧ (f i).length = 4) → RepEs w S own ((List.range n).map g) (flat f n)
  | 0, _ => by simp [flat, RepEs]
  | n + 1, h => by
    rw [List.range_succ, List.map_append, flat]
    refine RepEs.append (reps_flat g f n (fun i hi => h i (by omega))) ?_
    obtain ⟨h1, h2⟩ := h n (by omega)
    match hf : f n, h2 with
    | [a, b, c, d], _ =>
      rw [hf] at h1
      exact RepEs.one h1

set_option maxRecDepth 100000 in
theorem rep_of_trod {H : Type} {enc : TypeId × Value → H} {w : World} {sp : Nat → Bool} {held : Bool} : ∀ (fuel : Nat) (cs : List Value) (x : DataW H × List MemPlace), DataW.trod enc Tryz.prog w 0 sp held fuel 26 cs = some x → ∃ e, RepE w (fun _ => True) false e (.agg cs.toArray) := by
  intro fuel
  induction fuel using Nat.strongRecOn with
  | _ fuel ih =>
    intro cs x h
    obtain ⟨fs, hu, hf⟩ := exFields
    obtain ⟨xs, n, rfl, rfl, hl, hxl, hall⟩ := DataW.trod_struct hu h
    rw [pTP] at hl
    have hfl : fs.size = 4 := by have := congrArg List.length hf; simpa using this
    have hfi : ∀ i (hi : i < 4), ∃ f, fs[i]? = some f ∧ (f.type, f.offset) = [(3, 0), (23, 1), (23, 2), (24, 3)][i] := by
      intro i hi
      have hi' : i < fs.size := by omega
      refine ⟨fs[i], by simp [hi'], ?_⟩
      have := List.getElem_of_eq hf (i := i) (by simpa using hi')
      simpa using this
    match cs, hl with
    | [c0, c1, c2, c3], _ =>
      obtain ⟨f0, e0, t0⟩ := hfi 0 (by omega)
      obtain ⟨f1, e1, t1⟩ := hfi 1 (by omega)
      obtain ⟨f2, e2, t2⟩ := hfi 2 (by omega)
      obtain ⟨f3, e3, t3⟩ := hfi 3 (by omega)
      simp only [List.getElem_cons_zero, List.getElem_cons_succ, Prod.mk.injEq] at t0 t1 t2 t3
      have a0 := hall 0 f0 e0
      have a1 := hall 1 f1 e1
      have a2 := hall 2 f2 e2
      have a3 := hall 3 f3 e3
      rw [t0.1, t0.2, cInt] at a0
      rw [t1.1, t1.2, cU64] at a1
      rw [t2.1, t2.2, cU64] at a2
      rw [t3.1, t3.2, cSl] at a3
      have hx : ∀ i, i < 4 → ∃ y, xs[i]? = some y := fun i hi => ⟨xs[i]'(by omega), List.getElem?_eq_getElem (by omega)⟩
      obtain ⟨y0, hy0⟩ := hx 0 (by omega)
      obtain ⟨y1, hy1⟩ := hx 1 (by omega)
      obtain ⟨y2, hy2⟩ := hx 2 (by omega)
      obtain ⟨y3, hy3⟩ := hx 3 (by omega)
      rw [hy0] at a0
      rw [hy1] at a1
      rw [hy2] at a2
      rw [hy3] at a3
      simp only [List.drop_zero, List.drop_succ_cons, List.take_succ_cons, List.take_zero] at a0 a1 a2 a3
      obtain ⟨k, q0, _, w0⟩ := DataW.trod_int Tryz.underlying3 a0
      obtain ⟨a, q1, _, w1⟩ := DataW.trod_int Tryz.underlying23 a1
      obtain ⟨b, q2, _, w2⟩ := DataW.trod_int Tryz.underlying23 a2
      simp only [List.cons.injEq, and_true] at q0 q1 q2
      subst q0 q1 q2
      have hk : -9223372036854775808 ≤ k ∧ k ≤ 9223372036854775807 := by simpa [Lit.wf, IntKind.min, IntKind.max, IntKind.signed, IntKind.bits] using w0
      have ha : 0 ≤ a ∧ a ≤ 18446744073709551615 := by simpa [Lit.wf, IntKind.min, IntKind.max, IntKind.signed, IntKind.bits] using w1
      have hb : 0 ≤ b ∧ b ≤ 18446744073709551615 := by simpa [Lit.wf, IntKind.min, IntKind.max, IntKind.signed, IntKind.bits] using w2
      obtain ⟨an, rfl⟩ := Int.eq_ofNat_of_zero_le ha.1
      obtain ⟨bn, rfl⟩ := Int.eq_ofNat_of_zero_le hb.1
      rcases DataW.trod_slice Tryz.underlying24 a3 with ⟨hc, _⟩ | ⟨ad, len, cap, elems, rest, m, hm, hc, _, _, hlc, hcap, hlen, hel, _, _⟩
      · simp only [List.cons.injEq, and_true] at hc
        subst hc
        refine ⟨.mk k an bn [], ?_⟩
        simp only [RepE]
        exact ⟨_, [], rfl, hk.1, hk.2, by omega, by omega, Sl.nil _ _ _ _, by simp [RepEs]⟩
      · simp only [List.cons.injEq, and_true] at hc
        subst hc
        rw [pTP] at hel
        have hone : ∀ i, i < len → ∃ y : Ex × List Value, w.cells? 0 (ad.add (i * 4)) 4 = some y.2 ∧ RepE w (fun _ => True) false y.1 (.agg y.2.toArray) := by
          intro i hi
          have h1 := hel i hi
          rw [List.getElem?_eq_getElem (by omega)] at h1
          obtain ⟨cs', h2, h3⟩ := Option.bind_eq_some_iff.1 h1
          obtain ⟨e, he⟩ := ih m (by omega) cs' _ h3
          exact ⟨(e, cs'), h2, he⟩
        haveI : Inhabited (Ex × List Value) := ⟨(.mk 0 0 0 [], [])⟩
        obtain ⟨F, hF⟩ := choose_lt hone
        have hFl : ∀ i, i < len → (F i).2.length = 4 := fun i hi => (World.cells?_some (hF i hi).1).2.1
        have hre := reps_flat (w := w) (S := fun _ => True) (own := false) (fun i => (F i).1) (fun i => (F i).2) len (fun i hi => ⟨(hF i hi).2, hFl i hi⟩)
        have hfl2 := flat_length (fun i => (F i).2) 4 len hFl
        refine ⟨.mk k an bn ((List.range len).map fun i => (F i).1), ?_⟩
        simp only [RepE]
        refine ⟨.slice (some ad) len cap, flat (fun i => (F i).2) len, rfl, hk.1, hk.2, by omega, by omega, ⟨by simpa using hfl2, by simp; unfold maxLen at hcap; omega, some ad, cap, by simp, by simpa using hlc, fun hn => ?_⟩, hre⟩
        have hn' : 0 < len := by simpa using hn
        obtain ⟨bl, off, sp'⟩ := ad
        have hsp : sp' = none := by
          obtain ⟨_, h2, h3⟩ := World.cells?_some (hF 0 hn').1
          have h4 := h3 0 (by omega)
          obtain ⟨v, hv⟩ : ∃ v, (F 0).2[0]? = some v := ⟨(F 0).2[0]'(by omega), List.getElem?_eq_getElem (by omega)⟩
          rw [hv] at h4
          exact World.cell?_spot (a := ⟨bl, off, sp'⟩) (by simpa [Addr.add] using h4)
        subst hsp
        have hcell : ∀ i, i < len → ∀ o, o < 4 → w.cell? ⟨bl, off + (i * 4 + o), none⟩ = (F i).2[o]? := by
          intro i hi o ho
          obtain ⟨_, h2, h3⟩ := World.cells?_some (hF i hi).1
          rw [← h3 o ho, Go.Deep.add_add]
          unfold Addr.add
          split
          · rename_i h0; rw [h0]; rfl
          · rfl
        refine ⟨bl, off, rfl, trivial, fun j hj => ⟨?_, fun h => by cases h⟩⟩
        have hj4 : j < len * 4 := by rw [← hfl2]; exact hj
        have h1 := flat_get (fun i => (F i).2) 4 len hFl (by omega) j hj4
        have h2 := (hcell (j / 4) (by omega) (j % 4) (by omega))
        rw [show j / 4 * 4 + j % 4 = j from by omega] at h2
        rw [h2, ← h1, List.getElem?_eq_getElem hj]
end Go.Proofs.YtohjkejdkhdjbaaGreatDoor

namespace Go.Proofs.YtohjkejdkhdjbaaGreatDoor
open Go.ChangeShapes Go.WideShapes Go.ChangeAt Go.RowKit Go
set_option linter.unusedVariables false
set_option linter.unusedSimpArgs false
theorem seat_laidOut : laidOutB Tryz.prog = true := by kernel_rfl
set_option maxRecDepth 100000 in
/-- An argument that is a predicate. -/
theorem open_pred {H : Type} {enc : TypeId × Value → H} {w : World} {r : Reach} {b0 : Nat} {sp : Nat → Bool} {held : Bool} {v : Value} {d : DataW H} {ps : List MemPlace} (hval : Value.okWide Tryz.prog w r b0 26 v)
    (h : DataW.Trod enc Tryz.prog w 0 sp held 26 v d ps) : ∃ e, RepE w (fun _ => True) false e v := by
  obtain ⟨cs, rfl, _⟩ := okWide_struct Tryz.underlying26 hval
  obtain ⟨fuel, hf⟩ := h
  obtain ⟨e, he⟩ := rep_of_trod fuel _ _ hf
  exact ⟨e, by simpa [Value.cells] using he⟩
section
variable {H : Type} {enc : TypeId × Value → H} {P : Program} {w : World} {base : Nat} {spare : Nat → Bool} {held : Bool}
theorem trodAll_five {t t' t'' t3 t4 : TypeId} {args : Array Value} {ds : List (DataW H)} {ps : List MemPlace} (h : DataW.TrodAll enc P w base spare held [t, t', t'', t3, t4] args.toList ds ps) :
    ∃ v v' v'' v3 v4 d d' d'' d3 d4 p p' p'' p3 p4, args = #[v, v', v'', v3, v4] ∧ ds = [d, d', d'', d3, d4] ∧ ps = p ++ p' ++ p'' ++ p3 ++ p4 ∧ DataW.Trod enc P w base spare held t v d p ∧ DataW.Trod enc P w base spare held t' v' d' p' ∧ DataW.Trod enc P w base spare held t'' v'' d'' p'' ∧ DataW.Trod enc P w base spare held t3 v3 d3 p3 ∧ DataW.Trod enc P w base spare held t4 v4 d4 p4 := by
  obtain ⟨v, vs, d, ds', p, q, hargs, rfl, rfl, hd, hrest⟩ := trodAll_cons h
  obtain ⟨v', vs', d', ds'', p', q', rfl, rfl, rfl, hd', hrest'⟩ := trodAll_cons hrest
  obtain ⟨v'', vs'', d'', ds''', p'', q'', rfl, rfl, rfl, hd'', hrest''⟩ := trodAll_cons hrest'
  obtain ⟨v3, vs3, d3, ds3, p3, q3, rfl, rfl, rfl, hd3, hrest3⟩ := trodAll_cons hrest''
  obtain ⟨v4, vs4, d4, ds4, p4, q4, rfl, rfl, rfl, hd4, hrest4⟩ := trodAll_cons hrest3
  obtain ⟨rfl, rfl, rfl⟩ := trodAll_nil hrest4
  exact ⟨v, v', v'', v3, v4, d, d', d'', d3, d4, p, p', p'', p3, p4, by cases args; simp_all, rfl, by simp, hd, hd', hd'', hd3, hd4⟩
theorem trodAll_mk5 {t t' t'' t3 t4 : TypeId} {v v' v'' v3 v4 : Value} {d d' d'' d3 d4 : DataW H} {p p' p'' p3 p4 : List MemPlace} (h : DataW.Trod enc P w base spare held t v d p) (h' : DataW.Trod enc P w base spare held t' v' d' p')
    (h'' : DataW.Trod enc P w base spare held t'' v'' d'' p'') (h3 : DataW.Trod enc P w base spare held t3 v3 d3 p3) (h4 : DataW.Trod enc P w base spare held t4 v4 d4 p4) : DataW.TrodAll enc P w base spare held [t, t', t'', t3, t4] [v, v', v'', v3, v4] [d, d', d'', d3, d4] (p ++ (p' ++ (p'' ++ (p3 ++ p4)))) := ⟨p, p' ++ (p'' ++ (p3 ++ p4)), h, trodAll_mk4 h' h'' h3 h4, rfl⟩
end
end Go.Proofs.YtohjkejdkhdjbaaGreatDoor

namespace Go.Proofs.YtohjkejdkhdjbaaGreatDoor
open Go.ChangeShapes Go.WideShapes Go.ChangeAt Go.RowKit Go
set_option linter.unusedVariables false
set_option linter.unusedSimpArgs false
theorem cU8 : Tryz.prog.cellsOf 5 = 1 := by kernel_rfl
set_option maxRecDepth 100000 in
theorem open_bytes {H : Type} {enc : TypeId × Value → H} {w : World} {r : Reach} {b0 : Nat} {sp : Nat → Bool} {held : Bool} {v : Value} {d : DataW H} {ps : List MemPlace} (hval : Value.okWide Tryz.prog w r b0 39 v)
    (h : DataW.Trod enc Tryz.prog w 0 sp held 39 v d ps) : ∃ l, RepB w (fun _ => True) false l v := by
  obtain ⟨a0, len, cap, rfl⟩ := okWide_slice Tryz.underlying39 hval
  obtain ⟨fuel, hf⟩ := h
  rcases open_ints Tryz.underlying39 Tryz.underlying5 cU8 hf with ⟨hcs, _⟩ | ⟨a, len', cap', zs, hcs, _, hl, hm, hz, _, hcell, hwz⟩
  · have e : Value.slice a0 len cap = .slice none 0 0 := by simpa [Value.cells] using hcs
    rw [e]
    exact ⟨[], RepB.none⟩
  · have e : Value.slice a0 len cap = .slice (some a) len' cap' := by simpa [Value.cells] using hcs
    rw [e]
    have hzl : len' ≤ zs.length := by rw [hz]; split <;> omega
    have hby : ∀ j (hj : j < zs.length), 0 ≤ zs[j] ∧ zs[j] ≤ 255 := fun j hj => by
      have := hwz _ (List.getElem_mem hj)
      simpa [Lit.wf, IntKind.min, IntKind.max, IntKind.signed, IntKind.bits] using this
    have hll : ((zs.take len').map fun z => z.toNat.toUInt8).length = len' := by simp; omega
    refine ⟨(zs.take len').map fun z => z.toNat.toUInt8, by simp, by rw [hll]; unfold maxLen at hm; omega, some a, cap', by rw [hll], by rw [hll]; exact hl, fun hn => ?_⟩
    rw [hll] at hn
    obtain ⟨bl, off, spt⟩ := a
    have h0 := hcell 0 (by omega)
    have hsp : spt = none := World.cell?_spot (a := ⟨bl, off, spt⟩) (by simpa [Addr.add] using h0)
    subst hsp
    refine ⟨bl, off, rfl, trivial, fun j hj => ⟨?_, fun h => by cases h⟩⟩
    have hj' : j < len' := by rw [bytes_length, hll] at hj; exact hj
    have hc := hcell j (by omega)
    have hadd : (⟨bl, off, none⟩ : Addr).add j = ⟨bl, off + j, none⟩ := by unfold Addr.add; split <;> simp_all
    rw [hadd] at hc
    rw [hc]
    have hb := hby j (by omega)
    have e2 : zs.getD j 0 = zs[j] := by simp [List.getD, List.getElem?_eq_getElem (show j < zs.length by omega)]
    rw [e2]
    simp only [bytes, List.getElem_map, List.getElem_take, Option.some.injEq, Value.int.injEq, true_and]
    rw [u8_toNat (by omega)]
    omega
end Go.Proofs.YtohjkejdkhdjbaaGreatDoor

namespace Go.Proofs.YtohjkejdkhdjbaaGreatDoor
open Go.ChangeShapes Go.WideShapes Go.ChangeAt Go.RowKit Go

theorem iface_of_reads {n : String} {nm : String} {d : DataW Unit} {w : World} {g : Nat} {t : TypeId} {ms : Array (String × TypeId)} (hg : Tryz.prog.globalNamed n = some g) (ht : (Tryz.prog.globals[g]?).map (·.type) = some t)
    (hi : Tryz.prog.underlying t = some (.interface ms)) (h : Lib.VarReads Tryz.prog w n (.iface nm d)) : ∃ tp p, w.var? Tryz.prog n = some #[.iface tp p] := by
  obtain ⟨g', t', cs, fuel, p, h1, h2, h3, h4⟩ := h
  obtain rfl := Option.some.inj (hg.symm.trans h1)
  obtain rfl := Option.some.inj (ht.symm.trans h2)
  obtain ⟨_, u, v, hcs, _, _⟩ := iface_of_trod hi h4
  refine ⟨u, v, ?_⟩
  rw [h3]
  cases cs
  simp at hcs
  simp [hcs]

theorem tab_of_reads {n : String} {w : World} {g : Nat} {t e : TypeId} {m : Nat} {k : IntKind} {zs : List Int} (hg : Tryz.prog.globalNamed n = some g) (ht : (Tryz.prog.globals[g]?).map (·.type) = some t)
    (hu : Tryz.prog.underlying t = some (.array m e)) (he : Tryz.prog.underlying e = some (.int k)) (hce : Tryz.prog.cellsOf e = 1) (hct : Tryz.prog.cellsOf t = m)
    (h : Lib.VarReads Tryz.prog w n (Lib.tabData k zs)) : Lib.TabIs Tryz.prog w n k zs := by
  obtain ⟨g', t', cs, fuel, p, h1, h2, h3, h4⟩ := h
  obtain rfl := Option.some.inj (hg.symm.trans h1)
  obtain rfl := Option.some.inj (ht.symm.trans h2)
  have := Lib.cells_of_tab hu he hce hct h4
  unfold Lib.TabIs
  rw [h3, ← this]

theorem global_lt {n : String} {w : World} {g : Nat} {cs : Array Value} (hg : Tryz.prog.globalNamed n = some g) (h : w.var? Tryz.prog n = some cs) : g < w.heap.size := by
  unfold World.var? at h
  rw [hg] at h
  simp only [Option.bind_some] at h
  cases e : w.heap[g]? with
  | none => simp [e] at h
  | some o => exact (Array.getElem?_eq_some_iff.1 e).1

/-- What is listed in the rows of the chapter. -/
noncomputable def laidL : List (String × DataW Unit) := Rows.predReadsRow.laid

theorem lv_of_laid {w : World} (h : laidMetH Tryz.prog laidL w) : Lv w.heap.size w := by
  rw [MakeChecks.laidMetH_plain _ _ _ (by kernel_rfl)] at h
  have m3 : ("internal/strconv.uint64pow10", (Rows.laid_internal_strconv_uint64pow10 : DataW Unit)) ∈ laidL := .tail _ (.tail _ (.head _))
  have m5 : ("strconv.ErrRange", (Rows.laid_strconv_ErrRange : DataW Unit)) ∈ laidL := .tail _ (.tail _ (.tail _ (.tail _ (.head _))))
  have m6 : ("strconv.ErrSyntax", (Rows.laid_strconv_ErrSyntax : DataW Unit)) ∈ laidL := .tail _ (.tail _ (.tail _ (.tail _ (.tail _ (.head _)))))
  have e3 : (Rows.laid_internal_strconv_uint64pow10 : DataW Unit) = Lib.tabData .u64 Lib.pow10Tab := by rfl
  rw [e3] at m3
  have hT := tab_of_reads gTab (by kernel_rfl) (t := 179) (e := 23) (m := 20) (by kernel_rfl) (by kernel_rfl) (by kernel_rfl) (by kernel_rfl) (Lib.laidMet.reads h m3)
  have hS := iface_of_reads gSyn (t := 126) (by kernel_rfl) Tryz.underlying126 (Lib.laidMet.reads h m6)
  have hR := iface_of_reads gRng (t := 126) (by kernel_rfl) Tryz.underlying126 (Lib.laidMet.reads h m5)
  obtain ⟨t1, p1, e1⟩ := hS
  obtain ⟨t2, p2, e2⟩ := hR
  exact ⟨hT, ⟨t1, p1, e1⟩, ⟨t2, p2, e2⟩, global_lt gTab hT, global_lt gSyn e1, global_lt gRng e2⟩
noncomputable def laidW (os : Os) : World := World.laidAll Tryz.prog os laidL
theorem laidW_met (os : Os) (args : Array Value) : laidMetH Tryz.prog laidL ((laidW os).forCall (fun _ _ => 0) ⟨#[], args, []⟩).memory := by
  rw [MakeChecks.laidMetH_plain _ _ _ (by kernel_rfl)]
  exact laidMet_laidAll _ (by kernel_rfl) (by kernel_rfl)
theorem laidW_shaped (os : Os) (args : Array Value) : ((laidW os).forCall (fun _ _ => 0) ⟨#[], args, []⟩).Shaped Tryz.prog := World.shaped_of_ZipB (by kernel_rfl) (by kernel_rfl)
end Go.Proofs.YtohjkejdkhdjbaaGreatDoor

namespace Go.Proofs.YtohjkejdkhdjbaaGreatDoor
open Go.ChangeShapes Go.WideShapes Go.ChangeAt Go.RowKit Go
set_option linter.unusedVariables false
set_option linter.unusedSimpArgs false
theorem predBack_own : ownKnob Tryz.prog.godebug = none := by kernel_rfl
set_option maxRecDepth 100000 in
theorem predBack_lifted (os : Os) (started : os.Started) (H : Type) (enc : TypeId × Value → H) :
    ReturnsInHanded {} Tryz.checked os 6 .any (fun w args => (Rows.predBackSpec.pre enc Tryz.prog Tryz.f6 [] false w args ∧ laidMetH Tryz.prog laidL w) ∧ sizedMet enc Tryz.prog Tryz.f6 (OpenSpec.ofChange Rows.predBackSpec) false w args)
      (Rows.predBackSpec.post enc Tryz.prog Tryz.f6 false true false false) := by
  refine returnsInHanded_of_change_and (C := Tryz.checked) (X := fun w _ => laidMetH Tryz.prog laidL w) (fun _ _ _ hh h => h.of_heap hh) predBack_own started (by kernel_rfl) Tryz.func6
    (ChangeSpec.witness_shaped (enc := enc) (C := Tryz.checked) (os := os) (X := fun w _ => laidMetH Tryz.prog laidL w) false (laidW os) #[.agg #[.int .i64 0, .int .u64 0, .int .u64 0, .slice none 0 0], .agg #[.int .i64 0, .int .u64 0, .int .u64 0, .slice none 0 0], .slice none 0 0, .int .u64 0, .int .u64 0] 8 (World.laidAll_os _ _ _)
      (laidW_shaped os _) (by kernel_rfl) (by kernel_rfl) (by kernel_rfl) (laidW_met os _)) ?_
  intro W base args ds gs before hval0 hW _ _ hL _
  have hval : ∀ (j : Nat) t v, Tryz.f6.params[j]? = some t → args[j]? = some v → Value.okWide Tryz.prog W .any base t v := hval0
  have hW' := hW
  obtain ⟨p, q, hA0, hV, rfl, _, _⟩ := hW
  have hA : DataW.TrodAll enc Tryz.prog W 0 (fun _ => true) true Tryz.f6.params.toList args.toList ds p := hA0
  rw [Tryz.params6] at hA hval
  obtain ⟨v0, v1, v2, v3, v4, d0, d1, d2, d3, d4, p0, p1, p2, p3, p4, rfl, rfl, rfl, h0, h1, h2, h3, h4⟩ := trodAll_five hA
  obtain ⟨rfl, rfl⟩ := trodVars_none hV
  obtain ⟨e0, r0⟩ := open_pred (hval 0 _ v0 rfl rfl) h0
  obtain ⟨e1, r1⟩ := open_pred (hval 1 _ v1 rfl rfl) h1
  obtain ⟨l, r2⟩ := open_bytes (hval 2 _ v2 rfl rfl) h2
  obtain ⟨x, rfl, rfl, rfl, wx⟩ := open_int Tryz.underlying23 (hval 3 _ v3 rfl rfl) h3
  obtain ⟨y, rfl, rfl, rfl, wy⟩ := open_int Tryz.underlying23 (hval 4 _ v4 rfl rfl) h4
  have hx : 0 ≤ x ∧ x ≤ 18446744073709551615 := by simpa [Lit.wf, IntKind.min, IntKind.max, IntKind.signed, IntKind.bits] using wx
  have hy : 0 ≤ y ∧ y ≤ 18446744073709551615 := by simpa [Lit.wf, IntKind.min, IntKind.max, IntKind.signed, IntKind.bits] using wy
  obtain ⟨xn, rfl⟩ := Int.eq_ofNat_of_zero_le hx.1
  obtain ⟨yn, rfl⟩ := Int.eq_ofNat_of_zero_le hy.1
  simp only [List.append_nil] at hW'
  have lt0 : ∀ z ∈ p0, z.block < W.heap.size := fun z hz => by simpa using hW'.lt z (by simp [hz])
  have lt1 : ∀ z ∈ p1, z.block < W.heap.size := fun z hz => by simpa using hW'.lt z (by simp [hz])
  have lt2 : ∀ z ∈ p2, z.block < W.heap.size := fun z hz => by simpa using hW'.lt z (by simp [hz])
  refine (predBack_law _ _ e0 e1 v0 v1 v2 l xn yn W r0 r1 r2 (by omega) (by omega) (lv_of_laid hL)).mono fun e W' ⟨he, hb⟩ => ?_
  subst he
  exact ⟨_, rfl, _, _, _, [], _, [], hW', trodAll_mk1 (shut_bool Tryz.underlying4 _), trodAll_mk5 (Below.trod seat_laidOut (by kernel_rfl) (of_decide_eq_true (by kernel_rfl)) h0 hb lt0) (Below.trod seat_laidOut (by kernel_rfl) (of_decide_eq_true (by kernel_rfl)) h1 hb lt1) (Below.trod seat_laidOut (by kernel_rfl) (of_decide_eq_true (by kernel_rfl)) h2 hb lt2) (shut_int Tryz.underlying23 wx) (shut_int Tryz.underlying23 wy), rfl, hb.frame _, fun h => by cases h⟩

theorem predBack_row : Rows.PredBackSaid :=
  OpenClaim.holds_of_wide 6 Tryz.f6 rfl rfl rfl rfl rfl rfl rfl ⟨rfl, rfl, rfl, rfl, rfl⟩ rfl rfl rfl rfl rfl (by kernel_rfl) Tryz.func6 (by kernel_rfl)
    (of_decide_eq_true (by kernel_rfl)) (by unfold Func.isWrapper; first | (rw [if_pos (by decide +kernel)]; kernel_rfl) | (rw [if_neg (by decide +kernel)]; exact ⟨rfl, rfl⟩))
    (fun os started H enc _ => predBack_lifted os started H enc)

theorem predBack_card : Rows.PredBackCardSaid :=
  Claim7.holds_tied_plain_at .later [] [.data, .data, .data, .data, .sentinel, .sentinel, .pinned] true (true, "572aa6f6fe2d099dc5cac68c4a667c56ce2400581330bfd7f74ba6bca3c8942a") true
    predBack_row (fun _ h => by cases h) (by kernel_rfl) (fun _ h => by cases h) predBack_row_tie rfl ⟨rfl, rfl⟩ (by kernel_rfl) rfl
    (fun f fn hf hfn => by
      obtain rfl : f = 6 := Option.some.inj ((show Tryz.prog.funcNamed "alibi/alibilaw04.PredBack" = some 6 by kernel_rfl).symm.trans hf) |>.symm
      obtain rfl : fn = Tryz.f6 := (Option.some.inj (Tryz.func6.symm.trans hfn)).symm
      exact ⟨by kernel_rfl, fun j t ht => by
        rw [Tryz.params6] at ht
        have hm : t ∈ [26, 26, 39, 23, 23] := by simpa using Array.mem_of_getElem? ht
        have hall : ([26, 26, 39, 23, 23].all fun u => !Tryz.prog.wantsStandIn u) = true := by kernel_rfl
        exact (show Tryz.prog.wantsStandIn t = false by simpa using List.all_eq_true.1 hall t hm)⟩)
    (by kernel_rfl)
#print axioms predBack_card
end Go.Proofs.YtohjkejdkhdjbaaGreatDoor
