/- What the rows' listed variables and the world's shape give a walk (chapter 5), the world that lays them, and the wrap that keeps both. -/
import Derived.Test.YtmgbhhmipmgcpaaGreatDoorQ48
import Derived.Test.YtmgbhhmipmgcpaaGreatDoorRows
import Derived.Deep.Slices
import Derived.DataReads
import Derived.ProofKit
import Derived.Carry
import Derived.ChangeSlices
import Derived.HandedShaped
import Derived.Shelf.Vars
import Derived.Lib.LaidU8
import Derived.MakeChecks
import Derived.Lay
import Derived.LaidOnce
import Derived.LaidLaws
import Derived.SevenTiedAt
set_option maxRecDepth 100000
namespace Go.Proofs.YtmgbhhmipmgcpaaGreatDoor
open Go.RowKit Go Go.Deep
set_option linter.unusedVariables false
set_option linter.unusedSimpArgs false
theorem pTP : Tryz.prog.cellsOf 44 = 4 := by kernel_rfl
theorem yF : Tryz.prog.cellsOf 3 = 1 := by kernel_rfl
theorem wI : Tryz.prog.cellsOf 29 = 1 := by kernel_rfl
theorem cSl : Tryz.prog.cellsOf 42 = 1 := by kernel_rfl
theorem wJ : ∃ fs : Array Field, Tryz.prog.underlying 44 = some (.struct fs) ∧ fs.toList.map (fun f => (f.type, f.offset)) = [(3, 0), (29, 1), (29, 2), (42, 3)] := ⟨_, Tryz.underlying44, rfl⟩
def flat (f : Nat → List Value) : Nat → List Value
 | 0 => []
 | n + 1 => flat f n ++ f n
theorem iI (f : Nat → List Value) (k n : Nat) (h : ∀ i, i < n → (f i).length = k) : (flat f n).length = n * k := by
 induction n with
 | zero => simp [flat]
 | succ n ih => rw [flat, List.length_append, ih (fun i hi => h i (by omega)), h n (by omega), Nat.succ_mul]
theorem flat_get (f : Nat → List Value) (k n : Nat) (h : ∀ i, i < n → (f i).length = k) (hk : 0 < k) : ∀ j, j < n * k → (flat f n)[j]? = (f (j / k))[j % k]? := by
 induction n with
 | zero => intro j hj; simp at hj
 | succ n ih =>
  intro j hj
  have hl := iI f k n (fun i hi => h i (by omega))
  rw [flat]
  by_cases hlt : j < n * k
  ·rw [List.getElem?_append_left (by omega)]; exact ih (fun i hi => h i (by omega)) j hlt
  ·rw [List.getElem?_append_right (by omega), hl]
   rw [Nat.succ_mul] at hj
   have e : j = (j - n * k) + k * n := by rw [Nat.mul_comm k n]; omega
   have h1 : j / k = n := by
    rw [e, Nat.add_mul_div_left _ _ hk, Nat.div_eq_of_lt (by omega)]; omega
   have h2 : j % k = j - n * k := by
    rw [e, Nat.add_mul_mod_self_left, Nat.mod_eq_of_lt (by omega), ← e]
   rw [h1, h2]
theorem nM {w : World} {S : Nat → Prop} {own : Bool} (g : Nat → Ex) (f : Nat → List Value) : ∀ n, (∀ i, i < n → av w S own (g i) (.agg (f i).toArray) ∧ (f i).length = 4) → au w S own ((List.range n).map g) (flat f n)
 | 0, _ => by simp [flat, au]
 | n + 1, h => by
  rw [List.range_succ, List.map_append, flat]
  refine au.append (nM g f n (fun i hi => h i (by omega))) ?_
  obtain ⟨h1, h2⟩ := h n (by omega)
  match hf : f n, h2 with
  | [a, b, c, d], _ =>
   rw [hf] at h1
   exact au.one h1
theorem qP {H : Type} {enc : TypeId × Value → H} {w : World} {sp : Nat → Bool} {held : Bool} : ∀ (fuel : Nat) (cs : List Value) (x : DataW H × List MemPlace), DataW.trod enc Tryz.prog w 0 sp held fuel 44 cs = some x → ∃ e, av w (fun _ => True) false e (.agg cs.toArray) := by
 intro fuel
 induction fuel using Nat.strongRecOn with
 | _ fuel ih =>
  intro cs x h
  obtain ⟨fs, hu, hf⟩ := wJ
  obtain ⟨xs, n, rfl, rfl, hl, hxl, hall⟩ := DataW.trod_struct hu h
  rw [pTP] at hl
  have hfl : fs.size = 4 := by have := congrArg List.length hf; simpa using this
  have hfi : ∀ i (hi : i < 4), ∃ f, fs[i]? = some f ∧ (f.type, f.offset) = [(3, 0), (29, 1), (29, 2), (42, 3)][i] := by
   intro i hi
   have hi' : i < fs.size := by omega
   refine ⟨fs[i], by simp [hi'], ?_⟩
   have := List.getElem_of_eq hf (i := i) (by simpa using hi')
   simpa using this
  match cs, hl with
  | [c0, c1, c2, c3], _ =>
   obtain ⟨f0, e0, t0⟩ := hfi 0 (by omega)
   obtain ⟨f1, e1, t1⟩ := hfi 1 (by omega)
   obtain ⟨f2, e2, t2⟩ := hfi 2 (by omega)
   obtain ⟨f3, e3, t3⟩ := hfi 3 (by omega)
   simp only [List.getElem_cons_zero, List.getElem_cons_succ, Prod.mk.injEq] at t0 t1 t2 t3
   have a0 := hall 0 f0 e0
   have a1 := hall 1 f1 e1
   have a2 := hall 2 f2 e2
   have a3 := hall 3 f3 e3
   rw [t0.1, t0.2, yF] at a0
   rw [t1.1, t1.2, wI] at a1
   rw [t2.1, t2.2, wI] at a2
   rw [t3.1, t3.2, cSl] at a3
   have hx : ∀ i, i < 4 → ∃ y, xs[i]? = some y := fun i hi => ⟨xs[i]'(by omega), List.getElem?_eq_getElem (by omega)⟩
   obtain ⟨y0, hy0⟩ := hx 0 (by omega)
   obtain ⟨y1, hy1⟩ := hx 1 (by omega)
   obtain ⟨y2, hy2⟩ := hx 2 (by omega)
   obtain ⟨y3, hy3⟩ := hx 3 (by omega)
   rw [hy0] at a0
   rw [hy1] at a1
   rw [hy2] at a2
   rw [hy3] at a3
   simp only [List.drop_zero, List.drop_succ_cons, List.take_succ_cons, List.take_zero] at a0 a1 a2 a3
   obtain ⟨k, q0, _, w0⟩ := DataW.trod_int Tryz.underlying3 a0
   obtain ⟨a, q1, _, w1⟩ := DataW.trod_int Tryz.underlying29 a1
   obtain ⟨b, q2, _, w2⟩ := DataW.trod_int Tryz.underlying29 a2
   simp only [List.cons.injEq, and_true] at q0 q1 q2
   subst q0 q1 q2
   have hk : -9223372036854775808 ≤ k ∧ k ≤ 9223372036854775807 := by simpa [Lit.wf, IntKind.min, IntKind.max, IntKind.signed, IntKind.bits] using w0
   have ha : 0 ≤ a ∧ a ≤ 18446744073709551615 := by simpa [Lit.wf, IntKind.min, IntKind.max, IntKind.signed, IntKind.bits] using w1
   have hb : 0 ≤ b ∧ b ≤ 18446744073709551615 := by simpa [Lit.wf, IntKind.min, IntKind.max, IntKind.signed, IntKind.bits] using w2
   obtain ⟨an, rfl⟩ := Int.eq_ofNat_of_zero_le ha.1
   obtain ⟨bn, rfl⟩ := Int.eq_ofNat_of_zero_le hb.1
   rcases DataW.trod_slice Tryz.underlying42 a3 with ⟨hc, _⟩ | ⟨ad, len, cap, elems, rest, m, hm, hc, _, _, hlc, hcap, hlen, hel, _, _⟩
   ·simp only [List.cons.injEq, and_true] at hc
    subst hc
    refine ⟨.mk k an bn [], ?_⟩
    simp only [av]
    exact ⟨_, [], rfl, hk.1, hk.2, by omega, by omega, Sl.nil _ _ _ _, by simp [au]⟩
   ·simp only [List.cons.injEq, and_true] at hc
    subst hc
    rw [pTP] at hel
    have hone : ∀ i, i < len → ∃ y : Ex × List Value, w.cells? 0 (ad.add (i * 4)) 4 = some y.2 ∧ av w (fun _ => True) false y.1 (.agg y.2.toArray) := by
     intro i hi
     have h1 := hel i hi
     rw [List.getElem?_eq_getElem (by omega)] at h1
     obtain ⟨cs', h2, h3⟩ := Option.bind_eq_some_iff.1 h1
     obtain ⟨e, he⟩ := ih m (by omega) cs' _ h3
     exact ⟨(e, cs'), h2, he⟩
    haveI : Inhabited (Ex × List Value) := ⟨(.mk 0 0 0 [], [])⟩
    obtain ⟨F, hF⟩ := choose_lt hone
    have hFl : ∀ i, i < len → (F i).2.length = 4 := fun i hi => (World.cells?_some (hF i hi).1).2.1
    have hre := nM (w := w) (S := fun _ => True) (own := false) (fun i => (F i).1) (fun i => (F i).2) len (fun i hi => ⟨(hF i hi).2, hFl i hi⟩)
    have hfl2 := iI (fun i => (F i).2) 4 len hFl
    refine ⟨.mk k an bn ((List.range len).map fun i => (F i).1), ?_⟩
    simp only [av]
    refine ⟨.slice (some ad) len cap, flat (fun i => (F i).2) len, rfl, hk.1, hk.2, by omega, by omega, ⟨by simpa using hfl2, by simp; unfold maxLen at hcap; omega, some ad, cap, by simp, by simpa using hlc, fun hn => ?_⟩, hre⟩
    have hn' : 0 < len := by simpa using hn
    obtain ⟨bl, off, sp'⟩ := ad
    have hsp : sp' = none := by
     obtain ⟨_, h2, h3⟩ := World.cells?_some (hF 0 hn').1
     have h4 := h3 0 (by omega)
     obtain ⟨v, hv⟩ : ∃ v, (F 0).2[0]? = some v := ⟨(F 0).2[0]'(by omega), List.getElem?_eq_getElem (by omega)⟩
     rw [hv] at h4
     exact World.cell?_spot (a := ⟨bl, off, sp'⟩) (by simpa [Addr.add] using h4)
    subst hsp
    have hcell : ∀ i, i < len → ∀ o, o < 4 → w.cell? ⟨bl, off + (i * 4 + o), none⟩ = (F i).2[o]? := by
     intro i hi o ho
     obtain ⟨_, h2, h3⟩ := World.cells?_some (hF i hi).1
     rw [← h3 o ho, Go.Deep.add_add]
     unfold Addr.add
     split
     ·rename_i h0; rw [h0]; rfl
     ·rfl
    refine ⟨bl, off, rfl, trivial, fun j hj => ⟨?_, fun h => by cases h⟩⟩
    have hj4 : j < len * 4 := by rw [← hfl2]; exact hj
    have h1 := flat_get (fun i => (F i).2) 4 len hFl (by omega) j hj4
    have h2 := (hcell (j / 4) (by omega) (j % 4) (by omega))
    rw [show j / 4 * 4 + j % 4 = j from by omega] at h2
    rw [h2, ← h1, List.getElem?_eq_getElem hj]
open Go.ChangeShapes Go.WideShapes Go.ChangeAt
theorem fP : laidOutB Tryz.prog = true := by kernel_rfl
section
variable {H : Type} {enc : TypeId × Value → H} {P : Program} {w : World} {base : Nat} {spare : Nat → Bool} {held : Bool}
end
theorem yG : Tryz.prog.cellsOf 4 = 1 := by kernel_rfl
theorem xZ : Tryz.prog.cellsOf 41 = 2 := by kernel_rfl
theorem yH : Tryz.prog.cellsOf 78 = 4 := by kernel_rfl
theorem yM : Tryz.prog.cellsOf 47 = 11 := by kernel_rfl
theorem cEs : Tryz.prog.cellsOf 45 = 1 := by kernel_rfl
theorem uX : ∃ fs : Array Field, Tryz.prog.underlying 41 = some (.struct fs) ∧ fs.toList.map (fun f => (f.type, f.offset)) = [(29, 0), (29, 1)] := ⟨_, Tryz.underlying41, by kernel_rfl⟩
theorem uY : ∃ fs : Array Field, Tryz.prog.underlying 78 = some (.struct fs) ∧ fs.toList.map (fun f => (f.type, f.offset)) = [(29, 0), (41, 1), (4, 3)] := ⟨_, Tryz.underlying78, by kernel_rfl⟩
theorem uZ : ∃ fs : Array Field, Tryz.prog.underlying 47 = some (.struct fs) ∧ fs.toList.map (fun f => (f.type, f.offset)) = [(3, 0), (29, 1), (29, 2), (41, 3), (29, 5), (44, 6), (45, 10)] := ⟨_, Tryz.underlying47, by kernel_rfl⟩
section
variable {H : Type} {enc : TypeId × Value → H} {w : World} {sp : Nat → Bool} {held : Bool}
theorem iJ {fuel : Nat} {T : TypeId} {fs : Array Field} {l : List (TypeId × Nat)} {cs : List Value} {x : DataW H × List MemPlace} (hu : Tryz.prog.underlying T = some (.struct fs)) (hf : fs.toList.map (fun f => (f.type, f.offset)) = l)
  (h : DataW.trod enc Tryz.prog w 0 sp held fuel T cs = some x) : cs.length = Tryz.prog.cellsOf T ∧ ∃ n, n < fuel ∧ ∀ i (hi : i < l.length), ∃ y, DataW.trod enc Tryz.prog w 0 sp held n l[i].1 ((cs.drop l[i].2).take (Tryz.prog.cellsOf l[i].1)) = some y := by
 obtain ⟨xs, n, rfl, rfl, hl, hxl, hall⟩ := DataW.trod_struct hu h
 refine ⟨hl, n, by omega, fun i hi => ?_⟩
 have hfl : fs.size = l.length := by have := congrArg List.length hf; simpa using this
 have hi' : i < fs.size := by omega
 have hfi : (fs[i].type, fs[i].offset) = l[i] := by
  have := List.getElem_of_eq hf (i := i) (by simpa using hi')
  simpa using this
 have ha := hall i fs[i] (by simp [hi'])
 rw [List.getElem?_eq_getElem (show i < xs.length by omega)] at ha
 rw [← hfi]
 exact ⟨_, ha⟩
theorem dS {n : Nat} {c : Value} {y : DataW H × List MemPlace} (h : DataW.trod enc Tryz.prog w 0 sp held n 29 [c] = some y) : ∃ a : Nat, c = .int .u64 (a : Nat) ∧ a < 18446744073709551616 := by
 obtain ⟨k, q0, _, w0⟩ := DataW.trod_int Tryz.underlying29 h
 simp only [List.cons.injEq, and_true] at q0
 have hk : 0 ≤ k ∧ k ≤ 18446744073709551615 := by simpa [Lit.wf, IntKind.min, IntKind.max, IntKind.signed, IntKind.bits] using w0
 obtain ⟨a, rfl⟩ := Int.eq_ofNat_of_zero_le hk.1
 exact ⟨a, q0, by omega⟩
theorem iK {n : Nat} {cs : List Value} {y : DataW H × List MemPlace} (h : DataW.trod enc Tryz.prog w 0 sp held n 41 cs = some y) : ∃ a b : Nat, cs = [.int .u64 (a : Nat), .int .u64 (b : Nat)] ∧ a < 18446744073709551616 ∧ b < 18446744073709551616 := by
 obtain ⟨fs, hu, hf⟩ := uX
 obtain ⟨hl, m, hm, hall⟩ := iJ hu hf h
 rw [xZ] at hl
 match cs, hl with
 | [c0, c1], _ =>
  obtain ⟨y0, a0⟩ := hall 0 (by simp)
  obtain ⟨y1, a1⟩ := hall 1 (by simp)
  simp only [List.getElem_cons_zero, List.getElem_cons_succ, wI, List.drop_zero, List.drop_succ_cons, List.take_succ_cons, List.take_zero] at a0 a1
  obtain ⟨a, rfl, ha⟩ := dS a0
  obtain ⟨b, rfl, hb⟩ := dS a1
  exact ⟨a, b, rfl, ha, hb⟩
theorem qQ {n : Nat} {cs : List Value} {y : DataW H × List MemPlace} (h : DataW.trod enc Tryz.prog w 0 sp held n 78 cs = some y) : ∃ e : Ent, cs = e.cells ∧ e.ok := by
 obtain ⟨fs, hu, hf⟩ := uY
 obtain ⟨hl, m, hm, hall⟩ := iJ hu hf h
 rw [yH] at hl
 match cs, hl with
 | [c0, c1, c2, c3], _ =>
  obtain ⟨y0, a0⟩ := hall 0 (by simp)
  obtain ⟨y1, a1⟩ := hall 1 (by simp)
  obtain ⟨y2, a2⟩ := hall 2 (by simp)
  simp only [List.getElem_cons_zero, List.getElem_cons_succ, wI, xZ, yG, List.drop_zero, List.drop_succ_cons, List.take_succ_cons, List.take_zero] at a0 a1 a2
  obtain ⟨x, rfl, hx⟩ := dS a0
  obtain ⟨a, b, hab, ha, hb⟩ := iK a1
  obtain ⟨q, hq⟩ := DataW.trod_bool Tryz.underlying4 a2
  simp only [List.cons.injEq, and_true] at hab hq
  obtain ⟨rfl, rfl⟩ := hab
  exact ⟨⟨x, a, b, q⟩, by simp [Ent.cells, hq], hx, ha, hb⟩
theorem ja (F : Nat → Ent) : ∀ n, aH ((List.range n).map F) = flat (fun i => (F i).cells) n
 | 0 => rfl
 | n + 1 => by
  rw [List.range_succ, List.map_append, fF, flat, ja F n]
  simp [aH]
theorem pu {n : Nat} {c : Value} {y : DataW H × List MemPlace} (h : DataW.trod enc Tryz.prog w 0 sp held n 45 [c] = some y) : ∃ es, bZ w (fun _ => True) false es c ∧ ∀ e ∈ es, e.ok := by
 rcases DataW.trod_slice Tryz.underlying45 h with ⟨hc, _⟩ | ⟨ad, len, cap, elems, rest, m, hm, hc, _, _, hlc, hcap, hlen, hel, _, _⟩
 ·simp only [List.cons.injEq, and_true] at hc
  subst hc
  exact ⟨[], Sl.nil _ _ _ _, by simp⟩
 ·simp only [List.cons.injEq, and_true] at hc
  subst hc
  rw [yH] at hel
  have hone : ∀ i, i < len → ∃ e : Ent, w.cells? 0 (ad.add (i * 4)) 4 = some e.cells ∧ e.ok := by
   intro i hi
   have h1 := hel i hi
   rw [List.getElem?_eq_getElem (by omega)] at h1
   obtain ⟨cs', h2, h3⟩ := Option.bind_eq_some_iff.1 h1
   obtain ⟨e, rfl, he⟩ := qQ h3
   exact ⟨e, h2, he⟩
  haveI : Inhabited Ent := ⟨⟨0, 0, 0, false⟩⟩
  obtain ⟨F, hF⟩ := choose_lt hone
  have hFl : ∀ i, i < len → ((fun i => (F i).cells) i).length = 4 := fun i hi => rfl
  have hfl2 := iI (fun i => (F i).cells) 4 len hFl
  refine ⟨(List.range len).map F, ?_, ?_⟩
  ·refine ⟨by rw [dH], by simp; unfold maxLen at hcap; omega, some ad, cap, by simp, by simpa using hlc, fun hn => ?_⟩
   have hn' : 0 < len := by simpa using hn
   obtain ⟨bl, off, sp'⟩ := ad
   have hsp : sp' = none := by
    obtain ⟨_, h2, h3⟩ := World.cells?_some (hF 0 hn').1
    have h4 := h3 0 (by omega)
    exact World.cell?_spot (a := ⟨bl, off, sp'⟩) (v := .int .u64 (F 0).x) (by simpa [Addr.add, Ent.cells] using h4)
   subst hsp
   have hcell : ∀ i, i < len → ∀ o, o < 4 → w.cell? ⟨bl, off + (i * 4 + o), none⟩ = (F i).cells[o]? := by
    intro i hi o ho
    obtain ⟨_, h2, h3⟩ := World.cells?_some (hF i hi).1
    rw [← h3 o ho, Go.Deep.add_add]
    unfold Addr.add
    split
    ·rename_i h0; rw [h0]; rfl
    ·rfl
   refine ⟨bl, off, rfl, trivial, fun j hj => ⟨?_, fun h => by cases h⟩⟩
   have hj4 : j < len * 4 := by rw [dH] at hj; simpa using hj
   have h1 := flat_get (fun i => (F i).cells) 4 len hFl (by omega) j hj4
   have h2 := (hcell (j / 4) (by omega) (j % 4) (by omega))
   rw [show j / 4 * 4 + j % 4 = j from by omega] at h2
   rw [h2, ← h1, ← ja, List.getElem?_eq_getElem hj]
  ·intro e he
   simp only [List.mem_map, List.mem_range] at he
   obtain ⟨i, hi, rfl⟩ := he
   exact (hF i hi).2
theorem qR {n : Nat} {cs : List Value} {y : DataW H × List MemPlace} (h : DataW.trod enc Tryz.prog w 0 sp held n 47 cs = some y) : ∃ r, aI w (fun _ => True) false r (.agg cs.toArray) := by
 obtain ⟨fs, hu, hf⟩ := uZ
 obtain ⟨hl, m, hm, hall⟩ := iJ hu hf h
 rw [yM] at hl
 match cs, hl with
 | [c0, c1, c2, c3, c4, c5, c6, c7, c8, c9, c10], _ =>
  obtain ⟨y0, a0⟩ := hall 0 (by simp)
  obtain ⟨y1, a1⟩ := hall 1 (by simp)
  obtain ⟨y2, a2⟩ := hall 2 (by simp)
  obtain ⟨y3, a3⟩ := hall 3 (by simp)
  obtain ⟨y4, a4⟩ := hall 4 (by simp)
  obtain ⟨y5, a5⟩ := hall 5 (by simp)
  obtain ⟨y6, a6⟩ := hall 6 (by simp)
  simp only [List.getElem_cons_zero, List.getElem_cons_succ, yF, wI, xZ, pTP, cEs, List.drop_zero, List.drop_succ_cons, List.take_succ_cons, List.take_zero] at a0 a1 a2 a3 a4 a5 a6
  obtain ⟨k, q0, _, w0⟩ := DataW.trod_int Tryz.underlying3 a0
  simp only [List.cons.injEq, and_true] at q0
  have hk : -9223372036854775808 ≤ k ∧ k ≤ 9223372036854775807 := by simpa [Lit.wf, IntKind.min, IntKind.max, IntKind.signed, IntKind.bits] using w0
  obtain ⟨t, rfl, ht⟩ := dS a1
  obtain ⟨x, rfl, hx⟩ := dS a2
  obtain ⟨a, b, hab, ha, hb⟩ := iK a3
  simp only [List.cons.injEq, and_true] at hab
  obtain ⟨rfl, rfl⟩ := hab
  obtain ⟨v, rfl, hv⟩ := dS a4
  obtain ⟨p, hp⟩ := qP m _ _ a5
  obtain ⟨es, he, heo⟩ := pu a6
  exact ⟨⟨k, t, x, a, b, v, p, es⟩, c6, c7, c8, c9, c10, by rw [q0], hk.1, hk.2, ⟨ht, hx, ha, hb, hv, hp.nums, heo⟩, by simpa using hp, he⟩
theorem qU {r : Reach} {b0 : Nat} {v : Value} {d : DataW H} {ps : List MemPlace} (hval : Value.okWide Tryz.prog w r b0 47 v)
  (h : DataW.Trod enc Tryz.prog w 0 sp held 47 v d ps) : ∃ r, aI w (fun _ => True) false r v := by
 obtain ⟨cs, rfl, _⟩ := okWide_struct Tryz.underlying47 hval
 obtain ⟨fuel, hf⟩ := h
 obtain ⟨e, he⟩ := qR hf
 exact ⟨e, by simpa [Value.cells] using he⟩
end
theorem qV {H : Type} {enc : TypeId × Value → H} {w : World} {sp : Nat → Bool} {held : Bool} {r : Reach} {b0 : Nat} {v : Value} {d : DataW H} {ps : List MemPlace} (hval : Value.okWide Tryz.prog w r b0 41 v)
  (h : DataW.Trod enc Tryz.prog w 0 sp held 41 v d ps) : ∃ a b : Nat, v = .agg #[.int .u64 (a : Nat), .int .u64 (b : Nat)] ∧ a < 18446744073709551616 ∧ b < 18446744073709551616 := by
 obtain ⟨cs, rfl, _⟩ := okWide_struct Tryz.underlying41 hval
 obtain ⟨fuel, hf⟩ := h
 obtain ⟨a, b, hc, ha, hb⟩ := iK hf
 refine ⟨a, b, ?_, ha, hb⟩
 have : cs.toList = [.int .u64 (a : Nat), .int .u64 (b : Nat)] := by simpa [Value.cells] using hc
 rw [← Array.toArray_toList (xs := cs), this]
theorem iL {n : String} {nm : String} {d : DataW Unit} {w : World} {g : Nat} {t : TypeId} {ms : Array (String × TypeId)} (hg : Tryz.prog.globalNamed n = some g) (ht : (Tryz.prog.globals[g]?).map (·.type) = some t)
  (hi : Tryz.prog.underlying t = some (.interface ms)) (h : Lib.VarReads Tryz.prog w n (.iface nm d)) : ∃ tp p, w.var? Tryz.prog n = some #[.iface tp p] := by
 obtain ⟨g', t', cs, fuel, p, h1, h2, h3, h4⟩ := h
 obtain rfl := Option.some.inj (hg.symm.trans h1)
 obtain rfl := Option.some.inj (ht.symm.trans h2)
 obtain ⟨_, u, v, hcs, _, _⟩ := iface_of_trod hi h4
 refine ⟨u, v, ?_⟩
 rw [h3]
 cases cs
 simp at hcs
 simp [hcs]
theorem pE {n : String} {w : World} {g : Nat} {t e : TypeId} {m : Nat} {k : IntKind} {zs : List Int} (hg : Tryz.prog.globalNamed n = some g) (ht : (Tryz.prog.globals[g]?).map (·.type) = some t)
  (hu : Tryz.prog.underlying t = some (.array m e)) (he : Tryz.prog.underlying e = some (.int k)) (hce : Tryz.prog.cellsOf e = 1) (hct : Tryz.prog.cellsOf t = m)
  (h : Lib.VarReads Tryz.prog w n (Lib.tabData k zs)) : Lib.TabIs Tryz.prog w n k zs := by
 obtain ⟨g', t', cs, fuel, p, h1, h2, h3, h4⟩ := h
 obtain rfl := Option.some.inj (hg.symm.trans h1)
 obtain rfl := Option.some.inj (ht.symm.trans h2)
 have := Lib.cells_of_tab hu he hce hct h4
 unfold Lib.TabIs
 rw [h3, ← this]
theorem jV {n : String} {w : World} {g : Nat} {cs : Array Value} (hg : Tryz.prog.globalNamed n = some g) (h : w.var? Tryz.prog n = some cs) : g < w.heap.size := by
 unfold World.var? at h
 rw [hg] at h
 simp only [Option.bind_some] at h
 cases e : w.heap[g]? with
 | none => simp [e] at h
 | some o => exact (Array.getElem?_eq_some_iff.1 e).1
noncomputable def laidL : List (String × DataW Unit) := Rows.recordParsesRow.laid
theorem sU {w : World} (h : laidMetH Tryz.prog laidL w) : Lv w.heap.size w := by
 rw [MakeChecks.laidMetH_plain _ _ _ (by kernel_rfl)] at h
 have m3 : ("internal/strconv.uint64pow10", (Rows.laid_internal_strconv_uint64pow10 : DataW Unit)) ∈ laidL := .tail _ (.tail _ (.head _))
 have m5 : ("strconv.ErrRange", (Rows.laid_strconv_ErrRange : DataW Unit)) ∈ laidL := .tail _ (.tail _ (.tail _ (.tail _ (.head _))))
 have m6 : ("strconv.ErrSyntax", (Rows.laid_strconv_ErrSyntax : DataW Unit)) ∈ laidL := .tail _ (.tail _ (.tail _ (.tail _ (.tail _ (.head _)))))
 have e3 : (Rows.laid_internal_strconv_uint64pow10 : DataW Unit) = Lib.tabData .u64 Lib.pow10Tab := by rfl
 rw [e3] at m3
 have hT := pE xC (by kernel_rfl) (t := 255) (e := 29) (m := 20) (by kernel_rfl) (by kernel_rfl) (by kernel_rfl) (by kernel_rfl) (Lib.laidMet.reads h m3)
 have hS := iL xD (t := 169) (by kernel_rfl) Tryz.underlying169 (Lib.laidMet.reads h m6)
 have hR := iL xE (t := 169) (by kernel_rfl) Tryz.underlying169 (Lib.laidMet.reads h m5)
 obtain ⟨t1, p1, e1⟩ := hS
 obtain ⟨t2, p2, e2⟩ := hR
 exact ⟨hT, ⟨t1, p1, e1⟩, ⟨t2, p2, e2⟩, jV xC hT, jV xD e1, jV xE e2⟩
theorem sV {w : World} (h : laidMetH Tryz.prog laidL w) (hsh : w.ShapedOpen Tryz.prog) : Lq w.heap.size w := by
 obtain ⟨m, hm⟩ := cell_of_shapedOpen_int (P := Tryz.prog) (g := 1) (t := 3) (zero := #[.int .i64 0]) hsh (of_decide_eq_true (by kernel_rfl)) (by kernel_rfl) rfl (by kernel_rfl) (by kernel_rfl) Tryz.underlying3
 exact ⟨sU h, ⟨m, hm⟩, World.block_lt_of_cell? w _ hm⟩
theorem qW {H : Type} {enc : TypeId × Value → H} {a : Assume} {C : Checked} {os : Os} {f : FuncId} {fn : Func} {s : ChangeSpec} {conds : List PathCond} {apart fresh handsOn again : Bool} {X : World → Array Value → Prop}
  (hX : ∀ (w w' : World) (args : Array Value), w.heap = w'.heap → X w args → X w' args)
  (own : ownKnob C.prog.godebug = none) (started : os.Started) (noInit : C.prog.inits.idxOf? f = none) (hfn : C.prog.funcs[f]? = some fn)
  (witness : ∃ (w : World) (tape : Tape) (i : Input), w.os = os ∧ (w.forCall tape i).Shaped C.prog ∧ i.vars = [] ∧ Input.okWide C.prog (w.forCall tape i) .any w.heap.size f i ∧
   ((s.pre enc C.prog fn conds apart (w.forCall tape i).memory i.args ∧ X (w.forCall tape i).memory i.args) ∧ sizedMet enc C.prog fn (OpenSpec.ofChange s) apart (w.forCall tape i).memory i.args) ∧ a.holds C.prog (lone (Frame.enter C.prog f i.args .normal) [] (w.forCall tape i)))
  (contract : ∀ (W : World) (base : Nat) (args : Array Value) (ds gs : List (DataW H)) (before : List MemPlace),
   (∀ (j : Nat) t v, fn.params[j]? = some t → args[j]? = some v → Value.okWide C.prog W .any base t v) →
   DataW.Whole enc C.prog fn.params.toList s.vars apart W args.toList ds gs before →
   W.ShapedOpen C.prog → X W args →
   Calls C.prog f args W fun e W' => ∃ v, e = .returned v ∧ s.post enc C.prog fn apart fresh handsOn again W args v W') :
  ReturnsInHanded a C os f .any (fun w args => (s.pre enc C.prog fn conds apart w args ∧ X w args) ∧ sizedMet enc C.prog fn (OpenSpec.ofChange s) apart w args) (s.post enc C.prog fn apart fresh handsOn again) := by
 refine returnsInHanded_of_calls own started noInit witness ?_
 intro w tape i _ hsh _ hok hpre hholds
 obtain ⟨_, _, _, fn', hfn', _, _, _, _, hval⟩ := hok
 have e : fn' = fn := Option.some.inj (hfn'.symm.trans hfn)
 subst e
 obtain ⟨⟨⟨ds, gs, before, hw, _⟩, hx⟩, _⟩ := hpre
 refine (contract (w.forCall tape i) w.heap.size i.args ds gs before hval (DataW.Whole.of_heap (w' := w.forCall tape i) (by rfl) hw) hsh (hX _ _ _ (by rfl) hx)).mono fun e W' ⟨v, he, hp⟩ => ?_
 subst he
 exact ChangeSpec.post_blind hp
noncomputable def laidW (os : Os) : World := World.laidAll Tryz.prog os laidL
theorem ve (os : Os) (args : Array Value) : laidMetH Tryz.prog laidL ((laidW os).forCall (fun _ _ => 0) ⟨#[], args, []⟩).memory := by
 rw [MakeChecks.laidMetH_plain _ _ _ (by kernel_rfl)]
 exact laidMet_laidAll _ (by kernel_rfl) (by kernel_rfl)
theorem pF (os : Os) (args : Array Value) : ((laidW os).forCall (fun _ _ => 0) ⟨#[], args, []⟩).Shaped Tryz.prog := World.shaped_of_ZipB (by kernel_rfl) (by kernel_rfl)
end Go.Proofs.YtmgbhhmipmgcpaaGreatDoor
