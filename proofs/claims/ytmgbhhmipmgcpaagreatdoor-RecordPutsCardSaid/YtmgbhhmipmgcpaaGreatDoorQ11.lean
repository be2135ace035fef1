/- Walks. -/
import Derived.Test.YtmgbhhmipmgcpaaGreatDoorQ38
import Derived.Test.YtmgbhhmipmgcpaaGreatDoorQ13
import Derived.Test.YtmgbhhmipmgcpaaGreatDoorQ18
set_option maxRecDepth 10000
namespace Go.Proofs.YtmgbhhmipmgcpaaGreatDoor
open Go.RowKit Go
set_option linter.unusedVariables false
set_option linter.unusedSimpArgs false
theorem iT {W W' : World} {base : Nat} {T : TypeId} {sv : Value} {es : List Ex} {S : Nat → Prop} {k : Int} (hm : Making W base T sv es) (hK : bB (fun b => base ≤ b) W W') (hS : ∀ b, base ≤ b → S b)
  (hk1 : -9223372036854775808 ≤ k) (hk2 : k ≤ 9223372036854775807) : av W' S true (.mk k 0 0 es) (.agg #[.int .i64 k, .int .u64 0, .int .u64 0, sv]) := by
 obtain ⟨zs, h1, h2⟩ := hm.sl
 simp only [av]
 exact ⟨_, zs, rfl, hk1, hk2, by omega, by omega, h1.keep (by omega) hK (fun b _ h => hS b h), au.keep hK (fun b _ h => hS b h) h2⟩
theorem dE {W : World} {S : Nat → Prop} {k : Int} {a b : Nat} (hk1 : -9223372036854775808 ≤ k) (hk2 : k ≤ 9223372036854775807) (ha : a < 18446744073709551616) (hb : b < 18446744073709551616) : av W S true (.mk k a b []) (.agg #[.int .i64 k, .int .u64 a, .int .u64 b, .slice none 0 0]) := by
 simp only [av]
 exact ⟨_, [], rfl, hk1, hk2, ha, hb, Sl.nil _ _ _ _, by simp [au]⟩
def xx (l : List UInt8) : Option (Ex × List UInt8) := match rdNum (l.drop 2) with
 | none => none
 | some (a, r) => if pre [61] r then (rdNum (r.drop 1)).map (fun x => (.mk 4 a x.1 [], x.2)) else none
theorem wQ (w : World) (S : Nat → Prop) (c0 c1 c2 c3 : Value) (T : TypeId) (hS : S w.heap.size) : Sl (w.alloc (.cells #[c0, c1, c2, c3] T)) S true 4 1 [c0, c1, c2, c3] (.slice (some ⟨w.heap.size, 0, none⟩) 1 1) := by
 refine ⟨by simp, by omega, _, _, rfl, by omega, fun _ => ⟨_, _, rfl, hS, fun j hj => ?_⟩⟩
 have hj2 : j < 4 := by simpa using hj
 rw [cell_of_row _ _ (0 + j) _ T (0, 0) (heap_alloc_new w _), frozen_of_row _ _ (0 + j) _ T (heap_alloc_new w _)]
 have hc : j = 0 ∨ j = 1 ∨ j = 2 ∨ j = 3 := by omega
 rcases hc with rfl | rfl | rfl | rfl <;> simp
def kY (o : Option Ex) (w : World) (e : Ending) (w' : World) : Prop :=
 ∃ v, e = .returned (.tuple #[v, .int .i64 (code o)]) ∧ av w' (fun b => w.heap.size ≤ b) true (o.getD .zero) v ∧ Below w.heap.size w w'
theorem mJ {w w' : World} {o : Option Ex} (h : o = none) (hb : Below w.heap.size w w') : kY o w (.returned (.tuple #[.agg #[.int .i64 0, .int .u64 0, .int .u64 0, .slice none 0 0], .int .i64 40])) w' := by
 subst h
 exact ⟨_, rfl, dE (by omega) (by omega) (by omega) (by omega), hb⟩
structure Lv (B : Nat) (w : World) : Prop where
 tab : Lib.TabIs Tryz.prog w "internal/strconv.uint64pow10" .u64 Lib.pow10Tab
 syn : ∃ tp p, w.var? Tryz.prog "strconv.ErrSyntax" = some #[.iface tp p]
 rng : ∃ tp p, w.var? Tryz.prog "strconv.ErrRange" = some #[.iface tp p]
 lo : 0 < B ∧ 2 < B ∧ 3 < B
theorem xC : Tryz.prog.globalNamed "internal/strconv.uint64pow10" = some 0 := by kernel_rfl
theorem xD : Tryz.prog.globalNamed "strconv.ErrSyntax" = some 2 := by kernel_rfl
theorem xE : Tryz.prog.globalNamed "strconv.ErrRange" = some 3 := by kernel_rfl
theorem Lv.below {B : Nat} {w w' : World} (h : Lv B w) (hb : Below B w w') : Lv B w' := by
 obtain ⟨h1, ⟨a, b, h2⟩, ⟨c, d, h3⟩, h4⟩ := h
 exact ⟨var?_below hb xC h4.1 h1, ⟨a, b, var?_below hb xD h4.2.1 h2⟩, ⟨c, d, var?_below hb xE h4.2.2 h3⟩, h4⟩
theorem Lv.mono {B B' : Nat} {w : World} (h : Lv B w) (hB : B ≤ B') : Lv B' w := ⟨h.tab, h.syn, h.rng, by have := h.lo; omega⟩
def Rd (w : World) (rb : Nat) (s : ByteArray) (n : Int) (bad : Bool) : Prop := w.heap[rb]? = some (.cells #[.string s, .int .i64 n, .bool bad] 221 (0, 0))
structure Rg (rb : Nat) (w w' : World) : Prop where
 os : w'.os = w.os
 tape : w'.tape = w.tape
 output : w'.output = w.output
 size : w.heap.size ≤ w'.heap.size
 keep : ∀ b, b < w.heap.size → b ≠ rb → w'.heap[b]? = w.heap[b]?
theorem Rg.refl (rb : Nat) (w : World) : Rg rb w w := ⟨rfl, rfl, rfl, Nat.le_refl _, fun _ _ _ => rfl⟩
theorem Rg.trans {rb : Nat} {a b c : World} (h : Rg rb a b) (k : Rg rb b c) : Rg rb a c :=
 ⟨k.os.trans h.os, k.tape.trans h.tape, k.output.trans h.output, Nat.le_trans h.size k.size, fun i hi hn => (k.keep i (by have := h.size; omega) hn).trans (h.keep i hi hn)⟩
theorem Rg.of_below {rb : Nat} {w w' : World} (h : Below w.heap.size w w') : Rg rb w w' := ⟨h.os, h.tape, h.output, h.size, fun b hb _ => h.block b hb⟩
theorem Rg.setCell {rb : Nat} {w w' : World} (h : Rg rb w w') (o : Nat) (v : Value) : Rg rb w (w'.setCell ⟨rb, o, none⟩ v) :=
 h.trans ⟨rfl, rfl, rfl, by simp, fun b _ hn => Below.heap_setCell _ _ _ _ (by simpa using hn)⟩
theorem Rg.below {rb : Nat} {w w' : World} (h : Rg rb w w') (hr : rb ≤ w.heap.size) : Below rb w w' := ⟨h.os, h.tape, h.output, h.size, fun b hb => h.keep b (by omega) (by omega)⟩
theorem Rd.lt {w : World} {rb : Nat} {s : ByteArray} {n : Int} {bad : Bool} (h : Rd w rb s n bad) : rb < w.heap.size := (Array.getElem?_eq_some_iff.1 h).1
theorem Rd.cells {w : World} {rb : Nat} {s : ByteArray} {n : Int} {bad : Bool} (h : Rd w rb s n bad) : w.cell? ⟨rb, 0, none⟩ = some (.string s) ∧ w.cell? ⟨rb, 1, none⟩ = some (.int .i64 n) ∧ w.cell? ⟨rb, 2, none⟩ = some (.bool bad) ∧ (∀ o, w.frozen? ⟨rb, o, none⟩ = false) :=
 ⟨by rw [cell_of_row w _ 0 _ _ _ h]; rfl, by rw [cell_of_row w _ 1 _ _ _ h]; rfl, by rw [cell_of_row w _ 2 _ _ _ h]; rfl, fun o => by rw [frozen_of_row w _ o _ _ h]⟩
theorem Rd.below {w w' : World} {rb : Nat} {s : ByteArray} {n : Int} {bad : Bool} (h : Rd w rb s n bad) (hb : Below w.heap.size w w') : Rd w' rb s n bad := (hb.block _ h.lt).trans h
def cut (t l : List UInt8) : List UInt8 := if pre t l then l.drop t.length else l
def vK (rb : Nat) (t l : List UInt8) (n : Int) (bad : Bool) (w : World) (e : Ending) (w' : World) : Prop :=
 ∃ s' : ByteArray, e = .returned (.bool (pre t l)) ∧ Rd w' rb s' n bad ∧ s'.data.toList = cut t l ∧ Rg rb w w' ∧ w'.heap.size = w.heap.size
theorem vL (rb : Nat) (s t : ByteArray) (n : Int) (bad : Bool) (w : World) (hr : Rd w rb s n bad) :
  Calls Tryz.prog 193 #[.pointer (some ⟨rb, 0, none⟩), .string t] w (vK rb t.data.toList s.data.toList n bad w) := by
 obtain ⟨c0, c1, c2, f⟩ := hr.cells
 have f0 := f 0
 have hlt := hr.lt
 have HR := hid hr
 clear hr f
 cases hp : pre t.data.toList s.data.toList with
 | true =>
  have h1 : Lib.hasPrefix s.data.toList t.data.toList = true := hp
  have HP := hid hp
  clear hp
  go_enter Tryz.func193, Tryz.ntmps193
  go_wp2_with (go_at_call 223; refine (Tryz.strings_CutPrefix s t _).mono ?_; rintro e w1 ⟨rfl, rfl⟩)
  go_ret
  refine ⟨⟨(Lib.trimPrefix s.data.toList t.data.toList).toArray⟩, aj HP.out.symm, af HR.out (by simp), ?_, (Rg.refl _ _).setCell _ _, by simp⟩
  simp [cut, HP.out, Lib.trimPrefix, h1]
 | false =>
  have h1 : Lib.hasPrefix s.data.toList t.data.toList = false := hp
  have HP := hid hp
  clear hp
  go_enter Tryz.func193, Tryz.ntmps193
  go_wp2_with (go_at_call 223; refine (Tryz.strings_CutPrefix s t _).mono ?_; rintro e w1 ⟨rfl, rfl⟩)
  go_ret
  exact ⟨s, aj HP.out.symm, HR.out, by simp [cut, HP.out], Rg.refl _ _, rfl⟩
theorem rH (s : ByteArray) (w : World) : Calls Tryz.prog 224 #[.string s, .string ⟨#[48, 49, 50, 51, 52, 53, 54, 55, 56, 57]⟩] w fun e w' => e = .returned (.string ⟨(s.data.toList.dropWhile isD).toArray⟩) ∧ Below w.heap.size w w' := by
 have h := Any.strings_TrimLeft_laid Tryz.lays161 (by kernel_rfl) s ⟨#[48, 49, 50, 51, 52, 53, 54, 55, 56, 57]⟩ w (by decide) (by
  intro j b hb
  have hb2 : b ∈ ([48, 49, 50, 51, 52, 53, 54, 55, 56, 57] : List UInt8) := List.mem_of_getElem? hb
  simp only [List.mem_cons, List.not_mem_nil, or_false] at hb2
  rcases hb2 with rfl | rfl | rfl | rfl | rfl | rfl | rfl | rfl | rfl | rfl <;> decide)
 rw [show (ByteArray.mk #[48, 49, 50, 51, 52, 53, 54, 55, 56, 57]).data.toList = [48, 49, 50, 51, 52, 53, 54, 55, 56, 57] from rfl, kH] at h
 exact h
def xy (rb : Nat) (l : List UInt8) (n : Int) (bad : Bool) (w : World) (e : Ending) (w' : World) : Prop :=
 ∃ (v : Nat) (s' : ByteArray), e = .returned (.int .u64 v) ∧ v < 18446744073709551616 ∧ Rd w' rb s' n (bad || (rdNum l).isNone) ∧ (∀ v' r, rdNum l = some (v', r) → v = v' ∧ s'.data.toList = r) ∧ Rg rb w w' ∧ s'.size ≤ l.length
theorem uj (ds : ByteArray) (w : World) (hL : Lv w.heap.size w) (hsz : ds.size ≤ 1000000) (hd : ∀ c ∈ ds.data.toList, isD c = true) :
  Calls Tryz.prog 107 #[.string ds, .int .i64 10, .int .i64 64] w fun e w' => ∃ (v : Nat) (er : Value), e = .returned (.tuple #[.int .u64 v, er]) ∧ v < 18446744073709551616 ∧
   ((ds.data.toList ≠ [] ∧ numOf ds.data.toList < 18446744073709551616 ∧ v = numOf ds.data.toList ∧ er = .nilIface) ∨ (¬ (ds.data.toList ≠ [] ∧ numOf ds.data.toList < 18446744073709551616) ∧ ∃ te pe, er = .iface te (.pointer (some pe)))) ∧ Below w.heap.size w w' := by
 have hp := ek ds.data.toList hd
 by_cases h0 : ds.data.toList = []
 ·rw [if_pos h0] at hp
  obtain ⟨tp, p, hs⟩ := hL.syn
  refine (Tryz.strconv_ParseUint_10_at64_syntax_var ds (by omega) hp tp p w hs).mono ?_
  rintro e w' ⟨N, rfl, _, _, hb⟩
  exact ⟨0, _, rfl, by omega, .inr ⟨fun h => h.1 h0, _, _, rfl⟩, hb⟩
 ·rw [if_neg h0] at hp
  by_cases h1 : numOf ds.data.toList < 18446744073709551616
  ·rw [if_pos h1] at hp
   refine (Tryz.strconv_ParseUint_10_at64_ok ds (by omega) _ hp w).mono ?_
   rintro e w' ⟨rfl, hw⟩
   refine ⟨_, _, rfl, h1, .inl ⟨h0, h1, rfl, rfl⟩, ?_⟩
   rcases hw with rfl | rfl
   ·exact br
   ·exact Lib.bytesWorld_below _ _ _
  ·rw [if_neg h1] at hp
   obtain ⟨tp, p, hs⟩ := hL.rng
   refine (Tryz.strconv_ParseUint_10_at64_range_var ds (by omega) hp tp p w hs).mono ?_
   rintro e w' ⟨N, rfl, _, _, hb⟩
   exact ⟨18446744073709551615, _, rfl, by omega, .inr ⟨fun h => h1 h.2, _, _, rfl⟩, hb⟩
end Go.Proofs.YtmgbhhmipmgcpaaGreatDoor
