/- Walks: the program's reader of texts: skip, number. Ahead of it: Walks: the reference's Read. -/
import Derived.Test.YtjedgiiplebofaaGreatDoorQ11
import Derived.Test.YtjedgiiplebofaaGreatDoorQ13
namespace Go.Proofs.YtjedgiiplebofaaGreatDoor
open Go.RowKit Go
set_option linter.unusedVariables false
set_option linter.unusedSimpArgs false
/-- A predicate and an error. -/
def ReadEnds (o : Option Ex) (w : World) (e : Ending) (w' : World) : Prop :=
  ∃ v, e = .returned (.tuple #[v, .int .i64 (code o)]) ∧ RepE w' (fun b => w.heap.size ≤ b) true (o.getD .zero) v ∧ Below w.heap.size w w'
theorem readEnds_none {w w' : World} {o : Option Ex} (h : o = none) (hb : Below w.heap.size w w') : ReadEnds o w (.returned (.tuple #[.agg #[.int .i64 0, .int .u64 0, .int .u64 0, .slice none 0 0], .int .i64 40])) w' := by
  subst h
  exact ⟨_, rfl, rep_leaf (by omega) (by omega) (by omega) (by omega), hb⟩
set_option maxHeartbeats 1000000 in
set_option maxRecDepth 100000 in
theorem refRead_any (s : ByteArray) (w : World) (hs : s.size ≤ 800) : Calls Tryz.prog 88 #[.string s] w (ReadEnds (rdText s.data.toList) w) := by
  go_enter Tryz.func88, Tryz.ntmps88
  go_wp2_with fail
  refine (read_any 8 s _ (by omega) (by omega)).mono ?_
  rintro e w1 ⟨t, v, r, ok, rfl, hv, hok1, hok2, hr, hb⟩
  obtain ⟨q0, q1, q2, q3, q4, q5, rfl⟩ := hv.conc
  have hbw : Below w.heap.size w w1 := ((Below.refl _ _).alloc (Nat.le_refl _) _).trans (hb.mono (by simp))
  have hsz1 : w.heap.size < w1.heap.size := by have := hb.size; simp at this; omega
  have hh := (hb.block w.heap.size (by simp)).trans (heap_alloc_at w _ _ rfl)
  have HH := Lib.hid ((heap_alloc_lt w1 (.cells #[.int .i64 q0, .int .u64 q1, .int .u64 q2, .slice q3 q4 q5] 38) _ hsz1).trans hh)
  have HV := Lib.hid (And.intro hok1 (And.intro hok2 (And.intro hv hbw)))
  clear hok1 hok2 hb hh hr hv hbw
  cases ok with
  | false =>
    have hn := rdText_none (HV.out.2.1 (by trivial))
    have HN := Lib.hid hn
    clear hn
    go_wp2_with (first
      | (refine wpList_store_row rfl 38 (.tmp 2) (.tmp 24) rfl rfl w.heap.size rfl _ rfl 38 _ HH.out (by kernel_rfl) rfl (by simp [Value.oneCell']) ?_))
    refine bodyPost_ret (v := .tuple #[.agg #[.int .i64 0, .int .u64 0, .int .u64 0, .slice none 0 0], .int .i64 40])
      (results_row2 rfl _ _ w.heap.size 38 _ _ _ _ rfl (setRow_heap _ _ _ _ _ _ HH.out) Tryz.underlying38 rfl (by kernel_rfl) rfl) rfl ?_
    exact readEnds_none HN.out (below_setRow (HV.out.2.2.2.alloc (by omega) _) _ _ (Nat.le_refl _))
  | true =>
    have hrf := HV.out.1 (by trivial)
    have hsz := rfE_size _ _ _ _ hrf
    rw [ba_size, ba_size] at hsz
    have HN := Lib.hid (rdText_of hrf)
    clear hrf
    by_cases hr0 : r.data.toList = []
    · have hrt : r.toList = [] := by rw [ByteArray.toList_eq]; exact hr0
      have HR0 := Lib.hid hr0
      clear hr0
      go_wp2_with fail
      have hbq : Below w1.heap.size w1 (w1.alloc (.cells #[.int .i64 q0, .int .u64 q1, .int .u64 q2, .slice q3 q4 q5] 38)) := (Below.refl _ _).alloc (Nat.le_refl _) _
      refine (refRight_any _ _ t _ _ (by omega) (HV.out.2.2.1.below hbq (Nat.le_refl _))).mono ?_
      rintro e2 w2 ⟨rfl, hb2⟩
      have hbw2 : Below w.heap.size w w2 := (HV.out.2.2.2.alloc (by omega) _).trans (hb2.mono (by simp; omega))
      have hbox : ∀ o, w2.cell? ⟨w1.heap.size, o, none⟩ = (w1.alloc (.cells #[.int .i64 q0, .int .u64 q1, .int .u64 q2, .slice q3 q4 q5] 38)).cell? ⟨w1.heap.size, o, none⟩ := fun o => hb2.cell (by simp)
      have hsz2 : w1.heap.size < w2.heap.size := by have := hb2.size; simp at this; omega
      have HH2 := Lib.hid ((hb2.block w.heap.size (by simp; omega)).trans HH.out)
      have HV2 := Lib.hid (And.intro ((HV.out.2.2.1.below hbq (Nat.le_refl _)).below hb2 (Nat.le_refl _)) hbw2)
      clear hb2 hbq hbw2
      cases hrt2 : t.right with
      | false =>
        have HT := Lib.hid hrt2
        clear hrt2
        go_wp2_with (first
          | (refine wpList_store_row rfl 38 (.tmp 2) (.tmp 24) rfl rfl w.heap.size rfl _ rfl 38 _ HH2.out (by kernel_rfl) rfl (by simp [Value.oneCell']) ?_))
        refine bodyPost_ret (v := .tuple #[.agg #[.int .i64 0, .int .u64 0, .int .u64 0, .slice none 0 0], .int .i64 40])
          (results_row2 rfl _ _ w.heap.size 38 _ _ _ _ rfl (setRow_heap _ _ _ _ _ _ HH2.out) Tryz.underlying38 rfl (by kernel_rfl) rfl) rfl ?_
        exact readEnds_none (by rw [HN.out]; simp [HT.out]) (below_setRow HV2.out.2 _ _ (Nat.le_refl _))
      | true =>
        have HT := Lib.hid hrt2
        clear hrt2
        go_wp2_with (first
          | (refine wpList_store_row rfl 38 (.tmp 2) (.tmp 25) rfl rfl w.heap.size rfl _ rfl 38 _ HH2.out (by kernel_rfl) rfl (by simp [Value.oneCell']) ?_))
        refine bodyPost_ret (v := .tuple #[.agg #[.int .i64 q0, .int .u64 q1, .int .u64 q2, .slice q3 q4 q5], .int .i64 0])
          (results_row2 rfl _ _ w.heap.size 38 _ _ _ _ rfl (setRow_heap _ _ _ _ _ _ HH2.out) Tryz.underlying38 rfl (by kernel_rfl) rfl) rfl ?_
        rw [HN.out]
        simp only [HR0.out, HT.out, and_self, if_true]
        exact ⟨_, rfl, RepE.keep (w := w2) (S := fun b => w.heap.size + 1 ≤ b) (fun b hb _ => setRow_other _ _ _ _ (by omega)) (fun b _ h => by omega) (HV2.out.1.wider (fun b _ h => by simp at h; omega)), below_setRow HV2.out.2 _ _ (Nat.le_refl _)⟩
    · have hrt : ¬ r.toList = [] := by rw [ByteArray.toList_eq]; exact hr0
      have HR0 := Lib.hid hr0
      clear hr0
      go_wp2_with (first
        | (refine wpList_store_row rfl 38 (.tmp 2) (.tmp 24) rfl rfl w.heap.size rfl _ rfl 38 _ HH.out (by kernel_rfl) rfl (by simp [Value.oneCell']) ?_))
      refine bodyPost_ret (v := .tuple #[.agg #[.int .i64 0, .int .u64 0, .int .u64 0, .slice none 0 0], .int .i64 40])
        (results_row2 rfl _ _ w.heap.size 38 _ _ _ _ rfl (setRow_heap _ _ _ _ _ _ HH.out) Tryz.underlying38 rfl (by kernel_rfl) rfl) rfl ?_
      exact readEnds_none (by rw [HN.out]; simp [HR0.out]) (below_setRow (HV.out.2.2.2.alloc (by omega) _) _ _ (Nat.le_refl _))
end Go.Proofs.YtjedgiiplebofaaGreatDoor
namespace Go.Proofs.YtjedgiiplebofaaGreatDoor
open Go.RowKit Go
set_option linter.unusedVariables false
set_option linter.unusedSimpArgs false
/-- What the library's variables hold. -/
structure Lv (B : Nat) (w : World) : Prop where
  tab : Lib.TabIs Tryz.prog w "internal/strconv.uint64pow10" .u64 Lib.pow10Tab
  syn : ∃ tp p, w.var? Tryz.prog "strconv.ErrSyntax" = some #[.iface tp p]
  rng : ∃ tp p, w.var? Tryz.prog "strconv.ErrRange" = some #[.iface tp p]
  lo : 3 < B ∧ 1 < B ∧ 2 < B
theorem gTab : Tryz.prog.globalNamed "internal/strconv.uint64pow10" = some 3 := by kernel_rfl
theorem gSyn : Tryz.prog.globalNamed "strconv.ErrSyntax" = some 1 := by kernel_rfl
theorem gRng : Tryz.prog.globalNamed "strconv.ErrRange" = some 2 := by kernel_rfl
theorem Lv.below {B : Nat} {w w' : World} (h : Lv B w) (hb : Below B w w') : Lv B w' := by
  obtain ⟨h1, ⟨a, b, h2⟩, ⟨c, d, h3⟩, h4⟩ := h
  exact ⟨var?_below hb gTab h4.1 h1, ⟨a, b, var?_below hb gSyn h4.2.1 h2⟩, ⟨c, d, var?_below hb gRng h4.2.2 h3⟩, h4⟩
theorem Lv.mono {B B' : Nat} {w : World} (h : Lv B w) (hB : B ≤ B') : Lv B' w := ⟨h.tab, h.syn, h.rng, by have := h.lo; omega⟩
/-- A reader. -/
def Rd (w : World) (rb : Nat) (s : ByteArray) (n : Int) (bad : Bool) : Prop := w.heap[rb]? = some (.cells #[.string s, .int .i64 n, .bool bad] 379 (0, 0))
/-- What a step of a reader leaves: all blocks but its own. -/
structure Rg (rb : Nat) (w w' : World) : Prop where
  os : w'.os = w.os
  tape : w'.tape = w.tape
  output : w'.output = w.output
  size : w.heap.size ≤ w'.heap.size
  keep : ∀ b, b < w.heap.size → b ≠ rb → w'.heap[b]? = w.heap[b]?
theorem Rg.refl (rb : Nat) (w : World) : Rg rb w w := ⟨rfl, rfl, rfl, Nat.le_refl _, fun _ _ _ => rfl⟩
theorem Rg.trans {rb : Nat} {a b c : World} (h : Rg rb a b) (k : Rg rb b c) : Rg rb a c :=
  ⟨k.os.trans h.os, k.tape.trans h.tape, k.output.trans h.output, Nat.le_trans h.size k.size, fun i hi hn => (k.keep i (by have := h.size; omega) hn).trans (h.keep i hi hn)⟩
theorem Rg.of_below {rb : Nat} {w w' : World} (h : Below w.heap.size w w') : Rg rb w w' := ⟨h.os, h.tape, h.output, h.size, fun b hb _ => h.block b hb⟩
theorem Rg.setCell {rb : Nat} {w w' : World} (h : Rg rb w w') (o : Nat) (v : Value) : Rg rb w (w'.setCell ⟨rb, o, none⟩ v) :=
  h.trans ⟨rfl, rfl, rfl, by simp, fun b _ hn => Below.heap_setCell _ _ _ _ (by simpa using hn)⟩
theorem Rg.below {rb : Nat} {w w' : World} (h : Rg rb w w') (hr : rb ≤ w.heap.size) : Below rb w w' := ⟨h.os, h.tape, h.output, h.size, fun b hb => h.keep b (by omega) (by omega)⟩
theorem Rd.lt {w : World} {rb : Nat} {s : ByteArray} {n : Int} {bad : Bool} (h : Rd w rb s n bad) : rb < w.heap.size := (Array.getElem?_eq_some_iff.1 h).1
theorem Rd.cells {w : World} {rb : Nat} {s : ByteArray} {n : Int} {bad : Bool} (h : Rd w rb s n bad) : w.cell? ⟨rb, 0, none⟩ = some (.string s) ∧ w.cell? ⟨rb, 1, none⟩ = some (.int .i64 n) ∧ w.cell? ⟨rb, 2, none⟩ = some (.bool bad) ∧ (∀ o, w.frozen? ⟨rb, o, none⟩ = false) :=
  ⟨by rw [cell_of_row w _ 0 _ _ _ h]; rfl, by rw [cell_of_row w _ 1 _ _ _ h]; rfl, by rw [cell_of_row w _ 2 _ _ _ h]; rfl, fun o => by rw [frozen_of_row w _ o _ _ h]⟩
theorem Rd.below {w w' : World} {rb : Nat} {s : ByteArray} {n : Int} {bad : Bool} (h : Rd w rb s n bad) (hb : Below w.heap.size w w') : Rd w' rb s n bad := (hb.block _ h.lt).trans h
/-- A text's rest behind what it begins with. -/
def cut (t l : List UInt8) : List UInt8 := if pre t l then l.drop t.length else l
def SkipEnds (rb : Nat) (t l : List UInt8) (n : Int) (bad : Bool) (w : World) (e : Ending) (w' : World) : Prop :=
  ∃ s' : ByteArray, e = .returned (.bool (pre t l)) ∧ Rd w' rb s' n bad ∧ s'.data.toList = cut t l ∧ Rg rb w w' ∧ w'.heap.size = w.heap.size
set_option maxRecDepth 10000 in
theorem skip_any (rb : Nat) (s t : ByteArray) (n : Int) (bad : Bool) (w : World) (hr : Rd w rb s n bad) :
    Calls Tryz.prog 305 #[.pointer (some ⟨rb, 0, none⟩), .string t] w (SkipEnds rb t.data.toList s.data.toList n bad w) := by
  obtain ⟨c0, c1, c2, f⟩ := hr.cells
  have f0 := f 0
  have hlt := hr.lt
  have HR := Lib.hid hr
  clear hr f
  cases hp : pre t.data.toList s.data.toList with
  | true =>
    have h1 : Lib.hasPrefix s.data.toList t.data.toList = true := hp
    have HP := Lib.hid hp
    clear hp
    go_enter Tryz.func305, Tryz.ntmps305
    go_wp2_with (go_at_call 330; refine (Tryz.strings_CutPrefix s t _).mono ?_; rintro e w1 ⟨rfl, rfl⟩)
    go_ret
    refine ⟨⟨(Lib.trimPrefix s.data.toList t.data.toList).toArray⟩, ret_bool HP.out.symm, heap_set_at HR.out (by simp), ?_, (Rg.refl _ _).setCell _ _, by simp⟩
    simp [cut, HP.out, Lib.trimPrefix, h1]
  | false =>
    have h1 : Lib.hasPrefix s.data.toList t.data.toList = false := hp
    have HP := Lib.hid hp
    clear hp
    go_enter Tryz.func305, Tryz.ntmps305
    go_wp2_with (go_at_call 330; refine (Tryz.strings_CutPrefix s t _).mono ?_; rintro e w1 ⟨rfl, rfl⟩)
    go_ret
    exact ⟨s, ret_bool HP.out.symm, HR.out, by simp [cut, HP.out], Rg.refl _ _, rfl⟩
theorem trimDigits (s : ByteArray) (w : World) : Calls Tryz.prog 331 #[.string s, .string ⟨#[48, 49, 50, 51, 52, 53, 54, 55, 56, 57]⟩] w fun e w' => e = .returned (.string ⟨(s.data.toList.dropWhile isD).toArray⟩) ∧ Below w.heap.size w w' := by
  have h := Any.strings_TrimLeft_laid Tryz.lays161 (by kernel_rfl) s ⟨#[48, 49, 50, 51, 52, 53, 54, 55, 56, 57]⟩ w (by decide) (by
    intro j b hb
    have hb2 : b ∈ ([48, 49, 50, 51, 52, 53, 54, 55, 56, 57] : List UInt8) := List.mem_of_getElem? hb
    simp only [List.mem_cons, List.not_mem_nil, or_false] at hb2
    rcases hb2 with rfl | rfl | rfl | rfl | rfl | rfl | rfl | rfl | rfl | rfl <;> decide)
  rw [show (ByteArray.mk #[48, 49, 50, 51, 52, 53, 54, 55, 56, 57]).data.toList = [48, 49, 50, 51, 52, 53, 54, 55, 56, 57] from rfl, trimLeft_digits] at h
  exact h
def NumRd (rb : Nat) (l : List UInt8) (n : Int) (bad : Bool) (w : World) (e : Ending) (w' : World) : Prop :=
  ∃ (v : Nat) (s' : ByteArray), e = .returned (.int .u64 v) ∧ v < 18446744073709551616 ∧ Rd w' rb s' n (bad || (rdNum l).isNone) ∧ (∀ v' r, rdNum l = some (v', r) → v = v' ∧ s'.data.toList = r) ∧ Rg rb w w' ∧ s'.size ≤ l.length
/-- ParseUint at a row of digits. -/
theorem parse_any (ds : ByteArray) (w : World) (hL : Lv w.heap.size w) (hsz : ds.size ≤ 1000000) (hd : ∀ c ∈ ds.data.toList, isD c = true) :
    Calls Tryz.prog 163 #[.string ds, .int .i64 10, .int .i64 64] w fun e w' => ∃ (v : Nat) (er : Value), e = .returned (.tuple #[.int .u64 v, er]) ∧ v < 18446744073709551616 ∧
      ((ds.data.toList ≠ [] ∧ numOf ds.data.toList < 18446744073709551616 ∧ v = numOf ds.data.toList ∧ er = .nilIface) ∨ (¬ (ds.data.toList ≠ [] ∧ numOf ds.data.toList < 18446744073709551616) ∧ ∃ te pe, er = .iface te (.pointer (some pe)))) ∧ Below w.heap.size w w' := by
  have hp := parseUint_digits ds.data.toList hd
  by_cases h0 : ds.data.toList = []
  · rw [if_pos h0] at hp
    obtain ⟨tp, p, hs⟩ := hL.syn
    refine (Tryz.strconv_ParseUint_10_at64_syntax_var ds (by omega) hp tp p w hs).mono ?_
    rintro e w' ⟨N, rfl, _, _, hb⟩
    exact ⟨0, _, rfl, by omega, .inr ⟨fun h => h.1 h0, _, _, rfl⟩, hb⟩
  · rw [if_neg h0] at hp
    by_cases h1 : numOf ds.data.toList < 18446744073709551616
    · rw [if_pos h1] at hp
      refine (Tryz.strconv_ParseUint_10_at64_ok ds (by omega) _ hp w).mono ?_
      rintro e w' ⟨rfl, hw⟩
      refine ⟨_, _, rfl, h1, .inl ⟨h0, h1, rfl, rfl⟩, ?_⟩
      rcases hw with rfl | rfl
      · exact Below.refl _ _
      · exact Lib.bytesWorld_below _ _ _
    · rw [if_neg h1] at hp
      obtain ⟨tp, p, hs⟩ := hL.rng
      refine (Tryz.strconv_ParseUint_10_at64_range_var ds (by omega) hp tp p w hs).mono ?_
      rintro e w' ⟨N, rfl, _, _, hb⟩
      exact ⟨18446744073709551615, _, rfl, by omega, .inr ⟨fun h => h1 h.2, _, _, rfl⟩, hb⟩
end Go.Proofs.YtjedgiiplebofaaGreatDoor
