/- Walks: the reference's predicate in a text: read, Read. -/
import Derived.Test.YtohjkejdkhdjbaaGreatDoorS04
namespace Go.Proofs.YtohjkejdkhdjbaaGreatDoor
open Go.RowKit Go
set_option linter.unusedVariables false
set_option linter.unusedSimpArgs false


theorem sl4_lit (w : World) (S : Nat → Prop) (c0 c1 c2 c3 : Value) (T : TypeId) (hS : S w.heap.size) : Sl (w.alloc (.cells #[c0, c1, c2, c3] T)) S true 4 1 [c0, c1, c2, c3] (.slice (some ⟨w.heap.size, 0, none⟩) 1 1) := by
  refine ⟨by simp, by omega, _, _, rfl, by omega, fun _ => ⟨_, _, rfl, hS, fun j hj => ?_⟩⟩
  have hj2 : j < 4 := by simpa using hj
  rw [cell_of_row _ _ (0 + j) _ T (0, 0) (heap_alloc_new w _), frozen_of_row _ _ (0 + j) _ T (heap_alloc_new w _)]
  have hc : j = 0 ∨ j = 1 ∨ j = 2 ∨ j = 3 := by omega
  rcases hc with rfl | rfl | rfl | rfl <;> simp

set_option maxHeartbeats 1000000 in
set_option maxRecDepth 100000 in
theorem read_not (d : Nat) (hd : d ≤ 100) (IH : Hid (∀ (s : ByteArray) (w : World), s.size ≤ 1000 → Calls Tryz.prog 41 #[.string s, .int .i64 d] w (RfEnds (rfE d s.data.toList) s.size w))) (s : ByteArray) (w : World) (hs : s.size ≤ 1000) (p1 : List.isPrefixOf [97, 108, 108] s.data.toList = false) (p2 : List.isPrefixOf [120, 60, 61] s.data.toList = false) (p3 : List.isPrefixOf [118, 60, 61] s.data.toList = false) (p4 : List.isPrefixOf [118, 37] s.data.toList = false) (p5 : List.isPrefixOf [33] s.data.toList = true) :
    Calls Tryz.prog 41 #[.string s, .int .i64 ((d : Int) + 1)] w (RfEnds ((rfE d (s.data.toList.drop 1)).map fun x => (.mk 5 0 0 [x.1], x.2)) s.size w) := by
  have hs1 : 1 ≤ s.size := by have := pre_length p5; rw [ba_size] at this; simpa using this
  have t0 : (((d : Int) + 1) == 0) = false := by simp; omega
  have he : (s.extract 1 s.size).data.toList = s.data.toList.drop 1 := by rw [ba_extract, List.take_of_length_le (by simp)]
  have hel : (s.extract 1 s.size).size ≤ s.size - 1 := by rw [← ba_size, he]; simp
  have HE := Lib.hid he
  clear he
  go_enter Tryz.func41, Tryz.ntmps41
  go_wp2_with (go_at_call 61; refine (begins_any s _ _ (by omega) (by decide)).mono ?_; rintro e w1 ⟨rfl, rfl⟩)
  refine (IH.out _ _ (by omega)).mono ?_
  rintro e w1 ⟨t, v, r, ok, rfl, hv, hok1, hok2, hr, hb⟩
  rw [HE.out] at hok1 hok2
  obtain ⟨q0, q1, q2, q3, q4, q5, rfl⟩ := hv.conc
  have hbw : Below w.heap.size w w1 := ((Below.refl _ _).alloc (Nat.le_refl _) _).trans (hb.mono (by simp))
  have hsz1 : w.heap.size < w1.heap.size := by have := hb.size; simp at this; omega
  have hh := (hb.block w.heap.size (by simp)).trans (heap_alloc_at w _ _ rfl)
  have HH := Lib.hid (((heap_alloc_lt _ (.cells #[.int .i64 q0, .int .u64 q1, .int .u64 q2, .slice q3 q4 q5] 32) _ (by simp; omega)).trans ((heap_alloc_lt w1 (.cells #[.int .i64 q0, .int .u64 q1, .int .u64 q2, .slice q3 q4 q5] 32) _ hsz1).trans hh)))
  have HV := Lib.hid (And.intro hok1 (And.intro hok2 (And.intro hv hbw)))
  have hrl : r.size ≤ s.size := by omega
  clear hok1 hok2 hb hh hr hv hbw
  go_wp2_with (first
    | (refine wpList_store_row rfl 32 (.tmp 4) (.tmp 98) rfl rfl w.heap.size rfl _ rfl 32 _ HH.out (by kernel_rfl) rfl (by simp [Value.oneCell']) ?_))
  refine bodyPost_ret (v := .tuple #[.agg #[.int .i64 5, .int .u64 0, .int .u64 0, .slice (some ⟨w1.heap.size + 1, 0, none⟩) 1 1], .string r, .bool ok])
    (results_row3 rfl _ _ w.heap.size 32 _ _ _ _ _ rfl (setRow_heap _ _ _ _ _ _ HH.out) Tryz.underlying32 rfl (by kernel_rfl) rfl rfl) rfl ?_
  obtain ⟨hok1, hok2, hv, hbw⟩ := HV.out
  refine ⟨.mk 5 0 0 [t], _, _, _, rfl, ?_, fun h => by rw [hok1 h]; rfl, fun h => by rw [hok2 h]; rfl, hrl, below_setRow ((hbw.alloc (by omega) _).alloc (by simp; omega) _) _ _ (Nat.le_refl _)⟩
  have hK : Keeps (fun b => w.heap.size + 1 ≤ b) ((w1.alloc (.cells #[.int .i64 q0, .int .u64 q1, .int .u64 q2, .slice q3 q4 q5] 32)).alloc (.cells #[.int .i64 q0, .int .u64 q1, .int .u64 q2, .slice q3 q4 q5] 32))
      ((((w1.alloc (.cells #[.int .i64 q0, .int .u64 q1, .int .u64 q2, .slice q3 q4 q5] 32)).alloc (.cells #[.int .i64 q0, .int .u64 q1, .int .u64 q2, .slice q3 q4 q5] 32))).setRow w.heap.size #[.int .i64 5, .int .u64 0, .int .u64 0, .slice (some ⟨w1.heap.size + 1, 0, none⟩) 1 1]) :=
    fun b hb _ => setRow_other _ _ _ _ (by omega)
  have hsl := sl4_lit (w1.alloc (.cells #[.int .i64 q0, .int .u64 q1, .int .u64 q2, .slice q3 q4 q5] 32)) (fun b => w.heap.size + 1 ≤ b) (.int .i64 q0) (.int .u64 q1) (.int .u64 q2) (.slice q3 q4 q5) 32 (by simp; omega)
  rw [World.size_alloc] at hsl
  have hvv := (hv.below ((Below.refl w1.heap.size w1).alloc (Nat.le_refl _) (.cells #[.int .i64 q0, .int .u64 q1, .int .u64 q2, .slice q3 q4 q5] 32)) (Nat.le_refl _)).below ((Below.refl _ _).alloc (Nat.le_refl _) (.cells #[.int .i64 q0, .int .u64 q1, .int .u64 q2, .slice q3 q4 q5] 32)) (Nat.le_refl _)
  simp only [RepE]
  refine ⟨_, _, rfl, by omega, by omega, by omega, by omega, hsl.keep (by omega) hK (fun b _ h => by omega), RepEs.keep hK (fun b _ h => by omega) (RepEs.one (hvv.wider (fun b _ h => by simp at h; omega)))⟩

set_option maxHeartbeats 1000000 in
set_option maxRecDepth 100000 in
theorem read_row6 (d : Nat) (hd : d ≤ 100) (IH : Hid (∀ (s : ByteArray) (w : World), s.size ≤ 1000 → Calls Tryz.prog 41 #[.string s, .int .i64 d] w (RfEnds (rfE d s.data.toList) s.size w))) (s : ByteArray) (w : World) (hs : s.size ≤ 1000) (p1 : List.isPrefixOf [97, 108, 108] s.data.toList = false) (p2 : List.isPrefixOf [120, 60, 61] s.data.toList = false) (p3 : List.isPrefixOf [118, 60, 61] s.data.toList = false) (p4 : List.isPrefixOf [118, 37] s.data.toList = false) (p5 : List.isPrefixOf [33] s.data.toList = false) (p6 : List.isPrefixOf [38, 40] s.data.toList = true) :
    Calls Tryz.prog 41 #[.string s, .int .i64 ((d : Int) + 1)] w (RfEnds ((rfParts (rfE d) (s.data.toList.drop 2)).map fun x => (.mk 6 0 0 x.1, x.2)) s.size w) := by
  have hs1 : 2 ≤ s.size := by have := pre_length p6; rw [ba_size] at this; simpa using this
  have t0 : (((d : Int) + 1) == 0) = false := by simp; omega
  have he : (s.extract 2 s.size).data.toList = s.data.toList.drop 2 := by rw [ba_extract, List.take_of_length_le (by simp)]
  have hel : (s.extract 2 s.size).size ≤ s.size - 2 := by rw [← ba_size, he]; simp
  have HE := Lib.hid he
  clear he
  go_enter Tryz.func41, Tryz.ntmps41
  go_wp2_with (go_at_call 61; refine (begins_any s _ _ (by omega) (by decide)).mono ?_; rintro e w1 ⟨rfl, rfl⟩)
  refine (row_of d hd IH 6 (by omega) (by omega) _ _ (by omega)).mono ?_
  rintro e w1 ⟨t, v, r, ok, rfl, hv, hok1, hok2, hr, hb⟩
  rw [HE.out] at hok1 hok2
  obtain ⟨q0, q1, q2, q3, q4, q5, rfl⟩ := hv.conc
  have hbw : Below w.heap.size w w1 := ((Below.refl _ _).alloc (Nat.le_refl _) _).trans (hb.mono (by simp))
  have hsz1 : w.heap.size < w1.heap.size := by have := hb.size; simp at this; omega
  have HH := Lib.hid ((hb.block w.heap.size (by simp)).trans (heap_alloc_at w _ _ rfl))
  have HV := Lib.hid (And.intro hok1 (And.intro hok2 (And.intro hv hbw)))
  have hrl : r.size ≤ s.size := by omega
  clear hok1 hok2 hb hr hv hbw
  go_wp2_with (first
    | (refine wpList_store_row rfl 32 (.tmp 4) (.tmp 109) rfl rfl w.heap.size rfl _ rfl 32 _ HH.out (by kernel_rfl) rfl (by simp [Value.oneCell']) ?_))
  refine bodyPost_ret (v := .tuple #[.agg #[.int .i64 q0, .int .u64 q1, .int .u64 q2, .slice q3 q4 q5], .string r, .bool ok])
    (results_row3 rfl _ _ w.heap.size 32 _ _ _ _ _ rfl (setRow_heap _ _ _ _ _ _ HH.out) Tryz.underlying32 rfl (by kernel_rfl) rfl rfl) rfl ?_
  obtain ⟨hok1, hok2, hv, hbw⟩ := HV.out
  refine ⟨t, _, _, _, rfl, RepE.keep (w := w1) (S := fun b => w.heap.size + 1 ≤ b) (fun b hb _ => setRow_other _ _ _ _ (by omega)) (fun b _ h => by omega) (hv.wider (fun b _ h => by simp at h; omega)), hok1, hok2, hrl, below_setRow hbw _ _ (Nat.le_refl _)⟩

set_option maxHeartbeats 1000000 in
set_option maxRecDepth 100000 in
theorem read_row7 (d : Nat) (hd : d ≤ 100) (IH : Hid (∀ (s : ByteArray) (w : World), s.size ≤ 1000 → Calls Tryz.prog 41 #[.string s, .int .i64 d] w (RfEnds (rfE d s.data.toList) s.size w))) (s : ByteArray) (w : World) (hs : s.size ≤ 1000) (p1 : List.isPrefixOf [97, 108, 108] s.data.toList = false) (p2 : List.isPrefixOf [120, 60, 61] s.data.toList = false) (p3 : List.isPrefixOf [118, 60, 61] s.data.toList = false) (p4 : List.isPrefixOf [118, 37] s.data.toList = false) (p5 : List.isPrefixOf [33] s.data.toList = false) (p6 : List.isPrefixOf [38, 40] s.data.toList = false) (p7 : List.isPrefixOf [124, 40] s.data.toList = true) :
    Calls Tryz.prog 41 #[.string s, .int .i64 ((d : Int) + 1)] w (RfEnds ((rfParts (rfE d) (s.data.toList.drop 2)).map fun x => (.mk 7 0 0 x.1, x.2)) s.size w) := by
  have hs1 : 2 ≤ s.size := by have := pre_length p7; rw [ba_size] at this; simpa using this
  have t0 : (((d : Int) + 1) == 0) = false := by simp; omega
  have he : (s.extract 2 s.size).data.toList = s.data.toList.drop 2 := by rw [ba_extract, List.take_of_length_le (by simp)]
  have hel : (s.extract 2 s.size).size ≤ s.size - 2 := by rw [← ba_size, he]; simp
  have HE := Lib.hid he
  clear he
  go_enter Tryz.func41, Tryz.ntmps41
  go_wp2_with (go_at_call 61; refine (begins_any s _ _ (by omega) (by decide)).mono ?_; rintro e w1 ⟨rfl, rfl⟩)
  refine (row_of d hd IH 7 (by omega) (by omega) _ _ (by omega)).mono ?_
  rintro e w1 ⟨t, v, r, ok, rfl, hv, hok1, hok2, hr, hb⟩
  rw [HE.out] at hok1 hok2
  obtain ⟨q0, q1, q2, q3, q4, q5, rfl⟩ := hv.conc
  have hbw : Below w.heap.size w w1 := ((Below.refl _ _).alloc (Nat.le_refl _) _).trans (hb.mono (by simp))
  have hsz1 : w.heap.size < w1.heap.size := by have := hb.size; simp at this; omega
  have HH := Lib.hid ((hb.block w.heap.size (by simp)).trans (heap_alloc_at w _ _ rfl))
  have HV := Lib.hid (And.intro hok1 (And.intro hok2 (And.intro hv hbw)))
  have hrl : r.size ≤ s.size := by omega
  clear hok1 hok2 hb hr hv hbw
  go_wp2_with (first
    | (refine wpList_store_row rfl 32 (.tmp 4) (.tmp 120) rfl rfl w.heap.size rfl _ rfl 32 _ HH.out (by kernel_rfl) rfl (by simp [Value.oneCell']) ?_))
  refine bodyPost_ret (v := .tuple #[.agg #[.int .i64 q0, .int .u64 q1, .int .u64 q2, .slice q3 q4 q5], .string r, .bool ok])
    (results_row3 rfl _ _ w.heap.size 32 _ _ _ _ _ rfl (setRow_heap _ _ _ _ _ _ HH.out) Tryz.underlying32 rfl (by kernel_rfl) rfl rfl) rfl ?_
  obtain ⟨hok1, hok2, hv, hbw⟩ := HV.out
  refine ⟨t, _, _, _, rfl, RepE.keep (w := w1) (S := fun b => w.heap.size + 1 ≤ b) (fun b hb _ => setRow_other _ _ _ _ (by omega)) (fun b _ h => by omega) (hv.wider (fun b _ h => by simp at h; omega)), hok1, hok2, hrl, below_setRow hbw _ _ (Nat.le_refl _)⟩

set_option maxHeartbeats 1000000 in
set_option maxRecDepth 100000 in
theorem read_none (d : Nat) (hd : d ≤ 100) (s : ByteArray) (w : World) (hs : s.size ≤ 1000) (p1 : List.isPrefixOf [97, 108, 108] s.data.toList = false) (p2 : List.isPrefixOf [120, 60, 61] s.data.toList = false) (p3 : List.isPrefixOf [118, 60, 61] s.data.toList = false) (p4 : List.isPrefixOf [118, 37] s.data.toList = false) (p5 : List.isPrefixOf [33] s.data.toList = false)
    (p6 : List.isPrefixOf [38, 40] s.data.toList = false) (p7 : List.isPrefixOf [124, 40] s.data.toList = false) :
    Calls Tryz.prog 41 #[.string s, .int .i64 ((d : Int) + 1)] w (RfEnds none s.size w) := by
  have t0 : (((d : Int) + 1) == 0) = false := by simp; omega
  go_enter Tryz.func41, Tryz.ntmps41
  go_wp2_with (go_at_call 61; refine (begins_any s _ _ (by omega) (by decide)).mono ?_; rintro e w1 ⟨rfl, rfl⟩)
  refine bodyPost_ret (v := .tuple #[.agg #[.int .i64 0, .int .u64 0, .int .u64 0, .slice none 0 0], .string s, .bool false])
    (results_row3 rfl _ _ w.heap.size 32 #[.int .i64 0, .int .u64 0, .int .u64 0, .slice none 0 0] (0, 0) _ _ _ rfl (by show (w.alloc _).heap[_]? = _; exact heap_alloc_at _ _ _ rfl) Tryz.underlying32 rfl (by kernel_rfl) rfl rfl) rfl ?_
  exact ⟨.mk 0 0 0 [], _, _, _, rfl, rep_leaf (by omega) (by omega) (by omega) (by omega), (fun h => by cases h), fun _ => rfl, Nat.le_refl _, (Below.refl _ _).alloc (Nat.le_refl _) _⟩

set_option maxRecDepth 100000 in
theorem read_zero (s : ByteArray) (w : World) :
    Calls Tryz.prog 41 #[.string s, .int .i64 0] w (RfEnds none s.size w) := by
  go_enter Tryz.func41, Tryz.ntmps41
  go_wp2_with fail
  refine bodyPost_ret (v := .tuple #[.agg #[.int .i64 0, .int .u64 0, .int .u64 0, .slice none 0 0], .string s, .bool false])
    (results_row3 rfl _ _ w.heap.size 32 #[.int .i64 0, .int .u64 0, .int .u64 0, .slice none 0 0] (0, 0) _ _ _ rfl (by show (w.alloc _).heap[_]? = _; exact heap_alloc_at _ _ _ rfl) Tryz.underlying32 rfl (by kernel_rfl) rfl rfl) rfl ?_
  exact ⟨.mk 0 0 0 [], _, _, _, rfl, rep_leaf (by omega) (by omega) (by omega) (by omega), (fun h => by cases h), fun _ => rfl, Nat.le_refl _, (Below.refl _ _).alloc (Nat.le_refl _) _⟩

theorem read_any (d : Nat) : ∀ (s : ByteArray) (w : World), d ≤ 100 → s.size ≤ 1000 → Calls Tryz.prog 41 #[.string s, .int .i64 d] w (RfEnds (rfE d s.data.toList) s.size w) := by
  induction d with
  | zero => intro s w _ hs; exact read_zero s w
  | succ d ih =>
    intro s w hd hs
    have IH : Hid (∀ (s : ByteArray) (w : World), s.size ≤ 1000 → Calls Tryz.prog 41 #[.string s, .int .i64 d] w (RfEnds (rfE d s.data.toList) s.size w)) := Lib.hid fun s w h => ih s w (by omega) h
    have e : (((d + 1 : Nat) : Int)) = (d : Int) + 1 := by omega
    rw [e, rfE]
    by_cases p1 : pre [97, 108, 108] s.data.toList = true
    · rw [if_pos p1]; exact read_all d (by omega) s w hs p1
    rw [if_neg p1]
    have p1' := Bool.eq_false_iff.2 p1
    by_cases p2 : pre [120, 60, 61] s.data.toList = true
    · rw [if_pos p2]; exact read_x d (by omega) s w hs p1' p2
    rw [if_neg p2]
    have p2' := Bool.eq_false_iff.2 p2
    by_cases p3 : pre [118, 60, 61] s.data.toList = true
    · rw [if_pos p3]; exact read_v d (by omega) s w hs p1' p2' p3
    rw [if_neg p3]
    have p3' := Bool.eq_false_iff.2 p3
    by_cases p4 : pre [118, 37] s.data.toList = true
    · rw [if_pos p4]; exact read_m d (by omega) s w hs p1' p2' p3' p4
    rw [if_neg p4]
    have p4' := Bool.eq_false_iff.2 p4
    by_cases p5 : pre [33] s.data.toList = true
    · rw [if_pos p5]; exact read_not d (by omega) IH s w hs p1' p2' p3' p4' p5
    rw [if_neg p5]
    have p5' := Bool.eq_false_iff.2 p5
    by_cases p6 : pre [38, 40] s.data.toList = true
    · rw [if_pos p6]; exact read_row6 d (by omega) IH s w hs p1' p2' p3' p4' p5' p6
    rw [if_neg p6]
    have p6' := Bool.eq_false_iff.2 p6
    by_cases p7 : pre [124, 40] s.data.toList = true
    · rw [if_pos p7]; exact read_row7 d (by omega) IH s w hs p1' p2' p3' p4' p5' p6' p7
    rw [if_neg p7]
    exact read_none d (by omega) s w hs p1' p2' p3' p4' p5' p6' (Bool.eq_false_iff.2 p7)
end Go.Proofs.YtohjkejdkhdjbaaGreatDoor
