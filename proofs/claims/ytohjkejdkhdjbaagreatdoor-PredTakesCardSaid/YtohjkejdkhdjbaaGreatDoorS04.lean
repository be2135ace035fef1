/- Walks: the reference's predicate in a text: read. -/
import Derived.Test.YtohjkejdkhdjbaaGreatDoorS03
namespace Go.Proofs.YtohjkejdkhdjbaaGreatDoor
open Go.RowKit Go
set_option linter.unusedVariables false
set_option linter.unusedSimpArgs false


theorem rep_leaf {W : World} {S : Nat → Prop} {k : Int} {a b : Nat} (hk1 : -9223372036854775808 ≤ k) (hk2 : k ≤ 9223372036854775807) (ha : a < 18446744073709551616) (hb : b < 18446744073709551616) : RepE W S true (.mk k a b []) (.agg #[.int .i64 k, .int .u64 a, .int .u64 b, .slice none 0 0]) := by
  simp only [RepE]
  exact ⟨_, [], rfl, hk1, hk2, ha, hb, Sl.nil _ _ _ _, by simp [RepEs]⟩

set_option maxHeartbeats 1000000 in
set_option maxRecDepth 100000 in
theorem read_all (d : Nat) (hd : d ≤ 100) (s : ByteArray) (w : World) (hs : s.size ≤ 1000) (p1 : List.isPrefixOf [97, 108, 108] s.data.toList = true) :
    Calls Tryz.prog 41 #[.string s, .int .i64 ((d : Int) + 1)] w (RfEnds (some (.mk 1 0 0 [], s.data.toList.drop 3)) s.size w) := by
  have hs1 : 3 ≤ s.size := by have := pre_length p1; rw [ba_size] at this; simpa using this
  have t0 : (((d : Int) + 1) == 0) = false := by simp; omega
  go_enter Tryz.func41, Tryz.ntmps41
  go_wp2_with (go_at_call 61; refine (begins_any s _ _ (by omega) (by decide)).mono ?_; rintro e w1 ⟨rfl, rfl⟩)
  go_region
  go_wp2_with fail
  refine bodyPost_ret (v := .tuple #[.agg #[.int .i64 1, .int .u64 0, .int .u64 0, .slice none 0 0], .string (s.extract 3 s.size), .bool true])
    (results_row3 rfl _ _ w.heap.size 32 #[.int .i64 1, .int .u64 0, .int .u64 0, .slice none 0 0] (0, 0) _ _ _ rfl (by show (w.alloc _).heap[_]? = _; exact heap_alloc_at _ _ _ rfl) Tryz.underlying32 rfl (by kernel_rfl) rfl rfl) rfl ?_
  refine ⟨.mk 1 0 0 [], _, _, _, rfl, rep_leaf (by omega) (by omega) (by omega) (by omega), fun _ => ?_, (fun h => by cases h), by simp, ((Below.refl _ _).alloc (Nat.le_refl _) _).drew⟩
  rw [ba_extract, List.take_of_length_le (by simp)]

set_option maxHeartbeats 1000000 in
set_option maxRecDepth 100000 in
theorem read_x (d : Nat) (hd : d ≤ 100) (s : ByteArray) (w : World) (hs : s.size ≤ 1000) (p1 : List.isPrefixOf [97, 108, 108] s.data.toList = false) (p2 : List.isPrefixOf [120, 60, 61] s.data.toList = true) :
    Calls Tryz.prog 41 #[.string s, .int .i64 ((d : Int) + 1)] w (RfEnds ((rdNum (s.data.toList.drop 3)).map fun x => (.mk 2 x.1 0 [], x.2)) s.size w) := by
  have hs1 : 3 ≤ s.size := by have := pre_length p2; rw [ba_size] at this; simpa using this
  have hs0 : 0 < s.size := by omega
  have hx : s[0] = 120 := by
    have h2 : pre [120] s.data.toList = true := by
      unfold pre; rw [List.isPrefixOf_iff_prefix] at p2 ⊢
      exact (show ([120] : List UInt8) <+: [120, 60, 61] from ⟨[60, 61], rfl⟩).trans p2
    rw [pre_one _ _ hs0] at h2; simpa using h2
  have t0 : (((d : Int) + 1) == 0) = false := by simp; omega
  have t1 : ((s[0].toNat : Int) == 120) = true := by rw [hx]; rfl
  have he : (s.extract 3 s.size).data.toList = s.data.toList.drop 3 := by rw [ba_extract, List.take_of_length_le (by simp)]
  have hel : (s.extract 3 s.size).size ≤ s.size - 3 := by rw [← ba_size, he]; simp
  have HE := Lib.hid he
  clear hx he
  go_enter Tryz.func41, Tryz.ntmps41
  go_wp2_with (go_at_call 61; refine (begins_any s _ _ (by omega) (by decide)).mono ?_; rintro e w1 ⟨rfl, rfl⟩)
  refine (value_any _ _ (by omega)).mono ?_
  rintro e w1 ⟨n, r, ok, rfl, hn, hok1, hok2, hr, hb⟩
  rw [HE.out] at hok1 hok2
  have HV := Lib.hid (And.intro hok1 (And.intro hok2 hb))
  have hh := (hb.block w.heap.size (by simp)).trans (heap_alloc_at w _ _ rfl)
  have hrl : r.size ≤ s.size := by rw [ba_size] at hr; omega
  have HH := Lib.hid hh
  clear hok1 hok2 hb hh hr
  go_wp2_with (first
    | (refine wpList_store_row rfl 32 (.tmp 4) (.tmp 46) rfl rfl w.heap.size rfl _ rfl 32 _ HH.out (by kernel_rfl) rfl (by simp [Value.oneCell']) ?_))
  refine bodyPost_ret (v := .tuple #[.agg #[.int .i64 2, .int .u64 n, .int .u64 0, .slice none 0 0], .string r, .bool ok])
    (results_row3 rfl _ _ w.heap.size 32 _ _ _ _ _ rfl (setRow_heap _ _ _ _ _ _ HH.out) Tryz.underlying32 rfl (by kernel_rfl) rfl rfl) rfl ?_
  obtain ⟨hok1, hok2, hb⟩ := HV.out
  refine ⟨.mk 2 n 0 [], _, _, _, rfl, rep_leaf (by omega) (by omega) hn (by omega), fun h => by rw [hok1 h]; rfl, fun h => by rw [hok2 h]; rfl, hrl, below_setRow (((Below.refl _ _).alloc (Nat.le_refl _) _).trans (hb.mono (by simp))) _ _ (Nat.le_refl _)⟩

set_option maxHeartbeats 1000000 in
set_option maxRecDepth 100000 in
theorem read_v (d : Nat) (hd : d ≤ 100) (s : ByteArray) (w : World) (hs : s.size ≤ 1000) (p1 : List.isPrefixOf [97, 108, 108] s.data.toList = false) (p2 : List.isPrefixOf [120, 60, 61] s.data.toList = false) (p3 : List.isPrefixOf [118, 60, 61] s.data.toList = true) :
    Calls Tryz.prog 41 #[.string s, .int .i64 ((d : Int) + 1)] w (RfEnds ((rdNum (s.data.toList.drop 3)).map fun x => (.mk 3 x.1 0 [], x.2)) s.size w) := by
  have hs1 : 3 ≤ s.size := by have := pre_length p3; rw [ba_size] at this; simpa using this
  have hs0 : 0 < s.size := by omega
  have hx : s[0] = 118 := by
    have h2 : pre [118] s.data.toList = true := by
      unfold pre; rw [List.isPrefixOf_iff_prefix] at p3 ⊢
      exact (show ([118] : List UInt8) <+: [118, 60, 61] from ⟨[60, 61], rfl⟩).trans p3
    rw [pre_one _ _ hs0] at h2; simpa using h2
  have t0 : (((d : Int) + 1) == 0) = false := by simp; omega
  have t1 : ((s[0].toNat : Int) == 120) = false := by rw [hx]; rfl
  have he : (s.extract 3 s.size).data.toList = s.data.toList.drop 3 := by rw [ba_extract, List.take_of_length_le (by simp)]
  have hel : (s.extract 3 s.size).size ≤ s.size - 3 := by rw [← ba_size, he]; simp
  have HE := Lib.hid he
  clear hx he
  go_enter Tryz.func41, Tryz.ntmps41
  go_wp2_with (go_at_call 61; refine (begins_any s _ _ (by omega) (by decide)).mono ?_; rintro e w1 ⟨rfl, rfl⟩)
  refine (value_any _ _ (by omega)).mono ?_
  rintro e w1 ⟨n, r, ok, rfl, hn, hok1, hok2, hr, hb⟩
  rw [HE.out] at hok1 hok2
  have HV := Lib.hid (And.intro hok1 (And.intro hok2 hb))
  have hh := (hb.block w.heap.size (by simp)).trans (heap_alloc_at w _ _ rfl)
  have hrl : r.size ≤ s.size := by rw [ba_size] at hr; omega
  have HH := Lib.hid hh
  clear hok1 hok2 hb hh hr
  go_wp2_with (first
    | (refine wpList_store_row rfl 32 (.tmp 4) (.tmp 50) rfl rfl w.heap.size rfl _ rfl 32 _ HH.out (by kernel_rfl) rfl (by simp [Value.oneCell']) ?_))
  refine bodyPost_ret (v := .tuple #[.agg #[.int .i64 3, .int .u64 n, .int .u64 0, .slice none 0 0], .string r, .bool ok])
    (results_row3 rfl _ _ w.heap.size 32 _ _ _ _ _ rfl (setRow_heap _ _ _ _ _ _ HH.out) Tryz.underlying32 rfl (by kernel_rfl) rfl rfl) rfl ?_
  obtain ⟨hok1, hok2, hb⟩ := HV.out
  refine ⟨.mk 3 n 0 [], _, _, _, rfl, rep_leaf (by omega) (by omega) hn (by omega), fun h => by rw [hok1 h]; rfl, fun h => by rw [hok2 h]; rfl, hrl, below_setRow (((Below.refl _ _).alloc (Nat.le_refl _) _).trans (hb.mono (by simp))) _ _ (Nat.le_refl _)⟩


def rfMod (l : List UInt8) : Option (Ex × List UInt8) := match rdNum (l.drop 2) with
  | none => none
  | some (a, r) => if pre [61] r then (rdNum (r.drop 1)).map (fun x => (.mk 4 a x.1 [], x.2)) else none
set_option maxHeartbeats 2000000 in
set_option maxRecDepth 100000 in
theorem read_m (d : Nat) (hd : d ≤ 100) (s : ByteArray) (w : World) (hs : s.size ≤ 1000) (p1 : List.isPrefixOf [97, 108, 108] s.data.toList = false) (p2 : List.isPrefixOf [120, 60, 61] s.data.toList = false) (p3 : List.isPrefixOf [118, 60, 61] s.data.toList = false) (p4 : List.isPrefixOf [118, 37] s.data.toList = true) :
    Calls Tryz.prog 41 #[.string s, .int .i64 ((d : Int) + 1)] w (RfEnds (rfMod s.data.toList) s.size w) := by
  have hs1 : 2 ≤ s.size := by have := pre_length p4; rw [ba_size] at this; simpa using this
  have t0 : (((d : Int) + 1) == 0) = false := by simp; omega
  have he : (s.extract 2 s.size).data.toList = s.data.toList.drop 2 := by rw [ba_extract, List.take_of_length_le (by simp)]
  have hel : (s.extract 2 s.size).size ≤ s.size - 2 := by rw [← ba_size, he]; simp
  have HE := Lib.hid he
  clear he
  go_enter Tryz.func41, Tryz.ntmps41
  go_wp2_with (go_at_call 61; refine (begins_any s _ _ (by omega) (by decide)).mono ?_; rintro e w1 ⟨rfl, rfl⟩)
  refine (value_any _ _ (by omega)).mono ?_
  rintro e w1 ⟨n, r, ok, rfl, hn, hok1, hok2, hr, hb⟩
  rw [HE.out] at hok1 hok2
  have hh := (hb.block w.heap.size (by simp)).trans (heap_alloc_at w _ _ rfl)
  have hrl : r.size ≤ s.size := by rw [ba_size] at hr; omega
  have hbw : Below w.heap.size w w1 := ((Below.refl _ _).alloc (Nat.le_refl _) _).trans (hb.mono (by simp))
  have hsz1 : w.heap.size < w1.heap.size := by have := hb.size; simp at this; omega
  have HH := Lib.hid hh
  have HV := Lib.hid (And.intro hok1 (And.intro hok2 hbw))
  clear hok1 hok2 hb hh hr hbw
  cases ok with
  | false =>
    go_wp2_with (first
      | (refine wpList_store_row rfl 32 (.tmp 4) (.tmp 70) rfl rfl w.heap.size rfl _ rfl 32 _ HH.out (by kernel_rfl) rfl (by simp [Value.oneCell']) ?_))
    refine bodyPost_ret (v := .tuple #[.agg #[.int .i64 0, .int .u64 0, .int .u64 0, .slice none 0 0], .string s, .bool false])
      (results_row3 rfl _ _ w.heap.size 32 _ _ _ _ _ rfl (setRow_heap _ _ _ _ _ _ HH.out) Tryz.underlying32 rfl (by kernel_rfl) rfl rfl) rfl ?_
    refine ⟨.mk 0 0 0 [], _, _, _, rfl, rep_leaf (by omega) (by omega) (by omega) (by omega), (fun h => by cases h), fun _ => ?_, Nat.le_refl _, below_setRow HV.out.2.2 _ _ (Nat.le_refl _)⟩
    rw [rfMod, HV.out.2.1 (by trivial)]
  | true =>
    have hrd := HV.out.1 (by trivial)
    have HRD := Lib.hid hrd
    clear hrd
    by_cases hp : List.isPrefixOf [61] r.data.toList = true
    · have hr1 : 1 ≤ r.size := by have := pre_length hp; rw [ba_size] at this; simpa using this
      have hp2 := Lib.hid (show pre [61] r.data.toList = true from hp)
      have he : (r.extract 1 r.size).data.toList = r.data.toList.drop 1 := by rw [ba_extract, List.take_of_length_le (by simp)]
      have hel2 : (r.extract 1 r.size).size ≤ r.size - 1 := by rw [← ba_size, he]; simp
      have HE2 := Lib.hid he
      clear he
      go_wp2_with (go_at_call 61; refine (begins_any r _ _ (by omega) (by decide)).mono ?_; rintro e w2 ⟨rfl, rfl⟩)
      refine (value_any _ _ (by omega)).mono ?_
      rintro e w3 ⟨m, q, ok, rfl, hm, hok1, hok2, hq, hb⟩
      rw [HE2.out] at hok1 hok2
      have hh := (hb.block w.heap.size hsz1).trans HH.out
      have HH3 := Lib.hid hh
      have HV3 := Lib.hid (And.intro hok1 (And.intro hok2 hb))
      have hql : q.size ≤ s.size := by rw [ba_size] at hq; omega
      clear hok1 hok2 hb hh hq
      go_wp2_with (first
        | (refine wpList_store_row rfl 32 (.tmp 4) (.tmp 81) rfl rfl w.heap.size rfl _ rfl 32 _ HH3.out (by kernel_rfl) rfl (by simp [Value.oneCell']) ?_))
      refine bodyPost_ret (v := .tuple #[.agg #[.int .i64 4, .int .u64 n, .int .u64 m, .slice none 0 0], .string q, .bool ok])
        (results_row3 rfl _ _ w.heap.size 32 _ _ _ _ _ rfl (setRow_heap _ _ _ _ _ _ HH3.out) Tryz.underlying32 rfl (by kernel_rfl) rfl rfl) rfl ?_
      obtain ⟨hok1, hok2, hb⟩ := HV3.out
      refine ⟨.mk 4 n m [], _, _, _, rfl, rep_leaf (by omega) (by omega) hn hm, fun h => ?_, fun h => ?_, hql, below_setRow (HV.out.2.2.trans (hb.mono (by omega))) _ _ (Nat.le_refl _)⟩
      · rw [rfMod, HRD.out]; simp only [hp2.out, if_true, hok1 h, Option.map_some]
      · rw [rfMod, HRD.out]; simp only [hp2.out, if_true, hok2 h, Option.map_none]
    · have hp' : List.isPrefixOf [61] r.data.toList = false := Bool.eq_false_iff.2 hp
      have hp2 := Lib.hid (show pre [61] r.data.toList = false from hp')
      clear hp
      go_wp2_with (first
        | (go_at_call 61; refine (begins_any r _ _ (by omega) (by decide)).mono ?_; rintro e w2 ⟨rfl, rfl⟩)
        | (refine wpList_store_row rfl 32 (.tmp 4) (.tmp 70) rfl rfl w.heap.size rfl _ rfl 32 _ HH.out (by kernel_rfl) rfl (by simp [Value.oneCell']) ?_))
      refine bodyPost_ret (v := .tuple #[.agg #[.int .i64 0, .int .u64 0, .int .u64 0, .slice none 0 0], .string s, .bool false])
        (results_row3 rfl _ _ w.heap.size 32 _ _ _ _ _ rfl (setRow_heap _ _ _ _ _ _ HH.out) Tryz.underlying32 rfl (by kernel_rfl) rfl rfl) rfl ?_
      refine ⟨.mk 0 0 0 [], _, _, _, rfl, rep_leaf (by omega) (by omega) (by omega) (by omega), (fun h => by cases h), fun _ => ?_, Nat.le_refl _, below_setRow HV.out.2.2 _ _ (Nat.le_refl _)⟩
      rw [rfMod, HRD.out]; simp [hp2.out]
end Go.Proofs.YtohjkejdkhdjbaaGreatDoor
