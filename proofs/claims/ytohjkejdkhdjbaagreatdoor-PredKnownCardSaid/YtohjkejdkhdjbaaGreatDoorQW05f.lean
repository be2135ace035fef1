/- Walks: the reference's Take, Parse. -/
import Derived.Test.YtohjkejdkhdjbaaGreatDoorQW05e
import Derived.Test.YtohjkejdkhdjbaaGreatDoorQ1
import Derived.Test.YtohjkejdkhdjbaaGreatDoorQW04b
import Derived.Test.YtohjkejdkhdjbaaGreatDoorQS06
namespace Go.Proofs.YtohjkejdkhdjbaaGreatDoor
open Go.RowKit Go
set_option linter.unusedVariables false
set_option linter.unusedSimpArgs false
/-- What Take answers. -/
def TakeEnds (o : Option (Ex × Nat)) (w : World) (e : Ending) (w' : World) : Prop :=
  ∃ v, e = .returned (.tuple #[v, .int .i64 ((o.map (·.2)).getD 0 : Nat), .int .i64 (codeT o)]) ∧ RepE w' (fun b => w.heap.size ≤ b) true ((o.map (·.1)).getD .zero) v ∧ Below w.heap.size w w'
theorem takeEnds_none {w w' : World} {o : Option (Ex × Nat)} (h : o = none) (hb : Below w.heap.size w w') : TakeEnds o w (.returned (.tuple #[.agg #[.int .i64 0, .int .u64 0, .int .u64 0, .slice none 0 0], .int .i64 0, .int .i64 40])) w' := by
  subst h
  exact ⟨_, rfl, rep_leaf (by omega) (by omega) (by omega) (by omega), hb⟩
set_option maxHeartbeats 1000000 in
set_option maxRecDepth 100000 in
theorem refTake_out (d : Nat) (S : Nat → Prop) (own : Bool) (b : List UInt8) (v : Value) (i : Int) (w : World) (hr : RepB w S own b v) (hb : b.length ≤ 100000) (hi : i < 0 ∨ (b.length : Int) < i) (h1 : -9223372036854775808 ≤ i) (h2 : i ≤ 9223372036854775807) :
    Calls Tryz.prog 57 #[v, .int .i64 i, .int .i64 ((d : Int) + 1)] w fun e w' => e = .returned (.tuple #[.agg #[.int .i64 0, .int .u64 0, .int .u64 0, .slice none 0 0], .int .i64 (-1)]) ∧ Below w.heap.size w w' := by
  obtain ⟨_, ad, cap, rfl, _⟩ := hr.shape
  have HZ0 := Lib.hid (show (w.alloc (.cells #[.int .i64 0, .int .u64 0, .int .u64 0, .slice none 0 0] 32)).heap[w.heap.size]? = some (.cells #[.int .i64 0, .int .u64 0, .int .u64 0, .slice none 0 0] 32 (0, 0)) from heap_alloc_at _ _ _ rfl)
  have t0 : (((d : Int) + 1) == 0) = false := by simp; omega
  clear hr
  by_cases hn : i < 0
  · clear hi
    go_enter Tryz.func57, Tryz.ntmps57
    go_wp2_with (refine wpList_store_row rfl 32 (.tmp 6) (.tmp 39) rfl rfl w.heap.size rfl _ rfl 32 #[.int .i64 0, .int .u64 0, .int .u64 0, .slice none 0 0] HZ0.out (by kernel_rfl) rfl (by simp [Value.oneCell']) ?_)
    exact bodyPost_ret (v := .tuple #[.agg #[.int .i64 0, .int .u64 0, .int .u64 0, .slice none 0 0], .int .i64 (-1)]) (results_row2 rfl _ _ w.heap.size 32 _ _ _ _ rfl (setRow_heap _ _ _ _ _ _ HZ0.out) Tryz.underlying32 rfl (by kernel_rfl) rfl) rfl ⟨rfl, below_setRow ((Below.refl _ _).alloc (Nat.le_refl _) _) _ _ (Nat.le_refl _)⟩
  · have hg : (b.length : Int) ≤ i := by omega
    clear hi
    go_enter Tryz.func57, Tryz.ntmps57
    go_wp2_with (refine wpList_store_row rfl 32 (.tmp 6) (.tmp 39) rfl rfl w.heap.size rfl _ rfl 32 #[.int .i64 0, .int .u64 0, .int .u64 0, .slice none 0 0] HZ0.out (by kernel_rfl) rfl (by simp [Value.oneCell']) ?_)
    exact bodyPost_ret (v := .tuple #[.agg #[.int .i64 0, .int .u64 0, .int .u64 0, .slice none 0 0], .int .i64 (-1)]) (results_row2 rfl _ _ w.heap.size 32 _ _ _ _ rfl (setRow_heap _ _ _ _ _ _ HZ0.out) Tryz.underlying32 rfl (by kernel_rfl) rfl) rfl ⟨rfl, below_setRow ((Below.refl _ _).alloc (Nat.le_refl _) _) _ _ (Nat.le_refl _)⟩
/-- take at any place, of eight levels. -/
theorem refTake_any (S : Nat → Prop) (own : Bool) (b : List UInt8) (v : Value) (i : Int) (w : World) (hr : RepB w S own b v) (hb : b.length ≤ 800) (h1 : -9223372036854775808 ≤ i) (h2 : i ≤ 9223372036854775807) :
    Calls Tryz.prog 57 #[v, .int .i64 i, .int .i64 8] w fun e w' => ∃ (t : Ex) (v : Value) (n : Int), e = .returned (.tuple #[v, .int .i64 n]) ∧ RepE w' (fun b => w.heap.size ≤ b) true t v ∧ Below w.heap.size w w' ∧
      ((n = -1 ∧ tkAt b i = none) ∨ ∃ q : Nat, q ≤ b.length ∧ n = q ∧ t.size ≤ 900 ∧ tkAt b i = if t.right then some (t, q) else none) := by
  by_cases hi : 0 ≤ i ∧ i ≤ b.length
  · obtain ⟨q, rfl⟩ := Int.eq_ofNat_of_zero_le hi.1
    refine (refTake_at 8 S own b v q w (by omega) (by omega) (by omega) hr).mono ?_
    rintro e w' ⟨t, u, n, h3, h4, h5, h6⟩
    rcases h6 with ⟨rfl, h7⟩ | ⟨p, hp, rfl, h7⟩
    · exact ⟨t, u, -1, h3, h4, h5, Or.inl ⟨rfl, tkAt_none (by omega) h7⟩⟩
    · have hz := tkE_size 8 _ _ _ h7
      simp at hz
      refine ⟨t, u, p, h3, h4, h5, Or.inr ⟨p, hp, rfl, by omega, ?_⟩⟩
      rw [tkAt_some (by omega) h7]
      simp; rw [show b.length - (b.length - p) = p from by omega]
  · refine (refTake_out 7 S own b v i w hr (by omega) (by omega) h1 h2).mono ?_
    rintro e w' ⟨h3, h4⟩
    exact ⟨.zero, _, -1, h3, rep_leaf (by omega) (by omega) (by omega) (by omega), h4, Or.inl ⟨rfl, tkAt_out (by omega)⟩⟩
set_option maxHeartbeats 1000000 in
set_option maxRecDepth 100000 in
theorem refTakeT_any (S : Nat → Prop) (own : Bool) (b : List UInt8) (v : Value) (i : Int) (w : World) (hr : RepB w S own b v) (hb : b.length ≤ 800) (h1 : -9223372036854775808 ≤ i) (h2 : i ≤ 9223372036854775807) :
    Calls Tryz.prog 36 #[v, .int .i64 i] w (TakeEnds (tkAt b i) w) := by
  have hb0 : Below w.heap.size w (w.alloc (.cells #[.int .i64 0, .int .u64 0, .int .u64 0, .slice none 0 0] 32)) := (Below.refl _ _).alloc (Nat.le_refl _) _
  have HT := Lib.hid (refTake_any S own b v i (w.alloc (.cells #[.int .i64 0, .int .u64 0, .int .u64 0, .slice none 0 0] 32)) (hr.below hb0 (Nat.le_refl _)) hb h1 h2)
  have HB0 := Lib.hid hb0
  clear hr hb0
  go_enter Tryz.func36, Tryz.ntmps36
  go_wp2_with fail
  refine HT.out.mono ?_
  rintro e w1 ⟨t, u, n, rfl, hv, hb1, hcase⟩
  obtain ⟨q0, q1, q2, q3, q4, q5, rfl⟩ := hv.conc
  have hz1 := hb1.size
  simp only [World.size_alloc] at hz1
  have hbw : Below w.heap.size w w1 := HB0.out.trans (hb1.mono (by simp))
  have hh : w1.heap[w.heap.size]? = some (.cells #[.int .i64 0, .int .u64 0, .int .u64 0, .slice none 0 0] 32 (0, 0)) := (hb1.block _ (by simp)).trans (heap_alloc_at _ _ _ rfl)
  have l1 : w.heap.size < w1.heap.size := by omega
  have HH := Lib.hid ((heap_alloc_lt w1 (.cells #[.int .i64 q0, .int .u64 q1, .int .u64 q2, .slice q3 q4 q5] 32) _ l1).trans hh)
  have hvw : RepE w1 (fun b => w.heap.size + 1 ≤ b) true t (.agg #[.int .i64 q0, .int .u64 q1, .int .u64 q2, .slice q3 q4 q5]) := hv.wider (fun b _ h => by simpa using h)
  have HV := Lib.hid (And.intro hvw hbw)
  clear hv hvw hbw hh hb1
  rcases hcase with ⟨rfl, hn⟩ | ⟨q, hq, rfl, hts, hn⟩
  · have HN := Lib.hid hn
    clear hn
    go_wp2_with (refine wpList_store_row rfl 32 (.tmp 4) (.tmp 22) rfl rfl w.heap.size rfl _ rfl 32 _ HH.out (by kernel_rfl) rfl (by simp [Value.oneCell']) ?_)
    refine bodyPost_ret (v := .tuple #[.agg #[.int .i64 0, .int .u64 0, .int .u64 0, .slice none 0 0], .int .i64 0, .int .i64 40])
      (results_row3 rfl _ _ w.heap.size 32 _ _ _ _ _ rfl (setRow_heap _ _ _ _ _ _ HH.out) Tryz.underlying32 rfl (by kernel_rfl) rfl rfl) rfl ?_
    exact takeEnds_none HN.out (below_setRow (HV.out.2.alloc (by omega) _) _ _ (Nat.le_refl _))
  · have HN := Lib.hid hn
    clear hn
    go_wp2_with fail
    have hbq : Below w1.heap.size w1 (w1.alloc (.cells #[.int .i64 q0, .int .u64 q1, .int .u64 q2, .slice q3 q4 q5] 32)) := (Below.refl _ _).alloc (Nat.le_refl _) _
    refine (refRight_any _ _ t _ _ hts (HV.out.1.below hbq (Nat.le_refl _))).mono ?_
    rintro e2 w2 ⟨rfl, hb2⟩
    have hbw2 : Below w.heap.size w w2 := (HV.out.2.alloc (by omega) _).trans (hb2.mono (by simp; omega))
    have hbox : ∀ o, w2.cell? ⟨w1.heap.size, o, none⟩ = (w1.alloc (.cells #[.int .i64 q0, .int .u64 q1, .int .u64 q2, .slice q3 q4 q5] 32)).cell? ⟨w1.heap.size, o, none⟩ := fun o => hb2.cell (by simp)
    have hsz2 : w1.heap.size < w2.heap.size := by have := hb2.size; simp at this; omega
    have HH2 := Lib.hid ((hb2.block w.heap.size (by simp; omega)).trans HH.out)
    have HV2 := Lib.hid (And.intro ((HV.out.1.below hbq (Nat.le_refl _)).below hb2 (Nat.le_refl _)) hbw2)
    clear hb2 hbq hbw2
    cases hrt2 : t.right with
    | false =>
      have HT := Lib.hid hrt2
      clear hrt2
      go_wp2_with (refine wpList_store_row rfl 32 (.tmp 4) (.tmp 22) rfl rfl w.heap.size rfl _ rfl 32 _ HH2.out (by kernel_rfl) rfl (by simp [Value.oneCell']) ?_)
      refine bodyPost_ret (v := .tuple #[.agg #[.int .i64 0, .int .u64 0, .int .u64 0, .slice none 0 0], .int .i64 0, .int .i64 40])
        (results_row3 rfl _ _ w.heap.size 32 _ _ _ _ _ rfl (setRow_heap _ _ _ _ _ _ HH2.out) Tryz.underlying32 rfl (by kernel_rfl) rfl rfl) rfl ?_
      exact takeEnds_none (by rw [HN.out, HT.out]; rfl) (below_setRow HV2.out.2 _ _ (Nat.le_refl _))
    | true =>
      have HT := Lib.hid hrt2
      clear hrt2
      go_wp2_with (refine wpList_store_row rfl 32 (.tmp 4) (.tmp 23) rfl rfl w.heap.size rfl _ rfl 32 _ HH2.out (by kernel_rfl) rfl (by simp [Value.oneCell']) ?_)
      refine bodyPost_ret (v := .tuple #[.agg #[.int .i64 q0, .int .u64 q1, .int .u64 q2, .slice q3 q4 q5], .int .i64 q, .int .i64 0])
        (results_row3 rfl _ _ w.heap.size 32 _ _ _ _ _ rfl (setRow_heap _ _ _ _ _ _ HH2.out) Tryz.underlying32 rfl (by kernel_rfl) rfl rfl) rfl ?_
      rw [HN.out, HT.out]
      exact ⟨_, rfl, RepE.keep (w := w2) (S := fun b => w.heap.size + 1 ≤ b) (fun b hb _ => setRow_other _ _ _ _ (by omega)) (fun b _ h => Nat.le_of_succ_le h) HV2.out.1, below_setRow HV2.out.2 _ _ (Nat.le_refl _)⟩
set_option maxHeartbeats 1000000 in
set_option maxRecDepth 100000 in
theorem refParse_any (S : Nat → Prop) (own : Bool) (b : List UInt8) (v : Value) (w : World) (hr : RepB w S own b v) (hb : b.length ≤ 800) :
    Calls Tryz.prog 38 #[v] w (ReadEnds (tkAll b) w) := by
  have hb0 : Below w.heap.size w (w.alloc (.cells #[.int .i64 0, .int .u64 0, .int .u64 0, .slice none 0 0] 32)) := (Below.refl _ _).alloc (Nat.le_refl _) _
  have HT := Lib.hid (refTakeT_any S own b v 0 (w.alloc (.cells #[.int .i64 0, .int .u64 0, .int .u64 0, .slice none 0 0] 32)) (hr.below hb0 (Nat.le_refl _)) hb (by omega) (by omega))
  have HB0 := Lib.hid hb0
  obtain ⟨_, ad, cap, rfl, _⟩ := hr.shape
  clear hr hb0
  go_enter Tryz.func38, Tryz.ntmps38
  go_wp2_with fail
  refine HT.out.mono ?_
  rintro e w1 ⟨u, rfl, hv, hb1⟩
  obtain ⟨q0, q1, q2, q3, q4, q5, rfl⟩ := hv.conc
  have hz1 := hb1.size
  simp only [World.size_alloc] at hz1
  have hbw : Below w.heap.size w w1 := HB0.out.trans (hb1.mono (by simp))
  have hh : w1.heap[w.heap.size]? = some (.cells #[.int .i64 0, .int .u64 0, .int .u64 0, .slice none 0 0] 32 (0, 0)) := (hb1.block _ (by simp)).trans (heap_alloc_at _ _ _ rfl)
  have l1 : w.heap.size < w1.heap.size := by omega
  have HH := Lib.hid ((heap_alloc_lt w1 (.cells #[.int .i64 q0, .int .u64 q1, .int .u64 q2, .slice q3 q4 q5] 32) _ l1).trans hh)
  obtain ⟨o, ho⟩ : ∃ o, o = tkAt b 0 := ⟨_, rfl⟩
  have HO := Lib.hid ho
  rw [← ho] at hv ⊢
  have hvw : RepE w1 (fun b => w.heap.size + 1 ≤ b) true ((o.map (·.1)).getD .zero) (.agg #[.int .i64 q0, .int .u64 q1, .int .u64 q2, .slice q3 q4 q5]) := hv.wider (fun b _ h => by simpa using h)
  have HV := Lib.hid (And.intro hvw hbw)
  clear hv hvw hbw hh hb1 ho
  have HF0 : Hid (tkAll b = none → ∀ W, Below w.heap.size w W → ReadEnds (tkAll b) w (.returned (.tuple #[.agg #[.int .i64 0, .int .u64 0, .int .u64 0, .slice none 0 0], .int .i64 40])) W) := Lib.hid fun h W hW => readEnds_none h hW
  cases o with
  | none =>
    have HN : Hid (tkAll b = none) := Lib.hid (by unfold tkAll; rw [← HO.out])
    rw [show codeT (none : Option (Ex × Nat)) = 40 from rfl]
    go_wp2_with (refine wpList_store_row rfl 32 (.tmp 2) (.tmp 21) rfl rfl w.heap.size rfl _ rfl 32 _ HH.out (by kernel_rfl) rfl (by simp [Value.oneCell']) ?_)
    refine bodyPost_ret (v := .tuple #[.agg #[.int .i64 0, .int .u64 0, .int .u64 0, .slice none 0 0], .int .i64 40])
      (results_row2 rfl _ _ w.heap.size 32 _ _ _ _ rfl (setRow_heap _ _ _ _ _ _ HH.out) Tryz.underlying32 rfl (by kernel_rfl) rfl) rfl ?_
    exact HF0.out HN.out _ (below_setRow (HV.out.2.alloc (by omega) _) _ _ (Nat.le_refl _))
  | some x =>
    obtain ⟨t, n⟩ := x
    rw [show codeT (some (t, n)) = 0 from rfl]
    simp only [Option.map_some, Option.getD_some] at HV ⊢
    by_cases hn : n = b.length
    · have HN : Hid (tkAll b = some t) := Lib.hid (by unfold tkAll; rw [← HO.out]; simp [hn])
      have t1 : ((n : Int) != (b.length : Int)) = false := by simp; omega
      clear hn
      go_wp2_with (refine wpList_store_row rfl 32 (.tmp 2) (.tmp 22) rfl rfl w.heap.size rfl _ rfl 32 _ HH.out (by kernel_rfl) rfl (by simp [Value.oneCell']) ?_)
      refine bodyPost_ret (v := .tuple #[.agg #[.int .i64 q0, .int .u64 q1, .int .u64 q2, .slice q3 q4 q5], .int .i64 0])
        (results_row2 rfl _ _ w.heap.size 32 _ _ _ _ rfl (setRow_heap _ _ _ _ _ _ HH.out) Tryz.underlying32 rfl (by kernel_rfl) rfl) rfl ?_
      rw [HN.out]
      exact ⟨_, rfl, RepE.keep (w := w1) (S := fun b => w.heap.size + 1 ≤ b) (fun b hb hbl => (setRow_other _ _ _ _ (by omega)).trans (heap_alloc_lt _ _ _ hbl)) (fun b _ h => Nat.le_of_succ_le h) HV.out.1, below_setRow (HV.out.2.alloc (by omega) _) _ _ (Nat.le_refl _)⟩
    · have HN : Hid (tkAll b = none) := Lib.hid (by unfold tkAll; rw [← HO.out]; simp [hn])
      have t1 : ((n : Int) != (b.length : Int)) = true := by simp; omega
      clear hn
      go_wp2_with (refine wpList_store_row rfl 32 (.tmp 2) (.tmp 21) rfl rfl w.heap.size rfl _ rfl 32 _ HH.out (by kernel_rfl) rfl (by simp [Value.oneCell']) ?_)
      refine bodyPost_ret (v := .tuple #[.agg #[.int .i64 0, .int .u64 0, .int .u64 0, .slice none 0 0], .int .i64 40])
        (results_row2 rfl _ _ w.heap.size 32 _ _ _ _ rfl (setRow_heap _ _ _ _ _ _ HH.out) Tryz.underlying32 rfl (by kernel_rfl) rfl) rfl ?_
      exact HF0.out HN.out _ (below_setRow (HV.out.2.alloc (by omega) _) _ _ (Nat.le_refl _))
end Go.Proofs.YtohjkejdkhdjbaaGreatDoor
