/- Walks: the reference's Read. -/
import Derived.Test.YtohjkejdkhdjbaaGreatDoorQ11
import Derived.Test.YtohjkejdkhdjbaaGreatDoorQ13
namespace Go.Proofs.YtohjkejdkhdjbaaGreatDoor
open Go.RowKit Go
set_option linter.unusedVariables false
set_option linter.unusedSimpArgs false
/-- A predicate and an error. -/
def ReadEnds (o : Option Ex) (w : World) (e : Ending) (w' : World) : Prop :=
  ∃ v, e = .returned (.tuple #[v, .int .i64 (code o)]) ∧ RepE w' (fun b => w.heap.size ≤ b) true (o.getD .zero) v ∧ Below w.heap.size w w'
theorem readEnds_none {w w' : World} {o : Option Ex} (h : o = none) (hb : Below w.heap.size w w') : ReadEnds o w (.returned (.tuple #[.agg #[.int .i64 0, .int .u64 0, .int .u64 0, .slice none 0 0], .int .i64 40])) w' := by
  subst h
  exact ⟨_, rfl, rep_leaf (by omega) (by omega) (by omega) (by omega), hb⟩
set_option maxHeartbeats 1000000 in
set_option maxRecDepth 100000 in
theorem refRead_any (s : ByteArray) (w : World) (hs : s.size ≤ 800) : Calls Tryz.prog 10 #[.string s] w (ReadEnds (rdText s.data.toList) w) := by
  go_enter Tryz.func10, Tryz.ntmps10
  go_wp2_with fail
  refine (read_any 8 s _ (by omega) (by omega)).mono ?_
  rintro e w1 ⟨t, v, r, ok, rfl, hv, hok1, hok2, hr, hb⟩
  obtain ⟨q0, q1, q2, q3, q4, q5, rfl⟩ := hv.conc
  have hbw : Below w.heap.size w w1 := ((Below.refl _ _).alloc (Nat.le_refl _) _).trans (hb.mono (by simp))
  have hsz1 : w.heap.size < w1.heap.size := by have := hb.size; simp at this; omega
  have hh := (hb.block w.heap.size (by simp)).trans (heap_alloc_at w _ _ rfl)
  have HH := Lib.hid ((heap_alloc_lt w1 (.cells #[.int .i64 q0, .int .u64 q1, .int .u64 q2, .slice q3 q4 q5] 32) _ hsz1).trans hh)
  have HV := Lib.hid (And.intro hok1 (And.intro hok2 (And.intro hv hbw)))
  clear hok1 hok2 hb hh hr hv hbw
  cases ok with
  | false =>
    have hn := rdText_none (HV.out.2.1 (by trivial))
    have HN := Lib.hid hn
    clear hn
    go_wp2_with (first
      | (refine wpList_store_row rfl 32 (.tmp 2) (.tmp 24) rfl rfl w.heap.size rfl _ rfl 32 _ HH.out (by kernel_rfl) rfl (by simp [Value.oneCell']) ?_))
    refine bodyPost_ret (v := .tuple #[.agg #[.int .i64 0, .int .u64 0, .int .u64 0, .slice none 0 0], .int .i64 40])
      (results_row2 rfl _ _ w.heap.size 32 _ _ _ _ rfl (setRow_heap _ _ _ _ _ _ HH.out) Tryz.underlying32 rfl (by kernel_rfl) rfl) rfl ?_
    exact readEnds_none HN.out (below_setRow (HV.out.2.2.2.alloc (by omega) _) _ _ (Nat.le_refl _))
  | true =>
    have hrf := HV.out.1 (by trivial)
    have hsz := rfE_size _ _ _ _ hrf
    rw [ba_size, ba_size] at hsz
    have HN := Lib.hid (rdText_of hrf)
    clear hrf
    by_cases hr0 : r.data.toList = []
    · have hrt : r.toList = [] := by rw [ByteArray.toList_eq]; exact hr0
      have HR0 := Lib.hid hr0
      clear hr0
      go_wp2_with fail
      have hbq : Below w1.heap.size w1 (w1.alloc (.cells #[.int .i64 q0, .int .u64 q1, .int .u64 q2, .slice q3 q4 q5] 32)) := (Below.refl _ _).alloc (Nat.le_refl _) _
      refine (refRight_any _ _ t _ _ (by omega) (HV.out.2.2.1.below hbq (Nat.le_refl _))).mono ?_
      rintro e2 w2 ⟨rfl, hb2⟩
      have hbw2 : Below w.heap.size w w2 := (HV.out.2.2.2.alloc (by omega) _).trans (hb2.mono (by simp; omega))
      have hbox : ∀ o, w2.cell? ⟨w1.heap.size, o, none⟩ = (w1.alloc (.cells #[.int .i64 q0, .int .u64 q1, .int .u64 q2, .slice q3 q4 q5] 32)).cell? ⟨w1.heap.size, o, none⟩ := fun o => hb2.cell (by simp)
      have hsz2 : w1.heap.size < w2.heap.size := by have := hb2.size; simp at this; omega
      have HH2 := Lib.hid ((hb2.block w.heap.size (by simp; omega)).trans HH.out)
      have HV2 := Lib.hid (And.intro ((HV.out.2.2.1.below hbq (Nat.le_refl _)).below hb2 (Nat.le_refl _)) hbw2)
      clear hb2 hbq hbw2
      cases hrt2 : t.right with
      | false =>
        have HT := Lib.hid hrt2
        clear hrt2
        go_wp2_with (first
          | (refine wpList_store_row rfl 32 (.tmp 2) (.tmp 24) rfl rfl w.heap.size rfl _ rfl 32 _ HH2.out (by kernel_rfl) rfl (by simp [Value.oneCell']) ?_))
        refine bodyPost_ret (v := .tuple #[.agg #[.int .i64 0, .int .u64 0, .int .u64 0, .slice none 0 0], .int .i64 40])
          (results_row2 rfl _ _ w.heap.size 32 _ _ _ _ rfl (setRow_heap _ _ _ _ _ _ HH2.out) Tryz.underlying32 rfl (by kernel_rfl) rfl) rfl ?_
        exact readEnds_none (by rw [HN.out]; simp [HT.out]) (below_setRow HV2.out.2 _ _ (Nat.le_refl _))
      | true =>
        have HT := Lib.hid hrt2
        clear hrt2
        go_wp2_with (first
          | (refine wpList_store_row rfl 32 (.tmp 2) (.tmp 25) rfl rfl w.heap.size rfl _ rfl 32 _ HH2.out (by kernel_rfl) rfl (by simp [Value.oneCell']) ?_))
        refine bodyPost_ret (v := .tuple #[.agg #[.int .i64 q0, .int .u64 q1, .int .u64 q2, .slice q3 q4 q5], .int .i64 0])
          (results_row2 rfl _ _ w.heap.size 32 _ _ _ _ rfl (setRow_heap _ _ _ _ _ _ HH2.out) Tryz.underlying32 rfl (by kernel_rfl) rfl) rfl ?_
        rw [HN.out]
        simp only [HR0.out, HT.out, and_self, if_true]
        exact ⟨_, rfl, RepE.keep (w := w2) (S := fun b => w.heap.size + 1 ≤ b) (fun b hb _ => setRow_other _ _ _ _ (by omega)) (fun b _ h => by omega) (HV2.out.1.wider (fun b _ h => by simp at h; omega)), below_setRow HV2.out.2 _ _ (Nat.le_refl _)⟩
    · have hrt : ¬ r.toList = [] := by rw [ByteArray.toList_eq]; exact hr0
      have HR0 := Lib.hid hr0
      clear hr0
      go_wp2_with (first
        | (refine wpList_store_row rfl 32 (.tmp 2) (.tmp 24) rfl rfl w.heap.size rfl _ rfl 32 _ HH.out (by kernel_rfl) rfl (by simp [Value.oneCell']) ?_))
      refine bodyPost_ret (v := .tuple #[.agg #[.int .i64 0, .int .u64 0, .int .u64 0, .slice none 0 0], .int .i64 40])
        (results_row2 rfl _ _ w.heap.size 32 _ _ _ _ rfl (setRow_heap _ _ _ _ _ _ HH.out) Tryz.underlying32 rfl (by kernel_rfl) rfl) rfl ?_
      exact readEnds_none (by rw [HN.out]; simp [HR0.out]) (below_setRow (HV.out.2.2.2.alloc (by omega) _) _ _ (Nat.le_refl _))
end Go.Proofs.YtohjkejdkhdjbaaGreatDoor
