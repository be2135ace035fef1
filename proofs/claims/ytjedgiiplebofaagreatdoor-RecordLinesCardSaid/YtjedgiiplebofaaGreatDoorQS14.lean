/- Walks: the program's reader of texts: read. -/
import Derived.Test.YtjedgiiplebofaaGreatDoorQ12
namespace Go.Proofs.YtjedgiiplebofaaGreatDoor
open Go.RowKit Go
set_option linter.unusedVariables false
set_option linter.unusedSimpArgs false
theorem read2_any (d : Nat) : ∀ (rb : Nat) (s : ByteArray) (n : Nat) (w : World), d ≤ 100 → s.size ≤ 50000 → n ≤ 32 → Rd w rb s n false → Lv rb w →
    Calls Tryz.prog 280 #[.pointer (some ⟨rb, 0, none⟩), .int .i64 d] w (RdEnds rb (rfE d s.data.toList) n s.size w) := by
  induction d with
  | zero => intro rb s n w _ hs hn hr hL; exact rd_deep rb s n w hs hn hr hL _ (fun e r h => by cases h)
  | succ d ih =>
    intro rb s n w hd hs hn hr hL
    have IH : Hid (∀ (rb : Nat) (s : ByteArray) (n : Nat) (w : World), s.size ≤ 50000 → n ≤ 32 → Rd w rb s n false → Lv rb w → Calls Tryz.prog 280 #[.pointer (some ⟨rb, 0, none⟩), .int .i64 d] w (RdEnds rb (rfE d s.data.toList) n s.size w)) := Lib.hid fun rb s n w h1 h2 h3 h4 => ih rb s n w (by omega) h1 h2 h3 h4
    have e : (((d + 1 : Nat) : Int)) = (d : Int) + 1 := by omega
    rw [e]
    rcases Nat.eq_zero_or_pos n with h0 | h0
    · exact rd_nil d (by omega) rb s n w hs hn hr hL h0 _ (fun e r _ => by have := e.size_pos; omega)
    rw [rfE]
    by_cases p1 : pre [97, 108, 108] s.data.toList = true
    · rw [if_pos p1]; exact rd_all d (by omega) rb s n w hs hn hr hL h0 p1
    rw [if_neg p1]
    have p1' := Bool.eq_false_iff.2 p1
    by_cases p2 : pre [120, 60, 61] s.data.toList = true
    · rw [if_pos p2]; exact rd_x d (by omega) rb s n w hs hn hr hL h0 p1' p2
    rw [if_neg p2]
    have p2' := Bool.eq_false_iff.2 p2
    by_cases p3 : pre [118, 60, 61] s.data.toList = true
    · rw [if_pos p3]; exact rd_v d (by omega) rb s n w hs hn hr hL h0 p1' p2' p3
    rw [if_neg p3]
    have p3' := Bool.eq_false_iff.2 p3
    by_cases p4 : pre [118, 37] s.data.toList = true
    · rw [if_pos p4]; exact rd_m d (by omega) rb s n w hs hn hr hL h0 p1' p2' p3' p4
    rw [if_neg p4]
    have p4' := Bool.eq_false_iff.2 p4
    by_cases p5 : pre [33] s.data.toList = true
    · rw [if_pos p5]; exact rd_not d (by omega) IH rb s n w hs hn hr hL h0 p1' p2' p3' p4' p5
    rw [if_neg p5]
    have p5' := Bool.eq_false_iff.2 p5
    by_cases p6 : pre [38, 40] s.data.toList = true
    · rw [if_pos p6]; exact rd_row6 d (by omega) IH rb s n w hs hn hr hL h0 p1' p2' p3' p4' p5' p6
    rw [if_neg p6]
    have p6' := Bool.eq_false_iff.2 p6
    by_cases p7 : pre [124, 40] s.data.toList = true
    · rw [if_pos p7]; exact rd_row7 d (by omega) IH rb s n w hs hn hr hL h0 p1' p2' p3' p4' p5' p6' p7
    rw [if_neg p7]
    exact rd_none d (by omega) rb s n w hs hn hr hL h0 p1' p2' p3' p4' p5' p6' (Bool.eq_false_iff.2 p7)
theorem readEndsP_none {w w' : World} {o : Option Ex} (h : o = none) (hb : Below w.heap.size w w') : ReadEnds o w (.returned (.tuple #[.agg #[.int .i64 0, .int .u64 0, .int .u64 0, .slice none 0 0], .int .i64 40])) w' := readEnds_none h hb
set_option maxHeartbeats 1000000 in
set_option maxRecDepth 100000 in
theorem predRead_any (s : ByteArray) (w : World) (hs : s.size ≤ 50000) (hL : Lv w.heap.size w) : Calls Tryz.prog 242 #[.string s] w (ReadEnds (rdText s.data.toList) w) := by
  have hr0 : Rd ((w.alloc (.cells #[.int .i64 0, .int .u64 0, .int .u64 0, .slice none 0 0] 28)).alloc (.cells #[.string s, .int .i64 ((32 : Nat) : Int), .bool false] 379)) (w.heap.size + 1) s ((32 : Nat) : Int) false := heap_alloc_at _ _ _ (by simp)
  have hb0 : Below w.heap.size w ((w.alloc (.cells #[.int .i64 0, .int .u64 0, .int .u64 0, .slice none 0 0] 28)).alloc (.cells #[.string s, .int .i64 ((32 : Nat) : Int), .bool false] 379)) := ((Below.refl _ _).alloc (Nat.le_refl _) _).alloc (by simp) _
  have HC := Lib.hid (read2_any 8 (w.heap.size + 1) s 32 _ (by omega) (by omega) (by omega) hr0 ((hL.below hb0).mono (by omega)))
  have HB0 := Lib.hid hb0
  clear hr0 hb0 hL
  go_enter Tryz.func242, Tryz.ntmps242
  go_wp2_with fail
  refine HC.out.mono ?_
  rintro e w1 ⟨t, v, r, n', bad, rfl, hv, hrd, hg, hrs, hb1, hb2⟩
  obtain ⟨q0, q1, q2, q3, q4, q5, rfl⟩ := hv.conc
  have hsz0 : ((w.alloc (.cells #[.int .i64 0, .int .u64 0, .int .u64 0, .slice none 0 0] 28)).alloc (.cells #[.string s, .int .i64 ((32 : Nat) : Int), .bool false] 379)).heap.size = w.heap.size + 2 := by simp
  have hsg := hg.size
  rw [hsz0] at hsg
  have hbw : Below w.heap.size w w1 := ⟨hg.os.trans HB0.out.os, hg.tape.trans HB0.out.tape, hg.output.trans HB0.out.output, by omega, fun k hk => (hg.keep k (by rw [hsz0]; omega) (by omega)).trans (HB0.out.block k hk)⟩
  have hh : w1.heap[w.heap.size]? = some (.cells #[.int .i64 0, .int .u64 0, .int .u64 0, .slice none 0 0] 28) := (hg.keep w.heap.size (by rw [hsz0]; omega) (by omega)).trans ((heap_alloc_lt _ _ _ (by simp)).trans (heap_alloc_at _ _ _ rfl))
  obtain ⟨e0, e1, e2, ef⟩ := hrd.cells
  have l1 : w.heap.size < w1.heap.size := by omega
  have l2 : w.heap.size + 1 < w1.heap.size := by omega
  have HH := Lib.hid ((heap_alloc_lt w1 (.cells #[.int .i64 q0, .int .u64 q1, .int .u64 q2, .slice q3 q4 q5] 28) _ l1).trans hh)
  have HV := Lib.hid (And.intro hb1 (And.intro hb2 (And.intro (hv.wider (S' := fun b => w.heap.size + 1 ≤ b) (fun b _ h => by simp at h; omega)) hbw)))
  clear hb1 hb2 hv hbw hh hrd hg ef hsz0 hsg
  cases bad with
  | true =>
    have hn : rdText s.data.toList = none := by
      cases hq : rfE 8 s.data.toList with
      | none => exact rdText_none hq
      | some x =>
        obtain ⟨e, r⟩ := x
        have := HV.out.2.1 rfl e r hq
        rw [rdText_of hq, if_neg (fun h => by have := h.2; simp [Ex.right] at this; omega)]
    have HN := Lib.hid hn
    clear hn
    go_wp2_with (first
      | (refine wpList_store_row rfl 28 (.tmp 2) (.tmp 27) rfl rfl w.heap.size rfl _ rfl 28 _ HH.out (by kernel_rfl) rfl (by simp [Value.oneCell']) ?_))
    refine bodyPost_ret (v := .tuple #[.agg #[.int .i64 0, .int .u64 0, .int .u64 0, .slice none 0 0], .int .i64 40])
      (results_row2 rfl _ _ w.heap.size 28 _ _ _ _ rfl (setRow_heap _ _ _ _ _ _ HH.out) Tryz.underlying28 rfl (by kernel_rfl) rfl) rfl ?_
    exact readEndsP_none HN.out (below_setRow (HV.out.2.2.2.alloc (by omega) _) _ _ (Nat.le_refl _))
  | false =>
    obtain ⟨hrf, hsz, _⟩ := HV.out.1 rfl
    have HN := Lib.hid (rdText_of hrf)
    clear hrf
    by_cases hr0 : r.data.toList = []
    · have hrt : r.toList = [] := by rw [ByteArray.toList_eq]; exact hr0
      have HR0 := Lib.hid hr0
      clear hr0
      go_wp2_with fail
      have hbq : Below w1.heap.size w1 (w1.alloc (.cells #[.int .i64 q0, .int .u64 q1, .int .u64 q2, .slice q3 q4 q5] 28)) := (Below.refl _ _).alloc (Nat.le_refl _) _
      refine (predRight_any _ _ t _ _ (by omega) (HV.out.2.2.1.below hbq (Nat.le_refl _))).mono ?_
      rintro e2 w2 ⟨rfl, hb2⟩
      have hbw2 : Below w.heap.size w w2 := (HV.out.2.2.2.alloc (by omega) _).trans (hb2.mono (by simp; omega))
      have hbox : ∀ o, w2.cell? ⟨w1.heap.size, o, none⟩ = (w1.alloc (.cells #[.int .i64 q0, .int .u64 q1, .int .u64 q2, .slice q3 q4 q5] 28)).cell? ⟨w1.heap.size, o, none⟩ := fun o => hb2.cell (by simp)
      have hsz2 : w1.heap.size < w2.heap.size := by have := hb2.size; simp at this; omega
      have HH2 := Lib.hid ((hb2.block w.heap.size (by simp; omega)).trans HH.out)
      have HV2 := Lib.hid (And.intro ((HV.out.2.2.1.below hbq (Nat.le_refl _)).below hb2 (Nat.le_refl _)) hbw2)
      clear hb2 hbq hbw2
      cases hrt2 : t.right with
      | false =>
        have HT := Lib.hid hrt2
        clear hrt2
        go_wp2_with (first
          | (refine wpList_store_row rfl 28 (.tmp 2) (.tmp 27) rfl rfl w.heap.size rfl _ rfl 28 _ HH2.out (by kernel_rfl) rfl (by simp [Value.oneCell']) ?_))
        refine bodyPost_ret (v := .tuple #[.agg #[.int .i64 0, .int .u64 0, .int .u64 0, .slice none 0 0], .int .i64 40])
          (results_row2 rfl _ _ w.heap.size 28 _ _ _ _ rfl (setRow_heap _ _ _ _ _ _ HH2.out) Tryz.underlying28 rfl (by kernel_rfl) rfl) rfl ?_
        exact readEndsP_none (by rw [HN.out]; simp [HT.out]) (below_setRow HV2.out.2 _ _ (Nat.le_refl _))
      | true =>
        have HT := Lib.hid hrt2
        clear hrt2
        go_wp2_with (first
          | (refine wpList_store_row rfl 28 (.tmp 2) (.tmp 28) rfl rfl w.heap.size rfl _ rfl 28 _ HH2.out (by kernel_rfl) rfl (by simp [Value.oneCell']) ?_))
        refine bodyPost_ret (v := .tuple #[.agg #[.int .i64 q0, .int .u64 q1, .int .u64 q2, .slice q3 q4 q5], .int .i64 0])
          (results_row2 rfl _ _ w.heap.size 28 _ _ _ _ rfl (setRow_heap _ _ _ _ _ _ HH2.out) Tryz.underlying28 rfl (by kernel_rfl) rfl) rfl ?_
        rw [HN.out]
        simp only [HR0.out, HT.out, and_self, if_true]
        exact ⟨_, rfl, RepE.keep (w := w2) (S := fun b => w.heap.size + 1 ≤ b) (fun b hb _ => setRow_other _ _ _ _ (by omega)) (fun b _ h => by omega) HV2.out.1, below_setRow HV2.out.2 _ _ (Nat.le_refl _)⟩
    · have hrt : ¬ r.toList = [] := by rw [ByteArray.toList_eq]; exact hr0
      have HR0 := Lib.hid hr0
      clear hr0
      go_wp2_with (first
        | (refine wpList_store_row rfl 28 (.tmp 2) (.tmp 27) rfl rfl w.heap.size rfl _ rfl 28 _ HH.out (by kernel_rfl) rfl (by simp [Value.oneCell']) ?_))
      refine bodyPost_ret (v := .tuple #[.agg #[.int .i64 0, .int .u64 0, .int .u64 0, .slice none 0 0], .int .i64 40])
        (results_row2 rfl _ _ w.heap.size 28 _ _ _ _ rfl (setRow_heap _ _ _ _ _ _ HH.out) Tryz.underlying28 rfl (by kernel_rfl) rfl) rfl ?_
      exact readEndsP_none (by rw [HN.out]; simp [HR0.out]) (below_setRow (HV.out.2.2.2.alloc (by omega) _) _ _ (Nat.le_refl _))
end Go.Proofs.YtjedgiiplebofaaGreatDoor
