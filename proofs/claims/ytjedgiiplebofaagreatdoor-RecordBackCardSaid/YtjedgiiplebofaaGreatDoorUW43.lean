/- Walks: the payload's reader: a predicate. -/
import Derived.Test.YtjedgiiplebofaaGreatDoorUW41
import Derived.Test.YtjedgiiplebofaaGreatDoorUW42
import Derived.Test.YtjedgiiplebofaaGreatDoorU42
import Derived.Deep.CutRange
import Derived.Laws.Rows
namespace Go.Proofs.YtjedgiiplebofaaGreatDoor
open Go.RowKit Go
set_option linter.unusedVariables false
set_option linter.unusedSimpArgs false
theorem textS_len {s : Option (List UInt8)} {n : Nat} (h : ∀ r, s = some r → r.length ≤ n) : (textS s).1.length ≤ n := by
  cases s with
  | none => simp [textS, numS, rawS]
  | some r =>
    have hr := h r rfl
    unfold textS
    cases h1 : getV r with
    | none => simp [numS_no h1, rawS]
    | some x =>
      obtain ⟨v, r'⟩ := x
      have h2 := getV_len h1
      rw [numS_some h1]
      show (if v ≤ r'.length then (r'.take v, some (r'.drop v)) else ([], none) : List UInt8 × Option (List UInt8)).1.length ≤ n
      split
      · simp; omega
      · simp
theorem rk_fault {w0 w1 w2 : World} {rb pb : Nat} (h : Rk (fun b => b = rb ∨ b = pb) w0 w1) (hs : w1.heap.size ≤ w2.heap.size) (ho : w2.os = w1.os ∧ w2.tape = w1.tape ∧ w2.output = w1.output) (hk : ∀ b, b < w1.heap.size → b ≠ pb → b < w0.heap.size → w2.heap[b]? = w1.heap[b]?) : Rk (fun b => b = rb ∨ b = pb) w0 w2 :=
  ⟨ho.1.trans h.os, ho.2.1.trans h.tape, ho.2.2.trans h.output, Nat.le_trans h.size hs, fun b hb hn => (hk b (by have := h.size; omega) (fun e => hn (.inr e)) hb).trans (h.keep b hb hn)⟩
set_option maxHeartbeats 4000000 in
set_option maxRecDepth 100000 in
theorem rdPredicate_any (pb rb : Nat) (l : List UInt8) (sv : Value) (s s' : Option (List UInt8)) (f f' : Bool) (p : Ex) (w : World) (hl : l.length ≤ 100000) (h : RdS w pb rb l sv s f) (hp : predS s f = (p, s', f')) :
    Calls Tryz.prog 237 #[.pointer (some ⟨pb, 0, none⟩)] w fun e w' => ∃ v, e = .returned v ∧ RepE w' (fun b => w.heap.size ≤ b) true p v ∧ RdS w' pb rb l sv s' f' ∧ Rk (fun b => b = rb ∨ b = pb) w w' := by
  obtain ⟨tx, htx⟩ : ∃ tx, textS s = (tx, s') := by unfold predS at hp; simp only [Prod.mk.injEq] at hp; exact ⟨(textS s).1, by rw [← hp.2.1]⟩
  have htl : tx.length ≤ 100000 := by
    have := textS_len (s := s) (n := 100000) (fun r hr => by have h1 := h.vr; rw [hr] at h1; have := h1.left; omega)
    rw [htx] at this; exact this
  have hpf : p = (tkAll tx).getD .zero ∧ f' = (f || (tkAll tx).isNone) := by unfold predS at hp; rw [htx] at hp; simp only [Prod.mk.injEq] at hp; exact ⟨hp.1.symm, hp.2.2.symm⟩
  have hb1 : Below w.heap.size w (w.alloc (.cells #[.int .i64 0, .int .u64 0, .int .u64 0, .slice none 0 0] 28)) := (Below.refl _ _).alloc (Nat.le_refl _) _
  have hz : (w.alloc (.cells #[.int .i64 0, .int .u64 0, .int .u64 0, .slice none 0 0] 28)).heap[w.heap.size]? = some (.cells #[.int .i64 0, .int .u64 0, .int .u64 0, .slice none 0 0] 28 (0, 0)) := heap_alloc_at _ _ _ rfl
  have hr1 := h.below hb1
  have c0 := hr1.c0
  have hplt := h.plt
  have hrlt := h.lt
  have HT := Lib.hid (vrTextS_any rb l sv s _ hr1.vr)
  rw [htx] at HT
  have HH := Lib.hid (And.intro hr1 (And.intro hz hb1))
  have HPF := Lib.hid hpf
  clear h hp htx hpf hb1 hz hr1
  go_enter Tryz.func237, Tryz.ntmps237
  go_wp2_with fail
  refine HT.out.mono ?_
  rintro e w1 ⟨v1, rfl, hs1, hg1, ho1⟩
  obtain ⟨sa, sc, rfl⟩ := owns_slice ho1
  have hz1 := hg1.size
  simp only [World.size_alloc] at hz1
  have hrd1 := HH.out.1.step hs1 hg1
  have hbx1 : w1.heap[w.heap.size]? = some (.cells #[.int .i64 0, .int .u64 0, .int .u64 0, .slice none 0 0] 28 (0, 0)) := (hg1.keep _ (by simp) (by omega)).trans HH.out.2.1
  have hk1 : Rk (fun b => b = rb ∨ b = pb) w w1 := (Rk.of_below HH.out.2.2).trans' ⟨hg1.os, hg1.tape, hg1.output, hg1.size, fun b hb hn => hg1.keep b hb hn⟩ (fun i _ hi => .inl hi)
  have HP := Lib.hid (predParse_any _ true tx _ w1 (RepB.of_owns ho1) htl)
  have H1 := Lib.hid (And.intro hrd1 (And.intro hbx1 hk1))
  clear hs1 hg1 ho1 hrd1 hbx1 hk1 c0
  go_wp2_with fail
  refine HP.out.mono ?_
  rintro e w2 ⟨v2, rfl, hv2, hb2⟩
  obtain ⟨q0, q1, q2, q3, q4, q5, rfl⟩ := hv2.conc
  have hz2 := hb2.size
  have lp2 : pb < w2.heap.size := by omega
  have hrd2 := H1.out.1.below hb2
  obtain ⟨c1, f1⟩ := hrd2.c1
  have hbx2 : w2.heap[w.heap.size]? = some (.cells #[.int .i64 0, .int .u64 0, .int .u64 0, .slice none 0 0] 28 (0, 0)) := (hb2.block _ (by omega)).trans H1.out.2.1
  have hk2 : Rk (fun b => b = rb ∨ b = pb) w w2 := H1.out.2.2.trans (Rk.of_below hb2)
  have H2 := Lib.hid (And.intro hrd2 (And.intro hbx2 (And.intro hk2 hv2)))
  clear hb2 hrd2 hbx2 hk2 hv2
  have hfin : ∀ (fb : Bool) (W4 : World), fb = f' → W4 = (w2.setCell ⟨pb, 1, none⟩ (.bool fb)).alloc (.cells #[.int .i64 q0, .int .u64 q1, .int .u64 q2, .slice q3 q4 q5] 28) →
      W4.heap[w.heap.size]? = some (.cells #[.int .i64 0, .int .u64 0, .int .u64 0, .slice none 0 0] 28 (0, 0)) ∧ W4.heap[w2.heap.size]? = some (.cells #[.int .i64 q0, .int .u64 q1, .int .u64 q2, .slice q3 q4 q5] 28 (0, 0)) ∧ RepE (W4.setRow w.heap.size #[.int .i64 q0, .int .u64 q1, .int .u64 q2, .slice q3 q4 q5]) (fun b => w.heap.size ≤ b) true p (.agg #[.int .i64 q0, .int .u64 q1, .int .u64 q2, .slice q3 q4 q5]) ∧ RdS (W4.setRow w.heap.size #[.int .i64 q0, .int .u64 q1, .int .u64 q2, .slice q3 q4 q5]) pb rb l sv s' f' ∧ Rk (fun b => b = rb ∨ b = pb) w (W4.setRow w.heap.size #[.int .i64 q0, .int .u64 q1, .int .u64 q2, .slice q3 q4 q5]) := by
    intro fb W4 hfb hW4
    subst hfb
    have hkp : ∀ b, b < w2.heap.size → b ≠ pb → W4.heap[b]? = w2.heap[b]? := fun b hb hn => by
      rw [hW4]
      exact (heap_alloc_lt _ _ _ (by simpa using hb)).trans (Below.heap_setCell _ _ _ _ (by simpa using hn))
    have h0 := H2.out.1.hd
    have hp4 : W4.heap[pb]? = some (.cells #[.pointer (some ⟨rb, 0, none⟩), .bool fb] 176 (0, 0)) := by
      rw [hW4]
      exact (heap_alloc_lt _ _ _ (by simp; omega)).trans (heap_set_at h0 rfl)
    refine ⟨(hkp _ (by omega) (by omega)).trans H2.out.2.1, ?_, ?_, ⟨(setRow_other _ _ _ _ (by omega)).trans hp4, H2.out.1.vr.keep (fun b hb => (setRow_other _ _ _ _ (by omega)).trans (hkp b (by omega) (by omega))), hrlt⟩, ?_⟩
    · rw [hW4]
      exact heap_alloc_at _ _ _ (by simp)
    · rw [HPF.out.1]
      refine RepE.keep (w := w2) (S := fun b => w1.heap.size ≤ b) (fun b hb hbl => (setRow_other _ _ _ _ (by omega)).trans (hkp b hbl (by omega))) (fun b _ hb => by omega) H2.out.2.2.2
    · refine Rk.setRow ?_ _ (.inl (Nat.le_refl _)) _
      refine rk_fault H2.out.2.2.1 (by rw [hW4]; simp) (by rw [hW4]; exact ⟨rfl, rfl, rfl⟩) (fun b hb hn _ => hkp b hb hn)
  have HF := Lib.hid hfin
  clear hfin
  have hc3 : (f = true) ∨ (f = false ∧ tkAll tx = none) ∨ (f = false ∧ (tkAll tx).isSome = true) := by
    cases f <;> cases tkAll tx <;> simp
  rcases hc3 with hf | ⟨hf, ht⟩ | ⟨hf, ht⟩
  · subst hf
    have hff : true = f' := by rw [HPF.out.2]; rfl
    have HFF := Lib.hid (HF.out true _ hff rfl)
    clear hff
    generalize code (tkAll tx) = cd
    go_upto_region 3 with fail
    generalize (w2.setCell ⟨pb, 1, none⟩ (.bool true)).alloc (.cells #[.int .i64 q0, .int .u64 q1, .int .u64 q2, .slice q3 q4 q5] 28) = W4 at HFF ⊢
    have e0 : W4.cell? ⟨w2.heap.size, 0, none⟩ = some (.int .i64 q0) := by rw [cell_of_row W4 _ 0 _ _ _ HFF.out.2.1]; rfl
    have e1 : W4.cell? ⟨w2.heap.size, 1, none⟩ = some (.int .u64 q1) := by rw [cell_of_row W4 _ 1 _ _ _ HFF.out.2.1]; rfl
    have e2 : W4.cell? ⟨w2.heap.size, 2, none⟩ = some (.int .u64 q2) := by rw [cell_of_row W4 _ 2 _ _ _ HFF.out.2.1]; rfl
    have e3 : W4.cell? ⟨w2.heap.size, 3, none⟩ = some (.slice q3 q4 q5) := by rw [cell_of_row W4 _ 3 _ _ _ HFF.out.2.1]; rfl
    go_wp2_with (refine wpList_store_row rfl 28 (.tmp 2) (.tmp 25) rfl rfl w.heap.size rfl #[.int .i64 q0, .int .u64 q1, .int .u64 q2, .slice q3 q4 q5] rfl 28 _ HFF.out.1 (by kernel_rfl) rfl (by simp [Value.oneCell']) ?_)
    exact bodyPost_ret (v := .agg #[.int .i64 q0, .int .u64 q1, .int .u64 q2, .slice q3 q4 q5]) (results_cell_row rfl _ _ w.heap.size 28 _ _ _ rfl (setRow_heap _ _ _ _ _ _ HFF.out.1) Tryz.underlying28 rfl (by kernel_rfl)) rfl ⟨_, rfl, HFF.out.2.2.1, HFF.out.2.2.2.1, HFF.out.2.2.2.2⟩
  · subst hf
    have hff : true = f' := by rw [HPF.out.2, ht]; rfl
    have HFF := Lib.hid (HF.out true _ hff rfl)
    have hcd : code (tkAll tx) = 40 := by rw [ht]; rfl
    rw [hcd]
    clear hff ht hcd
    go_upto_region 3 with fail
    generalize (w2.setCell ⟨pb, 1, none⟩ (.bool true)).alloc (.cells #[.int .i64 q0, .int .u64 q1, .int .u64 q2, .slice q3 q4 q5] 28) = W4 at HFF ⊢
    have e0 : W4.cell? ⟨w2.heap.size, 0, none⟩ = some (.int .i64 q0) := by rw [cell_of_row W4 _ 0 _ _ _ HFF.out.2.1]; rfl
    have e1 : W4.cell? ⟨w2.heap.size, 1, none⟩ = some (.int .u64 q1) := by rw [cell_of_row W4 _ 1 _ _ _ HFF.out.2.1]; rfl
    have e2 : W4.cell? ⟨w2.heap.size, 2, none⟩ = some (.int .u64 q2) := by rw [cell_of_row W4 _ 2 _ _ _ HFF.out.2.1]; rfl
    have e3 : W4.cell? ⟨w2.heap.size, 3, none⟩ = some (.slice q3 q4 q5) := by rw [cell_of_row W4 _ 3 _ _ _ HFF.out.2.1]; rfl
    go_wp2_with (refine wpList_store_row rfl 28 (.tmp 2) (.tmp 25) rfl rfl w.heap.size rfl #[.int .i64 q0, .int .u64 q1, .int .u64 q2, .slice q3 q4 q5] rfl 28 _ HFF.out.1 (by kernel_rfl) rfl (by simp [Value.oneCell']) ?_)
    exact bodyPost_ret (v := .agg #[.int .i64 q0, .int .u64 q1, .int .u64 q2, .slice q3 q4 q5]) (results_cell_row rfl _ _ w.heap.size 28 _ _ _ rfl (setRow_heap _ _ _ _ _ _ HFF.out.1) Tryz.underlying28 rfl (by kernel_rfl)) rfl ⟨_, rfl, HFF.out.2.2.1, HFF.out.2.2.2.1, HFF.out.2.2.2.2⟩
  · subst hf
    have hff : false = f' := by rw [HPF.out.2]; cases h : tkAll tx <;> simp [h] at ht ⊢
    have HFF := Lib.hid (HF.out false _ hff rfl)
    have hcd : code (tkAll tx) = 0 := by cases h : tkAll tx with | none => simp [h] at ht | some x => rfl
    rw [hcd]
    clear hff ht hcd
    go_upto_region 3 with fail
    generalize (w2.setCell ⟨pb, 1, none⟩ (.bool false)).alloc (.cells #[.int .i64 q0, .int .u64 q1, .int .u64 q2, .slice q3 q4 q5] 28) = W4 at HFF ⊢
    have e0 : W4.cell? ⟨w2.heap.size, 0, none⟩ = some (.int .i64 q0) := by rw [cell_of_row W4 _ 0 _ _ _ HFF.out.2.1]; rfl
    have e1 : W4.cell? ⟨w2.heap.size, 1, none⟩ = some (.int .u64 q1) := by rw [cell_of_row W4 _ 1 _ _ _ HFF.out.2.1]; rfl
    have e2 : W4.cell? ⟨w2.heap.size, 2, none⟩ = some (.int .u64 q2) := by rw [cell_of_row W4 _ 2 _ _ _ HFF.out.2.1]; rfl
    have e3 : W4.cell? ⟨w2.heap.size, 3, none⟩ = some (.slice q3 q4 q5) := by rw [cell_of_row W4 _ 3 _ _ _ HFF.out.2.1]; rfl
    go_wp2_with (refine wpList_store_row rfl 28 (.tmp 2) (.tmp 25) rfl rfl w.heap.size rfl #[.int .i64 q0, .int .u64 q1, .int .u64 q2, .slice q3 q4 q5] rfl 28 _ HFF.out.1 (by kernel_rfl) rfl (by simp [Value.oneCell']) ?_)
    exact bodyPost_ret (v := .agg #[.int .i64 q0, .int .u64 q1, .int .u64 q2, .slice q3 q4 q5]) (results_cell_row rfl _ _ w.heap.size 28 _ _ _ rfl (setRow_heap _ _ _ _ _ _ HFF.out.1) Tryz.underlying28 rfl (by kernel_rfl)) rfl ⟨_, rfl, HFF.out.2.2.1, HFF.out.2.2.2.1, HFF.out.2.2.2.2⟩
end Go.Proofs.YtjedgiiplebofaaGreatDoor
