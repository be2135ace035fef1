/- Walks. -/
import Derived.Test.YtmgbhhmipmgcpaaGreatDoorYW41
import Derived.Test.YtmgbhhmipmgcpaaGreatDoorYW42
import Derived.Test.YtmgbhhmipmgcpaaGreatDoorY42
set_option maxHeartbeats 4000000
set_option maxRecDepth 100000
namespace Go.Proofs.YtmgbhhmipmgcpaaGreatDoor
open Go.RowKit Go
set_option linter.unusedVariables false
set_option linter.unusedSimpArgs false
theorem qZ {s : Option (List UInt8)} {n : Nat} (h : ∀ r, s = some r → r.length ≤ n) : (bR s).1.length ≤ n := by
 cases s with
 | none => simp [bR, aW, bX]
 | some r =>
  have hr := h r rfl
  unfold bR
  cases h1 : aK r with
  | none => simp [bM h1, bX]
  | some x =>
   obtain ⟨v, r'⟩ := x
   have h2 := eP h1
   rw [aG h1]
   show (if v ≤ r'.length then (r'.take v, some (r'.drop v)) else ([], none) : List UInt8 × Option (List UInt8)).1.length ≤ n
   split
   ·simp; omega
   ·simp
theorem uW {w0 w1 w2 : World} {rb pb : Nat} (h : Rk (fun b => b = rb ∨ b = pb) w0 w1) (hs : w1.heap.size ≤ w2.heap.size) (ho : w2.os = w1.os ∧ w2.tape = w1.tape ∧ w2.output = w1.output) (hk : ∀ b, b < w1.heap.size → b ≠ pb → b < w0.heap.size → w2.heap[b]? = w1.heap[b]?) : Rk (fun b => b = rb ∨ b = pb) w0 w2 :=
 ⟨ho.1.trans h.os, ho.2.1.trans h.tape, ho.2.2.trans h.output, Nat.le_trans h.size hs, fun b hb hn => (hk b (by have := h.size; omega) (fun e => hn (.inr e)) hb).trans (h.keep b hb hn)⟩
theorem nG (pb rb : Nat) (l : List UInt8) (sv : Value) (s s' : Option (List UInt8)) (f f' : Bool) (p : Ex) (w : World) (hl : l.length ≤ 100000) (h : RdS w pb rb l sv s f) (hp : fu s f = (p, s', f')) :
  Calls Tryz.prog 138 #[.pointer (some ⟨pb, 0, none⟩)] w fun e w' => ∃ v, e = .returned v ∧ ak w' (fun b => w.heap.size ≤ b) true p v ∧ RdS w' pb rb l sv s' f' ∧ Rk (fun b => b = rb ∨ b = pb) w w' := by
 obtain ⟨tx, htx⟩ : ∃ tx, bR s = (tx, s') := by unfold fu at hp; simp only [Prod.mk.injEq] at hp; exact ⟨(bR s).1, by rw [← hp.2.1]⟩
 have htl : tx.length ≤ 100000 := by
  have := qZ (s := s) (n := 100000) (fun r hr => by have h1 := h.vr; rw [hr] at h1; have := h1.left; omega)
  rw [htx] at this; exact this
 have hpf : p = (aZ tx).getD .zero ∧ f' = (f || (aZ tx).isNone) := by unfold fu at hp; rw [htx] at hp; simp only [Prod.mk.injEq] at hp; exact ⟨hp.1.symm, hp.2.2.symm⟩
 have hb1 : Below w.heap.size w (w.alloc (.cells #[.int .i64 0, .int .u64 0, .int .u64 0, .slice none 0 0] 44)) := br.alloc nl _
 have hz : (w.alloc (.cells #[.int .i64 0, .int .u64 0, .int .u64 0, .slice none 0 0] 44)).heap[w.heap.size]? = some (.cells #[.int .i64 0, .int .u64 0, .int .u64 0, .slice none 0 0] 44 (0, 0)) := aa _ _ _ rfl
 have hr1 := h.below hb1
 have c0 := hr1.c0
 have hplt := h.plt
 have hrlt := h.lt
 have HT := hid (uT rb l sv s _ hr1.vr)
 rw [htx] at HT
 have HH := hid (And.intro hr1 (And.intro hz hb1))
 have HPF := hid hpf
 clear h hp htx hpf hb1 hz hr1
 go_enter Tryz.func138, Tryz.ntmps138
 go_wp2_with fail
 refine HT.out.mono ?_
 rintro e w1 ⟨v1, rfl, hs1, hg1, ho1⟩
 obtain ⟨sa, sc, rfl⟩ := aD ho1
 have hz1 := hg1.size
 simp only [World.size_alloc] at hz1
 have hrd1 := HH.out.1.step hs1 hg1
 have hbx1 : w1.heap[w.heap.size]? = some (.cells #[.int .i64 0, .int .u64 0, .int .u64 0, .slice none 0 0] 44 (0, 0)) := (hg1.keep _ (by simp) (by omega)).trans HH.out.2.1
 have hk1 : Rk (fun b => b = rb ∨ b = pb) w w1 := (Rk.of_below HH.out.2.2).trans' ⟨hg1.os, hg1.tape, hg1.output, hg1.size, fun b hb hn => hg1.keep b hb hn⟩ (fun i _ hi => .inl hi)
 have HP := hid (qx _ true tx _ w1 (ay.of_owns ho1) htl)
 have H1 := hid (And.intro hrd1 (And.intro hbx1 hk1))
 clear hs1 hg1 ho1 hrd1 hbx1 hk1 c0
 go_wp2_with fail
 refine HP.out.mono ?_
 rintro e w2 ⟨v2, rfl, hv2, hb2⟩
 obtain ⟨q0, q1, q2, q3, q4, q5, rfl⟩ := hv2.conc
 have hz2 := hb2.size
 have lp2 : pb < w2.heap.size := by omega
 have hrd2 := H1.out.1.below hb2
 obtain ⟨c1, f1⟩ := hrd2.c1
 have hbx2 : w2.heap[w.heap.size]? = some (.cells #[.int .i64 0, .int .u64 0, .int .u64 0, .slice none 0 0] 44 (0, 0)) := (hb2.block _ (by omega)).trans H1.out.2.1
 have hk2 : Rk (fun b => b = rb ∨ b = pb) w w2 := H1.out.2.2.trans (Rk.of_below hb2)
 have H2 := hid (And.intro hrd2 (And.intro hbx2 (And.intro hk2 hv2)))
 clear hb2 hrd2 hbx2 hk2 hv2
 have hfin : ∀ (fb : Bool) (W4 : World), fb = f' → W4 = (w2.setCell ⟨pb, 1, none⟩ (.bool fb)).alloc (.cells #[.int .i64 q0, .int .u64 q1, .int .u64 q2, .slice q3 q4 q5] 44) →
   W4.heap[w.heap.size]? = some (.cells #[.int .i64 0, .int .u64 0, .int .u64 0, .slice none 0 0] 44 (0, 0)) ∧ W4.heap[w2.heap.size]? = some (.cells #[.int .i64 q0, .int .u64 q1, .int .u64 q2, .slice q3 q4 q5] 44 (0, 0)) ∧ ak (W4.setRow w.heap.size #[.int .i64 q0, .int .u64 q1, .int .u64 q2, .slice q3 q4 q5]) (fun b => w.heap.size ≤ b) true p (.agg #[.int .i64 q0, .int .u64 q1, .int .u64 q2, .slice q3 q4 q5]) ∧ RdS (W4.setRow w.heap.size #[.int .i64 q0, .int .u64 q1, .int .u64 q2, .slice q3 q4 q5]) pb rb l sv s' f' ∧ Rk (fun b => b = rb ∨ b = pb) w (W4.setRow w.heap.size #[.int .i64 q0, .int .u64 q1, .int .u64 q2, .slice q3 q4 q5]) := by
  intro fb W4 hfb hW4
  subst hfb
  have hkp : ∀ b, b < w2.heap.size → b ≠ pb → W4.heap[b]? = w2.heap[b]? := fun b hb hn => by
   rw [hW4]
   exact (ae _ _ _ (by simpa using hb)).trans (Below.heap_setCell _ _ _ _ (by simpa using hn))
  have h0 := H2.out.1.hd
  have hp4 : W4.heap[pb]? = some (.cells #[.pointer (some ⟨rb, 0, none⟩), .bool fb] 96 (0, 0)) := by
   rw [hW4]
   exact (ae _ _ _ (by simp; omega)).trans (af h0 rfl)
  refine ⟨(hkp _ (by omega) (by omega)).trans H2.out.2.1, ?_, ?_, ⟨(setRow_other _ _ _ _ (by omega)).trans hp4, H2.out.1.vr.keep (fun b hb => (setRow_other _ _ _ _ (by omega)).trans (hkp b (by omega) (by omega))), hrlt⟩, ?_⟩
  ·rw [hW4]
   exact aa _ _ _ (by simp)
  ·rw [HPF.out.1]
   refine ak.keep (w := w2) (S := fun b => w1.heap.size ≤ b) (fun b hb hbl => (setRow_other _ _ _ _ (by omega)).trans (hkp b hbl (by omega))) (fun b _ hb => by omega) H2.out.2.2.2
  ·refine Rk.setRow ?_ _ (.inl nl) _
   refine uW H2.out.2.2.1 (by rw [hW4]; simp) (by rw [hW4]; exact ⟨rfl, rfl, rfl⟩) (fun b hb hn _ => hkp b hb hn)
 have HF := hid hfin
 clear hfin
 have hc3 : (f = true) ∨ (f = false ∧ aZ tx = none) ∨ (f = false ∧ (aZ tx).isSome = true) := by
  cases f <;> cases aZ tx <;> simp
 rcases hc3 with hf | ⟨hf, ht⟩ | ⟨hf, ht⟩
 ·subst hf
  have hff : true = f' := by rw [HPF.out.2]; rfl
  have HFF := hid (HF.out true _ hff rfl)
  clear hff
  generalize code (aZ tx) = cd
  go_upto_region 3 with fail
  generalize (w2.setCell ⟨pb, 1, none⟩ (.bool true)).alloc (.cells #[.int .i64 q0, .int .u64 q1, .int .u64 q2, .slice q3 q4 q5] 44) = W4 at HFF ⊢
  have e0 : W4.cell? ⟨w2.heap.size, 0, none⟩ = some (.int .i64 q0) := by rw [cell_of_row W4 _ 0 _ _ _ HFF.out.2.1]; rfl
  have e1 : W4.cell? ⟨w2.heap.size, 1, none⟩ = some (.int .u64 q1) := by rw [cell_of_row W4 _ 1 _ _ _ HFF.out.2.1]; rfl
  have e2 : W4.cell? ⟨w2.heap.size, 2, none⟩ = some (.int .u64 q2) := by rw [cell_of_row W4 _ 2 _ _ _ HFF.out.2.1]; rfl
  have e3 : W4.cell? ⟨w2.heap.size, 3, none⟩ = some (.slice q3 q4 q5) := by rw [cell_of_row W4 _ 3 _ _ _ HFF.out.2.1]; rfl
  go_wp2_with (refine wpList_store_row rfl 44 (.tmp 2) (.tmp 25) rfl rfl w.heap.size rfl #[.int .i64 q0, .int .u64 q1, .int .u64 q2, .slice q3 q4 q5] rfl 44 _ HFF.out.1 (by kernel_rfl) rfl (by simp [Value.oneCell']) ?_)
  exact bodyPost_ret (v := .agg #[.int .i64 q0, .int .u64 q1, .int .u64 q2, .slice q3 q4 q5]) (results_cell_row rfl _ _ w.heap.size 44 _ _ _ rfl (setRow_heap _ _ _ _ _ _ HFF.out.1) Tryz.underlying44 rfl (by kernel_rfl)) rfl ⟨_, rfl, HFF.out.2.2.1, HFF.out.2.2.2.1, HFF.out.2.2.2.2⟩
 ·subst hf
  have hff : true = f' := by rw [HPF.out.2, ht]; rfl
  have HFF := hid (HF.out true _ hff rfl)
  have hcd : code (aZ tx) = 40 := by rw [ht]; rfl
  rw [hcd]
  clear hff ht hcd
  go_upto_region 3 with fail
  generalize (w2.setCell ⟨pb, 1, none⟩ (.bool true)).alloc (.cells #[.int .i64 q0, .int .u64 q1, .int .u64 q2, .slice q3 q4 q5] 44) = W4 at HFF ⊢
  have e0 : W4.cell? ⟨w2.heap.size, 0, none⟩ = some (.int .i64 q0) := by rw [cell_of_row W4 _ 0 _ _ _ HFF.out.2.1]; rfl
  have e1 : W4.cell? ⟨w2.heap.size, 1, none⟩ = some (.int .u64 q1) := by rw [cell_of_row W4 _ 1 _ _ _ HFF.out.2.1]; rfl
  have e2 : W4.cell? ⟨w2.heap.size, 2, none⟩ = some (.int .u64 q2) := by rw [cell_of_row W4 _ 2 _ _ _ HFF.out.2.1]; rfl
  have e3 : W4.cell? ⟨w2.heap.size, 3, none⟩ = some (.slice q3 q4 q5) := by rw [cell_of_row W4 _ 3 _ _ _ HFF.out.2.1]; rfl
  go_wp2_with (refine wpList_store_row rfl 44 (.tmp 2) (.tmp 25) rfl rfl w.heap.size rfl #[.int .i64 q0, .int .u64 q1, .int .u64 q2, .slice q3 q4 q5] rfl 44 _ HFF.out.1 (by kernel_rfl) rfl (by simp [Value.oneCell']) ?_)
  exact bodyPost_ret (v := .agg #[.int .i64 q0, .int .u64 q1, .int .u64 q2, .slice q3 q4 q5]) (results_cell_row rfl _ _ w.heap.size 44 _ _ _ rfl (setRow_heap _ _ _ _ _ _ HFF.out.1) Tryz.underlying44 rfl (by kernel_rfl)) rfl ⟨_, rfl, HFF.out.2.2.1, HFF.out.2.2.2.1, HFF.out.2.2.2.2⟩
 ·subst hf
  have hff : false = f' := by rw [HPF.out.2]; cases h : aZ tx <;> simp [h] at ht ⊢
  have HFF := hid (HF.out false _ hff rfl)
  have hcd : code (aZ tx) = 0 := by cases h : aZ tx with | none => simp [h] at ht | some x => rfl
  rw [hcd]
  clear hff ht hcd
  go_upto_region 3 with fail
  generalize (w2.setCell ⟨pb, 1, none⟩ (.bool false)).alloc (.cells #[.int .i64 q0, .int .u64 q1, .int .u64 q2, .slice q3 q4 q5] 44) = W4 at HFF ⊢
  have e0 : W4.cell? ⟨w2.heap.size, 0, none⟩ = some (.int .i64 q0) := by rw [cell_of_row W4 _ 0 _ _ _ HFF.out.2.1]; rfl
  have e1 : W4.cell? ⟨w2.heap.size, 1, none⟩ = some (.int .u64 q1) := by rw [cell_of_row W4 _ 1 _ _ _ HFF.out.2.1]; rfl
  have e2 : W4.cell? ⟨w2.heap.size, 2, none⟩ = some (.int .u64 q2) := by rw [cell_of_row W4 _ 2 _ _ _ HFF.out.2.1]; rfl
  have e3 : W4.cell? ⟨w2.heap.size, 3, none⟩ = some (.slice q3 q4 q5) := by rw [cell_of_row W4 _ 3 _ _ _ HFF.out.2.1]; rfl
  go_wp2_with (refine wpList_store_row rfl 44 (.tmp 2) (.tmp 25) rfl rfl w.heap.size rfl #[.int .i64 q0, .int .u64 q1, .int .u64 q2, .slice q3 q4 q5] rfl 44 _ HFF.out.1 (by kernel_rfl) rfl (by simp [Value.oneCell']) ?_)
  exact bodyPost_ret (v := .agg #[.int .i64 q0, .int .u64 q1, .int .u64 q2, .slice q3 q4 q5]) (results_cell_row rfl _ _ w.heap.size 44 _ _ _ rfl (setRow_heap _ _ _ _ _ _ HFF.out.1) Tryz.underlying44 rfl (by kernel_rfl)) rfl ⟨_, rfl, HFF.out.2.2.1, HFF.out.2.2.2.1, HFF.out.2.2.2.2⟩
end Go.Proofs.YtmgbhhmipmgcpaaGreatDoor
