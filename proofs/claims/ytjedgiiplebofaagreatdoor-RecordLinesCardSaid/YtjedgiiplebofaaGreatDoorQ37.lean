/- Walks: a copy of a tree; Both; Turn. Ahead of it: Walks: a tree as the reference has it, in new memory. -/
import Derived.Test.YtjedgiiplebofaaGreatDoorQW04h
import Derived.Test.YtjedgiiplebofaaGreatDoorQ19
import Derived.Deep.RegionLaw
import Derived.Deep.AppendLies
import Derived.OneCell
namespace Go.Proofs.YtjedgiiplebofaaGreatDoor
open Go.RowKit Go
set_option linter.unusedVariables false
set_option linter.unusedSimpArgs false
theorem infoRef : (Tryz.prog.info? 38).map (fun i => (i.zero, i.size, i.bytes)) = some (some (.agg #[.int .i64 0, .int .u64 0, .int .u64 0, .slice none 0 0]), 4, 48) := by kernel_rfl
theorem infoPred : (Tryz.prog.info? 28).map (fun i => (i.zero, i.size, i.bytes)) = some (some (.agg #[.int .i64 0, .int .u64 0, .int .u64 0, .slice none 0 0]), 4, 48) := by kernel_rfl
set_option maxHeartbeats 2000000 in
set_option maxRecDepth 100000 in
theorem docExpr_any (d : Nat) : ∀ (S : Nat → Prop) (own : Bool) (e : Ex) (v : Value) (w : World), e.depth ≤ d → d ≤ 1000 → e.size ≤ 1000 → RepE w S own e v →
    Calls Tryz.prog 90 #[v] w fun r w' => (∃ v', r = .returned v' ∧ RepE w' (fun b => w.heap.size ≤ b) true e v') ∧ Below w.heap.size w w' := by
  obtain ⟨i0, hi0, hz0, hz1, hz2⟩ := info_parts infoRef
  induction d with
  | zero => intro S own e v w hd; cases e; simp [Ex.depth] at hd
  | succ d ih =>
    intro S own e v w hd hd2 hsz hrep
    obtain ⟨k, a, b, ps⟩ := e
    simp only [RepE] at hrep
    obtain ⟨s, xs, rfl, hk1, hk2, ha, hb, hs, hes⟩ := hrep
    obtain ⟨hxl, hlen, ad, cap, rfl, hcap⟩ := hs.shape
    have IH := Lib.hid ih
    clear ih hxl
    simp only [Ex.depth, Ex.size] at hd hsz
    have hpl := Ex.length_le_sizes ps
    go_enter Tryz.func90, Tryz.ntmps90
    go_wp2_with fail
    go_loopw [4] (fun i wr => ∃ j : Nat, ∃ sv, j ≤ ps.length ∧ i = .int .i64 j ∧ Below w.heap.size w wr ∧
        wr.heap[w.heap.size]? = some (.cells #[.int .i64 k, .int .u64 a, .int .u64 b, .slice ad ps.length cap] 28 (0, 0)) ∧
        wr.heap[w.heap.size + 1]? = some (.cells #[.int .i64 0, .int .u64 0, .int .u64 0, .slice none 0 0] 38 (0, 0)) ∧
        wr.heap[w.heap.size + 2]? = some (.cells #[.int .i64 k, .int .u64 a, .int .u64 b, sv] 38 (0, 0)) ∧
        Making wr (w.heap.size + 3) 38 sv (ps.take j)) (fun i _ => ps.length - (intOf i).toNat)
    case atStart =>
      refine ⟨0, .slice none 0 0, by omega, rfl, (((Below.refl _ _).alloc (Nat.le_refl _) _).alloc (by simp) _).alloc (by simp; omega) _, ?_, ?_, ?_, Making.nil _ _ _⟩
      · rw [Below.heap_alloc _ _ _ (by simp; omega), Below.heap_alloc _ _ _ (by simp)]; exact heap_alloc_at _ _ _ rfl
      · rw [Below.heap_alloc _ _ _ (by simp)]; exact heap_alloc_at _ _ _ (by simp)
      · exact heap_alloc_at _ _ _ (by simp)
    case round =>
      obtain ⟨j, sv, hj, rfl, hbel, hh0, hh1, hh2, ys, hown, hey⟩ := hrel
      have hm : ps.length ≤ 1000 := by omega
      have c0 : wr.cell? ⟨w.heap.size, 3, none⟩ = some (.slice ad ps.length cap) := by rw [cell_of_row wr _ 3 _ _ _ hh0]; rfl
      have hsz3 : w.heap.size + 2 < wr.heap.size := (Array.getElem?_eq_some_iff.1 hh2).1
      by_cases hlt : j < ps.length
      · obtain ⟨bl, off, k', a', b', ad', n', cap', rfl, _, g0, g1, g2, g3, _, ge⟩ := (hes.below hbel (Nat.le_refl _)).part (hs.below (by omega) hbel (Nat.le_refl _)) j hlt
        have hdj := Ex.depths_ge ps j hlt
        have hsj := Ex.sizes_ge ps j hlt
        have c2 : wr.cell? ⟨w.heap.size + 2, 3, none⟩ = some sv := by rw [cell_of_row wr _ 3 _ _ _ hh2]; rfl
        have f2 : wr.frozen? ⟨w.heap.size + 2, 3, none⟩ = false := by rw [frozen_of_row wr _ 3 _ _ hh2]
        have l0 : w.heap.size < wr.heap.size := by omega
        have l1 : bl < wr.heap.size := World.block_lt_of_cell? wr _ g0
        have x1 : (0 : Int) ≤ (j : Int) := by omega
        have x2 : (j : Int) < (ps.length : Int) := by omega
        have HH := Lib.hid (And.intro hh0 (And.intro hh1 hh2))
        clear hh0 hh1 hh2
        have hlj : (ps.take j).length = j := by simp; omega
        rw [hlj] at hown
        clear hlj
        obtain ⟨sa, sc, rfl⟩ := owns_slice hown
        have hob := hown.lt
        have hsz4 : w.heap.size + 1 + 1 < wr.heap.size := by omega
        go_wp2_with fail
        go_region_law (first
          | (go_simp; go_at_call 90; refine (IH.out _ _ ps[j] _ _ (by omega) (by omega) (by omega) (ge.below (Below.refl _ _).drew (Nat.le_refl _))).mono ?_; rintro e w1 ⟨⟨v', rfl, hv'⟩, hb1⟩; obtain ⟨hc1, hf1⟩ := bcell hb1; have hzw : w.heap.size + 1 + 1 < w1.heap.size := (by have := hb1.size; simp at this; omega); have hx1 : w1.cell? ⟨w.heap.size + 1 + 1, 3, none⟩ = some (.slice sa j sc) := ((hb1.cell hsz4).trans c2); obtain ⟨q0, q1, q2, q3, q4, q5, rfl⟩ := hv'.conc)
          | (refine step_append_lies _ (by rfl) (.tmp 20) (.tmp 27) 36 (by rfl) (w.heap.size + 3) 38 i0 _ 4 48 Tryz.underlying36 hi0 hz0 hz1 hz2 rfl (by omega) (.slice sa j sc) j ys (by rfl) ((ownsRow_below hown (Below.drew (Below.refl _ _) |>.trans hb1) (Nat.le_refl _)).alloc _)
               ⟨w1.heap.size, 0, none⟩ 1 1 [.int .i64 q0, .int .u64 q1, .int .u64 q2, .slice q3 q4 q5] (by rfl) (by rfl) (World.news_of_block (cs := #[.int .i64 q0, .int .u64 q1, .int .u64 q2, .slice q3 q4 q5]) (t := 38) (fr := (0, 0)) (heap_alloc_new w1 _)) (by simp [Value.oneCell'])
               (by omega) (by unfold maxLen; omega) (by omega) (by have := hb1.size; simp at this ⊢; omega) (w1.heap.size + 1) (by simp) ?_; intro gg gcap w2 hown2 hgrow hat hlt2
             have hne : some (w.heap.size + 2) ≠ (Value.slice sa j sc).ownBlock := fun e => (by have := hob _ e.symm; omega)
             have hzz : w.heap.size + 2 < w1.heap.size := (by have := hb1.size; simp at this; omega)
             have c5 : w2.cell? ⟨w.heap.size + 2, 3, none⟩ = some (.slice sa j sc) := (by rw [hgrow.cell_far _ (by simp; omega) hne, World.cell?_alloc_past _ _ _ hzz, hc1 _ _ hsz3]; exact c2)
             have f5 : w2.frozen? ⟨w.heap.size + 2, 3, none⟩ = false := (by rw [hgrow.frozen_far _ (by simp; omega) hne, World.frozen?_alloc_past _ _ _ hzz, hf1 _ _ hsz3]; exact f2)))
        all_goals
          have HR : Hid (Making w2 (w.heap.size + 3) 38 (.slice (some ⟨gg, 0, none⟩) (j + 1) gcap) (ps.take (j + 1)) ∧ Below w.heap.size w w2 ∧
              w2.heap[w.heap.size]? = some (.cells #[.int .i64 k, .int .u64 a, .int .u64 b, .slice (some ⟨bl, off, none⟩) ps.length cap] 28 (0, 0)) ∧
              w2.heap[w.heap.size + 1]? = some (.cells #[.int .i64 0, .int .u64 0, .int .u64 0, .slice none 0 0] 38 (0, 0)) ∧
              w2.heap[w.heap.size + 2]? = some (.cells #[.int .i64 k, .int .u64 a, .int .u64 b, .slice sa j sc] 38 (0, 0))) := by
            have hb1' : Below wr.heap.size wr w1 := (Below.refl _ _).drew.trans hb1
            have hlj : (ps.take j).length = j := by simp; omega
            refine Lib.hid ⟨?_, ?_, ?_, ?_, ?_⟩
            · rw [take_snoc ps j hlt]
              have hm := Making.push (es := ps.take j) (by rw [hlj]; exact hown) hey (by omega) hb1' (Nat.le_refl _) hv' hgrow (by rw [hlj]; exact hown2) hat
              rw [hlj] at hm; exact hm
            · exact Below.grown' (base := w.heap.size + 3) (hbel.trans (hb1'.mono (by omega))) hgrow (fun k hk => by have := hob k hk; have := hb1'.size; omega) (by have := hb1'.size; omega) (by omega)
            · rw [heap_far hb1' (by omega) (by omega) hgrow (fun e => by have := hob _ e.symm; omega)]; exact HH.out.1
            · rw [heap_far hb1' (by omega) (by omega) hgrow (fun e => by have := hob _ e.symm; omega)]; exact HH.out.2.1
            · rw [heap_far hb1' (by omega) (by omega) hgrow (fun e => by have := hob _ e.symm; omega)]; exact HH.out.2.2
          clear hown2 hgrow hat c5 f5 hne hv' hey hown hc1 hf1 hx1
          go_wp2_with fail
          go_roundw
          case rel =>
            obtain ⟨r1, r2, r3, r4, r5⟩ := HR.out
            refine ⟨j + 1, .slice (some ⟨gg, 0, none⟩) (j + 1) gcap, by omega, by go_num, r2.setCell (by first | omega | (simp; done) | (simp; omega)) _, ?_, ?_, heap_set_at r5 (by simp), r1.setCell _ (by first | omega | (simp; done) | (simp; omega)) _⟩
            · rw [Below.heap_setCell _ _ _ _ (by first | omega | (simp; done) | (simp; omega))]; exact r3
            · rw [Below.heap_setCell _ _ _ _ (by first | omega | (simp; done) | (simp; omega))]; exact r4
          case measure => simp [intOf]; omega
      · have hj2 : j = ps.length := by omega
        subst hj2
        rw [List.take_length] at hown hey
        obtain ⟨sa, sc, rfl⟩ := owns_slice hown
        obtain ⟨zs, hz1, hz2⟩ := Making.sl ⟨ys, hown, hey⟩
        have e0 : wr.cell? ⟨w.heap.size + 1 + 1, 0, none⟩ = some (.int .i64 k) := by rw [cell_of_row wr _ 0 _ _ _ hh2]; rfl
        have e1 : wr.cell? ⟨w.heap.size + 1 + 1, 1, none⟩ = some (.int .u64 a) := by rw [cell_of_row wr _ 1 _ _ _ hh2]; rfl
        have e2 : wr.cell? ⟨w.heap.size + 1 + 1, 2, none⟩ = some (.int .u64 b) := by rw [cell_of_row wr _ 2 _ _ _ hh2]; rfl
        have e3 : wr.cell? ⟨w.heap.size + 1 + 1, 3, none⟩ = some (.slice sa ps.length sc) := by rw [cell_of_row wr _ 3 _ _ _ hh2]; rfl
        have HZ := Lib.hid (And.intro hz1 (And.intro hz2 (And.intro hh1 hbel)))
        clear hh0 hh1 hh2 hz1 hz2 hown hey
        go_wp2_with (refine wpList_store_row rfl 38 (.tmp 2) (.tmp 30) rfl rfl (w.heap.size + 1) rfl _ rfl 38 #[.int .i64 0, .int .u64 0, .int .u64 0, .slice none 0 0] HZ.out.2.2.1 (by kernel_rfl) rfl (by simp [Value.oneCell']) ?_)
        have hlt1 : w.heap.size + 1 < wr.heap.size := by omega
        refine bodyPost_ret (v := .agg #[.int .i64 k, .int .u64 a, .int .u64 b, .slice sa ps.length sc]) (results_cell_row rfl _ _ (w.heap.size + 1) 38 _ _ _ rfl (setRow_heap _ _ _ _ _ _ HZ.out.2.2.1) Tryz.underlying38 rfl (by kernel_rfl)) rfl
          ⟨⟨_, rfl, ?_⟩, below_setRow HZ.out.2.2.2 _ _ (by omega)⟩
        have hkeep : Keeps (fun b => w.heap.size + 3 ≤ b) wr (wr.setRow (w.heap.size + 1) #[.int .i64 k, .int .u64 a, .int .u64 b, .slice sa ps.length sc]) := fun b hb _ => setRow_other _ _ _ _ (by omega)
        simp only [RepE]
        exact ⟨_, zs, rfl, hk1, hk2, ha, hb, HZ.out.1.keep (by omega) hkeep (fun _ _ h => by omega), RepEs.keep hkeep (fun _ _ h => by omega) HZ.out.2.1⟩
end Go.Proofs.YtjedgiiplebofaaGreatDoor
namespace Go.Proofs.YtjedgiiplebofaaGreatDoor
open Go.RowKit Go
set_option linter.unusedVariables false
set_option linter.unusedSimpArgs false
end Go.Proofs.YtjedgiiplebofaaGreatDoor
