/- Walks: the reference's Same of certificates. Ahead of it: Walks: rows copied, certificates made of them. Walks: a certificate's size asked; its parts written over; as the reference has it. Walks: a certificate as the reference has it. Walks: rows held against each other; certificates. -/
import Derived.Test.YtkpfbalkhlidgaaGreatDoorU8
import Derived.Test.YtkpfbalkhlidgaaGreatDoorUW02
import Derived.Test.YtkpfbalkhlidgaaGreatDoorU21
import Derived.Test.YtkpfbalkhlidgaaGreatDoorUG06
import Derived.Test.YtkpfbalkhlidgaaGreatDoorU3
import Derived.Deep.RegionHeld3
import Derived.Laws.Rows
import Derived.Laws.StructEq
namespace Go.Proofs.YtkpfbalkhlidgaaGreatDoor
open Go.RowKit Go
set_option linter.unusedVariables false
set_option linter.unusedSimpArgs false
theorem infoInt : (Tryz.prog.info? 3).map (fun i => (i.zero, i.size, i.bytes)) = some (some (.int .i64 0), 1, 8) := by kernel_rfl
theorem infoEd : (Tryz.prog.info? 59).map (fun i => (i.zero, i.size, i.bytes)) = some (some (.agg #[.int .i64 0, .int .i64 0, .int .i64 0, .int .u64 0, .int .u64 0, .int .u64 0, .int .u64 0, .int .u64 0, .int .i64 0]), 9, 72) := by kernel_rfl
theorem keeps_setRow {S : Nat → Prop} {w : World} {g : Nat} {cs : Array Value} (h : ¬ S g) : Keeps S w (w.setRow g cs) := fun b hb _ => setRow_other _ _ _ _ (fun e => h (e ▸ hb))
theorem ownsRow_none (w : World) (base sz : Nat) (T : TypeId) (hb : base ≤ w.heap.size) : (w.alloc (.cells #[] T)).ownsRow base T sz (.slice (some ⟨w.heap.size, 0, none⟩) 0 0) 0 [] :=
  ⟨by simp, .inr ⟨w.heap.size, 0, #[], rfl, hb, heap_alloc_new _ _, Nat.le_refl _, by unfold maxLen; omega, by simp, by simp⟩⟩
set_option maxRecDepth 100000 in
theorem cloneInts_any (S : Nat → Prop) (own : Bool) (l : List Int) (v : Value) (w : World) (hr : RepI w S own l v) (h47 : l.length ≤ 100000000) :
    Calls Tryz.prog 64 #[v] w fun e w' => ∃ v', e = .returned v' ∧ w'.ownsRow w.heap.size 3 1 v' l.length (ints l) ∧ Below w.heap.size w w' := by
  obtain ⟨i0, hi0, hz0, hz1, hz2⟩ := info_parts infoInt
  have hl := hr.2.1
  have HR := Lib.hid hr
  obtain ⟨_, _, ad, cap, rfl, hc⟩ := Sl.shape hr
  clear hr
  have hn := @Lib.run_eql_slice_nil Tryz.prog
  cases ad with
  | none =>
    have hl0 : l = [] := by
      rcases Nat.eq_zero_or_pos l.length with h | h
      · exact List.eq_nil_of_length_eq_zero h
      · obtain ⟨_, _, h1, _⟩ := Sl.cells HR.out h; cases h1
    subst hl0
    go_enter Tryz.func64, Tryz.ntmps64
    go_wp2_with fail
    go_ret
    exact ⟨_, rfl, World.ownsRow_nil _ _ _ _, Below.refl _ _⟩
  | some a =>
    have HS := Lib.hid (Sl.below HR.out (by omega) ((Below.refl _ _).alloc (Nat.le_refl _) (.cells #[] 3)) (Nat.le_refl _))
    have H0 := Lib.hid (ownsRow_none w w.heap.size 1 3 (Nat.le_refl _))
    go_enter Tryz.func64, Tryz.ntmps64
    go_wp2_with (at_builtin; refine wpList_append_sl _ rfl (.tmp 5) (.tmp 6) _ rfl w.heap.size 3 i0 _ 1 8 Tryz.underlying25 hi0 hz0 hz1 hz2 rfl (by omega) _ 0 [] rfl H0.out _ _ l.length (ints l) _ rfl HS.out (ints_one _) (by unfold maxLen; omega) (by omega) (by simp) ?_; intro v' w2 hown2 hgrow hat)
    go_ret
    exact ⟨v', rfl, by simpa using hown2, ((Below.refl _ _).alloc (Nat.le_refl _) _).grown hgrow (by simp) (fun k hk => by cases hk; exact Nat.le_refl _)⟩
set_option maxRecDepth 100000 in
theorem cloneEds_any (S : Nat → Prop) (own : Bool) (l : List Ed) (v : Value) (w : World) (hr : RepW w S own l v) (h47 : l.length ≤ 100000000) :
    Calls Tryz.prog 65 #[v] w fun e w' => ∃ v', e = .returned v' ∧ w'.ownsRow w.heap.size 59 9 v' l.length (edVs l) ∧ Below w.heap.size w w' := by
  obtain ⟨i0, hi0, hz0, hz1, hz2⟩ := info_parts infoEd
  have hl := hr.2.1
  have HR := Lib.hid hr
  obtain ⟨_, _, ad, cap, rfl, hc⟩ := Sl.shape hr
  clear hr
  have hn := @Lib.run_eql_slice_nil Tryz.prog
  cases ad with
  | none =>
    have hl0 : l = [] := by
      rcases Nat.eq_zero_or_pos l.length with h | h
      · exact List.eq_nil_of_length_eq_zero h
      · obtain ⟨_, _, h1, _⟩ := Sl.cells HR.out h; cases h1
    subst hl0
    go_enter Tryz.func65, Tryz.ntmps65
    go_wp2_with fail
    go_ret
    exact ⟨_, rfl, World.ownsRow_nil _ _ _ _, Below.refl _ _⟩
  | some a =>
    have HS := Lib.hid (Sl.below HR.out (by omega) ((Below.refl _ _).alloc (Nat.le_refl _) (.cells #[] 59)) (Nat.le_refl _))
    have H0 := Lib.hid (ownsRow_none w w.heap.size 9 59 (Nat.le_refl _))
    go_enter Tryz.func65, Tryz.ntmps65
    go_wp2_with (at_builtin; refine wpList_append_sl _ rfl (.tmp 5) (.tmp 6) _ rfl w.heap.size 59 i0 _ 9 72 Tryz.underlying33 hi0 hz0 hz1 hz2 rfl (by omega) _ 0 [] rfl H0.out _ _ l.length (edVs l) _ rfl HS.out (edVs_one _) (by unfold maxLen; omega) (by omega) (by simp) ?_; intro v' w2 hown2 hgrow hat)
    go_ret
    exact ⟨v', rfl, by simpa using hown2, ((Below.refl _ _).alloc (Nat.le_refl _) _).grown hgrow (by simp) (fun k hk => by cases hk; exact Nat.le_refl _)⟩
set_option maxRecDepth 100000 in
theorem certOf_any (S : Nat → Prop) (own : Bool) (l : List Int) (v : Value) (w : World) (hr : RepI w S own l v) (h47 : l.length ≤ 100000000) :
    Calls Tryz.prog 26 #[v] w (GivesC w ⟨1, l, 0, 0, []⟩) := by
  have HC := Lib.hid (cloneInts_any S own l v _ (hr.below ((Below.refl _ _).alloc (Nat.le_refl _) (.cells #[.int .i64 0, .slice none 0 0, .int .i64 0, .int .i64 0, .slice none 0 0] 35)) (Nat.le_refl _)) h47)
  have h0 := heap_alloc_new w (.cells #[.int .i64 0, .slice none 0 0, .int .i64 0, .int .i64 0, .slice none 0 0] 35)
  have hb0 : Below w.heap.size w (w.alloc (.cells #[.int .i64 0, .slice none 0 0, .int .i64 0, .int .i64 0, .slice none 0 0] 35)) := (Below.refl _ _).alloc (Nat.le_refl _) _
  have hs0 : (w.alloc (.cells #[.int .i64 0, .slice none 0 0, .int .i64 0, .int .i64 0, .slice none 0 0] 35)).heap.size = w.heap.size + 1 := World.size_alloc _ _
  have H0 := Lib.hid (And.intro h0 (And.intro hb0 hs0))
  clear h0 hb0 hs0 hr
  go_enter Tryz.func26, Tryz.ntmps26
  go_wp2_with fail
  refine HC.out.mono ?_
  rintro e w1 ⟨v1, rfl, hown1, hb1⟩
  obtain ⟨h0, hb0, hs0⟩ := H0.out
  have g0 : w1.heap[w.heap.size]? = some (.cells #[.int .i64 0, .slice none 0 0, .int .i64 0, .int .i64 0, .slice none 0 0] 35 (0, 0)) := (hb1.block _ (by omega)).trans h0
  obtain ⟨ad, cap, rfl⟩ := owns_slice hown1
  have H1 := Lib.hid (And.intro hown1 (hb0.trans (hb1.mono (by omega))))
  have hz1 := hb1.size
  clear hown1 hb1 hb0 h0
  go_wp2_with (refine wpList_store_row rfl 35 (.tmp 2) (.tmp 5) rfl rfl w.heap.size rfl _ rfl 35 _ g0 (by kernel_rfl) rfl (by simp [Value.oneCell']) ?_)
  refine bodyPost_ret (v := .agg #[.int .i64 1, .slice ad l.length cap, .int .i64 0, .int .i64 0, .slice none 0 0]) (results_cell_row rfl _ _ w.heap.size 35 _ _ _ rfl (setRow_heap _ _ _ _ _ _ g0) Tryz.underlying35 rfl (by kernel_rfl)) rfl ⟨_, rfl, ⟨_, _, rfl, ((RepI.of_owns H1.out.1).keep (keeps_setRow (g := w.heap.size) (fun h => by have h : _ ≤ w.heap.size := h; omega)) (fun b _ hb => by have hb : _ ≤ b := hb; omega)), RepW.nil _ _ _⟩, below_setRow H1.out.2 _ _ (Nat.le_refl _)⟩
set_option maxRecDepth 100000 in
theorem certRound_any (S : Nat → Prop) (own : Bool) (l : List Ed) (v : Value) (w : World) (hr : RepW w S own l v) (h47 : l.length ≤ 100000000) :
    Calls Tryz.prog 27 #[v] w (GivesC w ⟨4, [], 0, 0, l⟩) := by
  have HC := Lib.hid (cloneEds_any S own l v _ (hr.below ((Below.refl _ _).alloc (Nat.le_refl _) (.cells #[.int .i64 0, .slice none 0 0, .int .i64 0, .int .i64 0, .slice none 0 0] 35)) (Nat.le_refl _)) h47)
  have h0 := heap_alloc_new w (.cells #[.int .i64 0, .slice none 0 0, .int .i64 0, .int .i64 0, .slice none 0 0] 35)
  have hb0 : Below w.heap.size w (w.alloc (.cells #[.int .i64 0, .slice none 0 0, .int .i64 0, .int .i64 0, .slice none 0 0] 35)) := (Below.refl _ _).alloc (Nat.le_refl _) _
  have hs0 : (w.alloc (.cells #[.int .i64 0, .slice none 0 0, .int .i64 0, .int .i64 0, .slice none 0 0] 35)).heap.size = w.heap.size + 1 := World.size_alloc _ _
  have H0 := Lib.hid (And.intro h0 (And.intro hb0 hs0))
  clear h0 hb0 hs0 hr
  go_enter Tryz.func27, Tryz.ntmps27
  go_wp2_with fail
  refine HC.out.mono ?_
  rintro e w1 ⟨v1, rfl, hown1, hb1⟩
  obtain ⟨h0, hb0, hs0⟩ := H0.out
  have g0 : w1.heap[w.heap.size]? = some (.cells #[.int .i64 0, .slice none 0 0, .int .i64 0, .int .i64 0, .slice none 0 0] 35 (0, 0)) := (hb1.block _ (by omega)).trans h0
  obtain ⟨ad, cap, rfl⟩ := owns_slice hown1
  have H1 := Lib.hid (And.intro hown1 (hb0.trans (hb1.mono (by omega))))
  have hz1 := hb1.size
  clear hown1 hb1 hb0 h0
  go_wp2_with (refine wpList_store_row rfl 35 (.tmp 2) (.tmp 5) rfl rfl w.heap.size rfl _ rfl 35 _ g0 (by kernel_rfl) rfl (by simp [Value.oneCell']) ?_)
  refine bodyPost_ret (v := .agg #[.int .i64 4, .slice none 0 0, .int .i64 0, .int .i64 0, .slice ad l.length cap]) (results_cell_row rfl _ _ w.heap.size 35 _ _ _ rfl (setRow_heap _ _ _ _ _ _ g0) Tryz.underlying35 rfl (by kernel_rfl)) rfl ⟨_, rfl, ⟨_, _, rfl, RepI.nil _ _ _, ((RepW.of_owns H1.out.1).keep (keeps_setRow (g := w.heap.size) (fun h => by have h : _ ≤ w.heap.size := h; omega)) (fun b _ hb => by have hb : _ ≤ b := hb; omega))⟩, below_setRow H1.out.2 _ _ (Nat.le_refl _)⟩
end Go.Proofs.YtkpfbalkhlidgaaGreatDoor
namespace Go.Proofs.YtkpfbalkhlidgaaGreatDoor
open Go.RowKit Go
set_option linter.unusedVariables false
set_option linter.unusedSimpArgs false
theorem infoEdR : (Tryz.prog.info? 98).map (fun i => (i.zero, i.size, i.bytes)) = some (some (.agg #[.int .i64 0, .int .i64 0, .int .i64 0, .int .u64 0, .int .u64 0, .int .u64 0, .int .u64 0, .int .u64 0, .int .i64 0]), 9, 72) := by kernel_rfl
/-- What a walk that writes cells of S over leaves. -/
structure Sp (W : World) (bx B : Nat) (row : Array Value) (T : TypeId) (S : Nat → Prop) (wr : World) : Prop where
  bel : Below B W wr
  keep : Keeps (fun b => ¬ S b) W wr
  fro : ∀ b o, wr.frozen? ⟨b, o, none⟩ = W.frozen? ⟨b, o, none⟩
  sm : ∀ a, (wr.cell? a).isSome = (W.cell? a).isSome
  box : wr.heap[bx]? = some (.cells row T (0, 0))
theorem Sp.set {W : World} {bx B : Nat} {row : Array Value} {T : TypeId} {S : Nat → Prop} {wr : World} (h : Sp W bx B row T S wr) {bl off : Nat} (hS : S bl) (hB : B ≤ bl) (hx : bl ≠ bx) {u : Value} (hu : wr.cell? ⟨bl, off, none⟩ = some u) (v : Value) : Sp W bx B row T S (wr.setCell ⟨bl, off, none⟩ v) := by
  refine ⟨h.bel.setCell (by simp; omega) _, h.keep.trans h.bel.size (fun b hb _ => Below.heap_setCell _ _ _ _ (fun e => hb (by rw [e]; exact hS))), fun b o => ?_, fun a => ?_, ?_⟩
  · rw [World.frozen?_setCell]; exact h.fro b o
  · by_cases e : (⟨bl, off, none⟩ : Addr) = a
    · subst e; rw [World.cell?_setCell_same _ _ _ hu, ← h.sm, hu]; rfl
    · rw [World.cell?_setCell_other _ _ _ _ e]; exact h.sm a
  · rw [Below.heap_setCell _ _ _ _ (fun e => hx e.symm)]; exact h.box
set_option maxHeartbeats 1000000 in
set_option maxRecDepth 100000 in
theorem spoilCert_any (B : Nat) (S : Nat → Prop) (hSB : ∀ b, S b → B ≤ b) (c : Crt) (v : Value) (w : World) (hBN : B ≤ w.heap.size) (hr : RepC w S true c v) :
    Calls Tryz.prog 14 #[v] w fun e w' => e = .returned (.tuple #[]) ∧ Below B w w' ∧ Keeps (fun b => ¬ S b) w w' := by
  obtain ⟨ad, cp, ad', cp', rfl, ho, hw, l1, l2, _, _⟩ := hr.shape
  have h0 := heap_alloc_new w (.cells #[.int .i64 c.k, .slice ad c.o.length cp, .int .i64 c.p, .int .i64 c.q, .slice ad' c.w.length cp'] 35)
  have hb0 : Below w.heap.size w (w.alloc (.cells #[.int .i64 c.k, .slice ad c.o.length cp, .int .i64 c.p, .int .i64 c.q, .slice ad' c.w.length cp'] 35)) := (Below.refl _ _).alloc (Nat.le_refl _) _
  have ho' := ho.below hb0 (Nat.le_refl _)
  have hw' := hw.below hb0 (Nat.le_refl _)
  have hlo : ∀ (hn : 0 < c.o.length), ∃ bl off, ad = some ⟨bl, off, none⟩ ∧ bl < w.heap.size := fun hn => by obtain ⟨bl, off, h1, _, h2, _⟩ := ho.cell hn; exact ⟨bl, off, h1, h2⟩
  have hlw : ∀ (hn : 0 < c.w.length), ∃ bl off, ad' = some ⟨bl, off, none⟩ ∧ bl < w.heap.size := fun hn => by obtain ⟨bl, off, h1, _, h2, _⟩ := hw.cell hn; exact ⟨bl, off, h1, h2⟩
  clear hr ho hw
  have HW := Lib.hid hb0
  have HO := Lib.hid (And.intro ho' hlo)
  have HV := Lib.hid (And.intro hw' hlw)
  have HS := Lib.hid hSB
  clear hb0 ho' hw' hlo hlw hSB
  go_enter Tryz.func14, Tryz.ntmps14
  go_upto_region 1 with fail
  generalize w.alloc (.cells #[.int .i64 c.k, .slice ad c.o.length cp, .int .i64 c.p, .int .i64 c.q, .slice ad' c.w.length cp'] 35) = W at h0 HW HO HV ⊢
  have hW0 : Sp W w.heap.size B #[.int .i64 c.k, .slice ad c.o.length cp, .int .i64 c.p, .int .i64 c.q, .slice ad' c.w.length cp'] 35 S W := ⟨Below.refl _ _, fun _ _ _ => rfl, fun _ _ => rfl, fun _ => rfl, h0⟩
  clear h0
  go_wp2_with fail
  go_loopw [2] (fun i wr => ∃ j : Nat, j ≤ c.o.length ∧ i = .int .i64 j ∧ Hid (Sp W w.heap.size B #[.int .i64 c.k, .slice ad c.o.length cp, .int .i64 c.p, .int .i64 c.q, .slice ad' c.w.length cp'] 35 S wr)) (fun i _ => c.o.length - (intOf i).toNat)
  case atStart => exact ⟨0, by omega, rfl, Lib.hid hW0⟩
  case round =>
    obtain ⟨j, hj, rfl, hsp⟩ := hrel
    have c1 : wr.cell? ⟨w.heap.size, 1, none⟩ = some (.slice ad c.o.length cp) := by rw [cell_of_row wr _ 1 _ _ _ hsp.out.box]; rfl
    by_cases hlt : j < c.o.length
    · obtain ⟨bl, off, rfl, hS, _, hcell⟩ := HO.out.1.cell (by omega)
      obtain ⟨_, _, e0, hbl⟩ := HO.out.2 (by omega)
      injection e0 with e0; injection e0 with e0 e1; subst e0 e1
      obtain ⟨g, gf⟩ := hcell j hlt
      have q : (wr.cell? ⟨bl, off + j, none⟩).isSome = true := by rw [hsp.out.sm, g]; rfl
      obtain ⟨u, hu⟩ := Option.isSome_iff_exists.1 q
      have f : wr.frozen? ⟨bl, off + j, none⟩ = false := by rw [hsp.out.fro]; exact gf rfl
      have HN := Lib.hid (hsp.out.set hS (HS.out bl hS) (by omega) hu (.int .i64 77))
      clear hcell q g gf hsp
      go_wp2_with fail
      go_roundw
      case rel => exact ⟨j + 1, by omega, by go_num, HN⟩
      case measure => simp [intOf]; omega
    · clear hW0
      go_wp2_with fail
      go_loopw [3] (fun i wr => ∃ j : Nat, j ≤ c.w.length ∧ i = .int .i64 j ∧ Hid (Sp W w.heap.size B #[.int .i64 c.k, .slice ad c.o.length cp, .int .i64 c.p, .int .i64 c.q, .slice ad' c.w.length cp'] 35 S wr)) (fun i _ => c.w.length - (intOf i).toNat)
      case atStart => exact ⟨0, by omega, rfl, hsp⟩
      case round =>
        obtain ⟨j2, hj2, rfl, hsp2⟩ := hrel
        have c4 : wr.cell? ⟨w.heap.size, 4, none⟩ = some (.slice ad' c.w.length cp') := by rw [cell_of_row wr _ 4 _ _ _ hsp2.out.box]; rfl
        by_cases hlt2 : j2 < c.w.length
        · obtain ⟨bl, off, rfl, hS, _, hcell⟩ := HV.out.1.cell (by omega)
          obtain ⟨_, _, e0, hbl⟩ := HV.out.2 (by omega)
          injection e0 with e0; injection e0 with e0 e1; subst e0 e1
          obtain ⟨⟨_, _, _, _, _, _, _, _, g⟩, gf⟩ := hcell j2 hlt2
          have q : (wr.cell? ⟨bl, off + j2 * 9 + 8, none⟩).isSome = true := by rw [hsp2.out.sm, g]; rfl
          obtain ⟨u, hu⟩ := Option.isSome_iff_exists.1 q
          have f : wr.frozen? ⟨bl, off + j2 * 9 + 8, none⟩ = false := by rw [hsp2.out.fro]; exact gf rfl 8 (by omega)
          have HN := Lib.hid (hsp2.out.set hS (HS.out bl hS) (by omega) hu (.int .i64 77))
          clear hcell q g gf hsp2 hsp
          go_wp2_with fail
          go_roundw
          case rel => exact ⟨j2 + 1, by omega, by go_num, HN⟩
          case measure => simp [intOf]; omega
        · have HE := Lib.hid (And.intro ((HW.out.mono hBN).trans hsp2.out.bel) (fun b (hb : ¬ S b) (hl : b < w.heap.size) => (hsp2.out.keep b hb (by have := HW.out.size; omega)).trans (HW.out.block b hl)))
          clear hsp hsp2
          go_wp2_with fail
          go_end0
          exact ⟨rfl, HE.out.1, HE.out.2⟩
theorem sl_lit1 (w : World) (cs : Array Value) (T : TypeId) (sz : Nat) (hs : cs.size = sz) (h0 : 0 < sz) : Sl (w.alloc (.cells cs T)) (fun _ => True) true sz 1 cs.toList (.slice (some ⟨w.heap.size, 0, none⟩) 1 1) := by
  refine ⟨by simp [hs], by omega, _, _, rfl, Nat.le_refl _, fun _ => ⟨_, _, rfl, trivial, fun j hj => ?_⟩⟩
  have hj2 : j < cs.size := by simpa using hj
  rw [cell_of_row _ _ (0 + j) cs T (0, 0) (heap_alloc_new w _), frozen_of_row _ _ (0 + j) cs T (heap_alloc_new w _)]
  simp [hj2]
set_option maxHeartbeats 1000000 in
set_option maxRecDepth 100000 in
theorem itemEdges_any (S : Nat → Prop) (own : Bool) (l : List Ed) (v : Value) (w : World) (hr : RepW w S own l v) (hn : ∀ e ∈ l, e.nums) (hl : l.length ≤ 100000) (hL : Lq w.heap.size w) :
    Calls Tryz.prog 45 #[v] w fun e w' => ∃ v', e = .returned v' ∧ w'.ownsRow w.heap.size 98 9 v' l.length (edVs l) ∧ Below w.heap.size w w' := by
  obtain ⟨i0, hi0, hz0, hz1, hz2⟩ := info_parts infoEdR
  obtain ⟨_, _, ad, cap, rfl, hc⟩ := Sl.shape hr
  have HR := Lib.hid (And.intro hr (And.intro hn hL))
  clear hr hn hL
  go_enter Tryz.func45, Tryz.ntmps45
  go_wp2_with fail
  go_loopw [3, 4] (fun sv i wr => ∃ j : Nat, j ≤ l.length ∧ i = .int .i64 j ∧ wr.ownsRow w.heap.size 98 9 sv j (edVs (l.take j)) ∧ Below w.heap.size w wr) (fun _ i _ => l.length - (intOf i).toNat)
  case atStart => exact ⟨0, by omega, rfl, World.ownsRow_nil _ _ _ _, Below.refl _ _⟩
  case round =>
    obtain ⟨j, hj, rfl, hown, hbel⟩ := hrel
    by_cases hlt : j < l.length
    · obtain ⟨bl, off, rfl, _, hbl, hcell⟩ := HR.out.1.cell (by omega)
      obtain ⟨⟨g0, g1, g2, g3, g4, g5, g6, g7, g8⟩, _⟩ := hcell j hlt
      have q0 := (hbel.cell (p := ⟨bl, off + j * 9, none⟩) hbl).trans g0
      have q1 := (hbel.cell (p := ⟨bl, off + j * 9 + 1, none⟩) hbl).trans g1
      have q2 := (hbel.cell (p := ⟨bl, off + j * 9 + 2, none⟩) hbl).trans g2
      have q3 := (hbel.cell (p := ⟨bl, off + j * 9 + 3, none⟩) hbl).trans g3
      have q4 := (hbel.cell (p := ⟨bl, off + j * 9 + 4, none⟩) hbl).trans g4
      have q5 := (hbel.cell (p := ⟨bl, off + j * 9 + 5, none⟩) hbl).trans g5
      have q6 := (hbel.cell (p := ⟨bl, off + j * 9 + 6, none⟩) hbl).trans g6
      have q7 := (hbel.cell (p := ⟨bl, off + j * 9 + 7, none⟩) hbl).trans g7
      have q8 := (hbel.cell (p := ⟨bl, off + j * 9 + 8, none⟩) hbl).trans g8
      have hsz := hbel.size
      have hd := docEdge_any (e := l[j]) (HR.out.2.1 _ (List.getElem_mem hlt)) wr ((HR.out.2.2.below hbel).mono hsz)
      simp only [Ed.vals] at hd
      have HD := Lib.hid hd
      clear hd
      have HO := Lib.hid (And.intro hown hbel)
      have HT : Hid (edVs (l.take (j + 1)) = edVs (l.take j) ++ l[j].vals) := Lib.hid (by rw [List.take_succ_eq_append_getElem hlt, edVs_append]; simp [edVs])
      have x1 : (0 : Int) ≤ (j : Int) := by omega
      have x2 : (j : Int) < (l.length : Int) := by omega
      clear hcell g0 g1 g2 g3 g4 g5 g6 g7 g8 hown hbel
      go_wp2_with fail
      refine HD.out.mono ?_
      rintro e w1 ⟨rfl, hb1⟩
      have hs1 := hb1.size
      have HO1 := Lib.hid (And.intro (ownsRow_below HO.out.1 hb1 (Nat.le_refl _)) (HO.out.2.trans (hb1.mono hsz)))
      clear hb1 q0 q1 q2 q3 q4 q5 q6 q7 q8
      go_wp2_with (at_builtin; go_loud (refine wpList_append_sl _ rfl (.tmp 11) (.tmp 17) _ rfl w.heap.size 98 i0 _ 9 72 Tryz.underlying26 hi0 hz0 hz1 hz2 rfl (by omega) _ j (edVs (l.take j)) rfl (HO1.out.1.alloc _) _ _ 1 [.int .i64 l[j].a, .int .i64 l[j].b, .int .i64 l[j].k, .int .u64 (l[j].x : Nat), .int .u64 (l[j].sw : Nat), .int .u64 (l[j].sn : Nat), .int .u64 (l[j].mw : Nat), .int .u64 (l[j].mn : Nat), .int .i64 l[j].p] _ rfl (sl_lit1 w1 #[.int .i64 l[j].a, .int .i64 l[j].b, .int .i64 l[j].k, .int .u64 (l[j].x : Nat), .int .u64 (l[j].sw : Nat), .int .u64 (l[j].sn : Nat), .int .u64 (l[j].mw : Nat), .int .u64 (l[j].mn : Nat), .int .i64 l[j].p] 98 9 rfl (by omega)) (by simp [Value.oneCell']) (by unfold maxLen; omega) (by omega) (by simp; omega) ?_); intro v' w2 hown2 hgrow hat)
      have hlo := HO1.out.1.lt
      have HO2 := Lib.hid (And.intro hown2 ((HO1.out.2.alloc (by omega) _).grown hgrow (by simp; omega) (fun k hk => (hlo k hk).1)))
      clear hown2 hgrow hat hlo
      go_wp2_with fail
      go_roundw
      case rel => exact ⟨j + 1, by omega, by go_num, by rw [HT.out]; exact HO2.out.1, HO2.out.2⟩
      case measure => simp [intOf]; omega
    · have hj2 : j = l.length := by omega
      subst hj2
      have HO := Lib.hid (And.intro hown hbel)
      clear hown hbel
      go_wp2_with fail
      go_ret
      exact ⟨_, rfl, by have := HO.out.1; rwa [List.take_length] at this, HO.out.2⟩
end Go.Proofs.YtkpfbalkhlidgaaGreatDoor
namespace Go.Proofs.YtkpfbalkhlidgaaGreatDoor
open Go.RowKit Go
set_option linter.unusedVariables false
set_option linter.unusedSimpArgs false
theorem wp_store_row {P : Program} {o : Oper} {a : Act} {w : World} {K : Act → World → Prop} {Q : Exit → Act → World → Prop} (ty : TypeId) (x y : Operand) (ho : o.op = .store ty x y)
    (g : Nat) (hx : a.eval x = .pointer (some ⟨g, 0, none⟩)) (cs : Array Value) (hy : a.eval y = .agg cs) (t : TypeId) (cur : Array Value) (hg : w.heap[g]? = some (.cells cur t (0, 0)))
    (hi : (P.info? ty).map (·.size) = some cs.size) (hsz : cs.size = cur.size) (h1 : ∀ v ∈ cs.toList, v.oneCell' = true)
    (h : K (a.put o.dst undef) (w.setRow g cs)) : Oper.wp P o a w K Q := by
  unfold Oper.wp execOp
  simp only [ho, hx, hy, Instr.storeAt, Instr.sureAddr, Sem.run_bind, Sem.run_pure, Result.andThen_ok, run_storeVar_row w g t ty cur cs hg hi hsz h1]
  exact h
def pEds (l : List Ed) (S : Nat → Prop) (v : Value) (w : World) : Prop := RepW w S true l v
theorem steadyEds (l : List Ed) : Steady (pEds l) := fun S S' v w w' hk hs hS h => RepW.keep (w := w) h hk hS
def pCrt (c : Crt) (va : Option Addr) (vc : Nat) (S : Nat → Prop) (v : Value) (w : World) : Prop := ∃ wv, v = .agg #[.int .i64 c.k, .slice va c.o.length vc, .int .i64 c.p, .int .i64 c.q, wv] ∧ RepW w S true c.w wv
theorem steadyCrt (c : Crt) (va : Option Addr) (vc : Nat) : Steady (pCrt c va vc) := fun S S' v w w' hk hs hS h => by
  obtain ⟨wv, h1, h2⟩ := h
  exact ⟨wv, h1, h2.keep hk hS⟩
theorem RepW.one {w : World} {S : Nat → Prop} {own : Bool} {l : List Ed} {v : Value} (h : RepW w S own l v) : v.oneCell' = true := by
  obtain ⟨_, _, ad, cap, rfl, _⟩ := Sl.shape h
  rfl
set_option maxHeartbeats 2000000 in
set_option maxRecDepth 100000 in
theorem docCert_any (S : Nat → Prop) (own : Bool) (c : Crt) (v : Value) (w : World) (hr : RepC w S own c v) (hn : c.nums) (h1 : c.o.length ≤ 100000) (h2 : c.w.length ≤ 100000) (hL : Lq w.heap.size w) :
    Calls Tryz.prog 13 #[v] w (GivesC w c) := by
  obtain ⟨i0, hi0, hz0, hz1, hz2⟩ := info_parts infoInt
  obtain ⟨ad, cp, ad', cp', rfl, ho, hw, _, _, k1, k2⟩ := hr.shape
  have HR := Lib.hid (And.intro ho (And.intro hw (And.intro hn hL)))
  clear hr ho hw hn hL
  go_enter Tryz.func13, Tryz.ntmps13
  go_upto_region 1 with fail
  have hb0 : Below w.heap.size w ((w.alloc (.cells #[.int .i64 c.k, .slice ad c.o.length cp, .int .i64 c.p, .int .i64 c.q, .slice ad' c.w.length cp'] 35)).alloc (.cells #[.int .i64 0, .slice none 0 0, .int .i64 0, .int .i64 0, .slice none 0 0] 28)) := ((Below.refl _ _).alloc (Nat.le_refl _) _).alloc (by simp) _
  have e0 : ((w.alloc (.cells #[.int .i64 c.k, .slice ad c.o.length cp, .int .i64 c.p, .int .i64 c.q, .slice ad' c.w.length cp'] 35)).alloc (.cells #[.int .i64 0, .slice none 0 0, .int .i64 0, .int .i64 0, .slice none 0 0] 28)).heap[w.heap.size]? = some (.cells #[.int .i64 c.k, .slice ad c.o.length cp, .int .i64 c.p, .int .i64 c.q, .slice ad' c.w.length cp'] 35 (0, 0)) := (Below.heap_alloc _ _ _ (by simp)).trans (heap_alloc_new w _)
  have e1 : ((w.alloc (.cells #[.int .i64 c.k, .slice ad c.o.length cp, .int .i64 c.p, .int .i64 c.q, .slice ad' c.w.length cp'] 35)).alloc (.cells #[.int .i64 0, .slice none 0 0, .int .i64 0, .int .i64 0, .slice none 0 0] 28)).heap[w.heap.size + 1]? = some (.cells #[.int .i64 0, .slice none 0 0, .int .i64 0, .int .i64 0, .slice none 0 0] 28 (0, 0)) := by
    have := heap_alloc_new (w.alloc (.cells #[.int .i64 c.k, .slice ad c.o.length cp, .int .i64 c.p, .int .i64 c.q, .slice ad' c.w.length cp'] 35)) (.cells #[.int .i64 0, .slice none 0 0, .int .i64 0, .int .i64 0, .slice none 0 0] 28)
    rwa [World.size_alloc] at this
  have es : ((w.alloc (.cells #[.int .i64 c.k, .slice ad c.o.length cp, .int .i64 c.p, .int .i64 c.q, .slice ad' c.w.length cp'] 35)).alloc (.cells #[.int .i64 0, .slice none 0 0, .int .i64 0, .int .i64 0, .slice none 0 0] 28)).heap.size = w.heap.size + 2 := by rw [World.size_alloc, World.size_alloc]
  generalize (w.alloc (.cells #[.int .i64 c.k, .slice ad c.o.length cp, .int .i64 c.p, .int .i64 c.q, .slice ad' c.w.length cp'] 35)).alloc (.cells #[.int .i64 0, .slice none 0 0, .int .i64 0, .int .i64 0, .slice none 0 0] 28) = Y at hb0 e0 e1 es ⊢
  have HO := Lib.hid (HR.out.1.below hb0 (Nat.le_refl _))
  have HE := Lib.hid (And.intro hb0 (And.intro e0 (And.intro e1 es)))
  have y1 : Y.cell? ⟨w.heap.size, 1, none⟩ = some (.slice ad c.o.length cp) := by rw [cell_of_row Y _ 1 _ _ _ e0]; rfl
  clear hb0 e0 e1 es
  go_wp2_with (at_builtin; go_loud (refine wpList_append_sl _ rfl (.tmp 4) (.tmp 6) _ rfl Y.heap.size 3 i0 _ 1 8 Tryz.underlying25 hi0 hz0 hz1 hz2 rfl (by omega) _ 0 [] rfl (World.ownsRow_nil _ _ _ _) _ _ c.o.length (ints c.o) _ rfl HO.out (ints_one _) (by unfold maxLen; omega) (by omega) (by omega) ?_); intro v1 X hown1 hgrow1 hat1)
  obtain ⟨hb0, e0, e1, es⟩ := HE.out
  have hYX : Below Y.heap.size Y X := (Below.refl _ _).grown hgrow1 (Nat.le_refl _) (fun k hk => by cases hk)
  have hsX := hYX.size
  have f0 : X.heap[w.heap.size]? = _ := (hYX.block _ (by omega)).trans e0
  have hrow : X.heap[w.heap.size + 1]? = _ := (hYX.block _ (by omega)).trans e1
  have hbX : Below w.heap.size w X := hb0.trans (hYX.mono (by omega))
  rw [Nat.zero_add] at hown1
  obtain ⟨va, vc, rfl⟩ := owns_slice hown1
  have d0 : X.cell? ⟨w.heap.size, 0, none⟩ = some (.int .i64 c.k) := by rw [cell_of_row X _ 0 _ _ _ f0]; rfl
  have d2 : X.cell? ⟨w.heap.size, 2, none⟩ = some (.int .i64 c.p) := by rw [cell_of_row X _ 2 _ _ _ f0]; rfl
  have d3 : X.cell? ⟨w.heap.size, 3, none⟩ = some (.int .i64 c.q) := by rw [cell_of_row X _ 3 _ _ _ f0]; rfl
  have d4 : X.cell? ⟨w.heap.size, 4, none⟩ = some (.slice ad' c.w.length cp') := by rw [cell_of_row X _ 4 _ _ _ f0]; rfl
  have lx : w.heap.size < X.heap.size := by omega
  have lr : w.heap.size + 1 < X.heap.size := by omega
  have HV := Lib.hid (And.intro (HR.out.2.1.below hbX (Nat.le_refl _)) (And.intro HR.out.2.2.1.2.2.2.2 (And.intro h2 ((HR.out.2.2.2.below hbX).mono hbX.size))))
  have HOX : Hid (RepI X (fun b => Y.heap.size ≤ b) true c.o (.slice va c.o.length vc)) := Lib.hid (RepI.of_owns (by simpa using hown1))
  have HBX := Lib.hid (And.intro hbX es)
  clear hown1 hgrow1 hat1 hYX f0 hbX HO HE y1 e0 e1 es hb0 hsX
  refine wp_region_tail (w0 := X) rfl [.eq (.pointer (some ⟨w.heap.size, 0, none⟩)), .eq (.int .i64 c.k), .eq (.slice va c.o.length vc), .eq (.pointer (some ⟨w.heap.size, 2, none⟩)), .eq (.int .i64 c.p), .eq (.pointer (some ⟨w.heap.size, 3, none⟩)), .eq (.int .i64 c.q), .eq (.pointer (some ⟨w.heap.size, 4, none⟩)), .eq (.slice ad' c.w.length cp'), .of (pEds c.w), .of (pCrt c va vc), .tail] 11 [] [] (by kernel_rfl) ⟨?_, ?_, ?_, ?_, ?_, ?_, ?_, ?_, ?_, ?_, ?_, ?_, ?_, trivial⟩ trivial [fun vs w' => ∃ wx wv, vs 10 = .agg #[.int .i64 c.k, .slice va c.o.length vc, .int .i64 c.p, .int .i64 c.q, wv] ∧ Below X.heap.size X wx ∧ RepW wx (fun b => X.heap.size ≤ b) true c.w wv ∧ w' = wx.setRow (w.heap.size + 1) #[.int .i64 c.k, .slice va c.o.length vc, .int .i64 c.p, .int .i64 c.q, wv]] ⟨?_, trivial⟩ (fun vs => [(8, (.pointer (some ⟨w.heap.size, 0, none⟩))), (9, (.int .i64 c.k)), (10, (.slice va c.o.length vc)), (11, (.pointer (some ⟨w.heap.size, 2, none⟩))), (12, (.int .i64 c.p)), (13, (.pointer (some ⟨w.heap.size, 3, none⟩))), (14, (.int .i64 c.q)), (15, (.pointer (some ⟨w.heap.size, 4, none⟩))), (16, (.slice ad' c.w.length cp')), (17, vs 9), (18, vs 10)]) (fun _ => rfl) ?_
  · refine RStep.mk rfl rfl (fun S a wx K Q hR hK => ?_)
    have t1 : a.tmps[1]? = some (.pointer (some ⟨w.heap.size, 0, none⟩)) := (hR.old 1 (by kernel_rfl)).trans (by kernel_rfl)
    go_simp
    exact hK _ _ (Below.refl _ _) rfl
  · refine RStep.mk rfl rfl (fun S a wx K Q hR hK => ?_)
    have t8 := hR.eq 0 (by kernel_rfl) rfl rfl
    have y0 := (hR.bel.cell (p := ⟨w.heap.size, 0, none⟩) lx).trans d0
    go_simp
    exact hK _ _ (Below.refl _ _) rfl
  · refine RStep.mk rfl rfl (fun S a wx K Q hR hK => ?_)
    have t3 : a.tmps[3]? = some (.slice va c.o.length vc) := (hR.old 3 (by kernel_rfl)).trans (by kernel_rfl)
    go_simp
    exact hK _ _ (Below.refl _ _) rfl
  · refine RStep.mk rfl rfl (fun S a wx K Q hR hK => ?_)
    have t1 : a.tmps[1]? = some (.pointer (some ⟨w.heap.size, 0, none⟩)) := (hR.old 1 (by kernel_rfl)).trans (by kernel_rfl)
    go_simp
    exact hK _ _ (Below.refl _ _) rfl
  · refine RStep.mk rfl rfl (fun S a wx K Q hR hK => ?_)
    have t11 := hR.eq 3 (by kernel_rfl) rfl rfl
    have y0 := (hR.bel.cell (p := ⟨w.heap.size, 2, none⟩) lx).trans d2
    go_simp
    exact hK _ _ (Below.refl _ _) rfl
  · refine RStep.mk rfl rfl (fun S a wx K Q hR hK => ?_)
    have t1 : a.tmps[1]? = some (.pointer (some ⟨w.heap.size, 0, none⟩)) := (hR.old 1 (by kernel_rfl)).trans (by kernel_rfl)
    go_simp
    exact hK _ _ (Below.refl _ _) rfl
  · refine RStep.mk rfl rfl (fun S a wx K Q hR hK => ?_)
    have t13 := hR.eq 5 (by kernel_rfl) rfl rfl
    have y0 := (hR.bel.cell (p := ⟨w.heap.size, 3, none⟩) lx).trans d3
    go_simp
    exact hK _ _ (Below.refl _ _) rfl
  · refine RStep.mk rfl rfl (fun S a wx K Q hR hK => ?_)
    have t1 : a.tmps[1]? = some (.pointer (some ⟨w.heap.size, 0, none⟩)) := (hR.old 1 (by kernel_rfl)).trans (by kernel_rfl)
    go_simp
    exact hK _ _ (Below.refl _ _) rfl
  · refine RStep.mk rfl rfl (fun S a wx K Q hR hK => ?_)
    have t15 := hR.eq 7 (by kernel_rfl) rfl rfl
    have y0 := (hR.bel.cell (p := ⟨w.heap.size, 4, none⟩) lx).trans d4
    go_simp
    exact hK _ _ (Below.refl _ _) rfl
  · exact steadyEds _
  · refine RStep.mk rfl rfl (fun S a wx K Q hR hK => ?_)
    have t16 := hR.eq 8 (by kernel_rfl) rfl rfl
    go_simp
    go_at_call 45
    refine (itemEdges_any _ _ c.w _ wx (HV.out.1.below hR.bel (Nat.le_refl _)) HV.out.2.1 HV.out.2.2.1 ((HV.out.2.2.2.below hR.bel).mono hR.bel.size)).mono ?_
    rintro e w' ⟨v1, rfl, hown1, hb1⟩
    exact hK _ _ hb1 ((RepW.of_owns hown1).keep (fun _ _ _ => rfl) (fun b _ hb => hR.new b hb))
  · exact steadyCrt _ _ _
  · refine RStep.mk rfl rfl (fun S a wx K Q hR hK => ?_)
    have t9 := hR.eq 1 (by kernel_rfl) rfl rfl
    have t10 := hR.eq 2 (by kernel_rfl) rfl rfl
    have t12 := hR.eq 4 (by kernel_rfl) rfl rfl
    have t14 := hR.eq 6 (by kernel_rfl) rfl rfl
    obtain ⟨u17, t17, f17⟩ := hR.of 9 (by kernel_rfl) rfl rfl
    obtain ⟨_, _, a17, c17, rfl, _⟩ := Sl.shape (show RepW wx S true c.w u17 from f17)
    go_simp
    exact hK _ _ (Below.refl _ _) ⟨_, rfl, f17⟩
  · refine TStep.mk rfl (fun vs a wx K Q hR hZ hK => ?_)
    have t2 : a.tmps[2]? = some (.pointer (some ⟨w.heap.size + 1, 0, none⟩)) := (hR.old 2 (by kernel_rfl)).trans (by kernel_rfl)
    have t18 := hR.dep 10 18 (by kernel_rfl) rfl
    obtain ⟨hbel2, S2, hlow, hof⟩ := hZ
    obtain ⟨wv, ev, hwv⟩ : pCrt c va vc S2 (vs 10) wx := hof 10 _ rfl
    rw [ev] at t18
    have hg : wx.heap[w.heap.size + 1]? = some (.cells #[.int .i64 0, .slice none 0 0, .int .i64 0, .int .i64 0, .slice none 0 0] 28 (0, 0)) := (hbel2.block _ lr).trans hrow
    have hw1 := RepW.one hwv
    refine wp_store_row 28 (.tmp 2) (.tmp 18) rfl (w.heap.size + 1) (eval_of t2) #[.int .i64 c.k, .slice va c.o.length vc, .int .i64 c.p, .int .i64 c.q, wv] (eval_of t18) 28 _ hg (by kernel_rfl) rfl (by simp [Value.oneCell']; exact hw1) ?_
    exact hK undef _ ⟨wx, wv, (upd_ne _ _ (by omega)).trans ev, hbel2, hwv.keep (fun _ _ _ => rfl) (fun b _ hb => hlow b hb), rfl⟩
  intro vs wN hE hZ
  obtain ⟨wx, wv, ev, hbel2, hwv, rfl⟩ := hZ
  obtain ⟨ax, cx, rfl⟩ : ∃ ax cx, wv = .slice ax c.w.length cx := by obtain ⟨_, _, ad, cap, rfl, _⟩ := Sl.shape hwv; exact ⟨_, _, rfl⟩
  have hg : wx.heap[w.heap.size + 1]? = some (.cells #[.int .i64 0, .slice none 0 0, .int .i64 0, .int .i64 0, .slice none 0 0] 28 (0, 0)) := (hbel2.block _ lr).trans hrow
  have HF : Hid (RepC (wx.setRow (w.heap.size + 1) #[.int .i64 c.k, .slice va c.o.length vc, .int .i64 c.p, .int .i64 c.q, .slice ax c.w.length cx]) (fun b => w.heap.size ≤ b) true c (.agg #[.int .i64 c.k, .slice va c.o.length vc, .int .i64 c.p, .int .i64 c.q, .slice ax c.w.length cx]) ∧ Below w.heap.size w (wx.setRow (w.heap.size + 1) #[.int .i64 c.k, .slice va c.o.length vc, .int .i64 c.p, .int .i64 c.q, .slice ax c.w.length cx])) := Lib.hid ⟨⟨_, _, rfl,
    ((HOX.out.below hbel2 (Nat.le_refl _)).keep (keeps_setRow (g := w.heap.size + 1) (fun h => by have h : Y.heap.size ≤ w.heap.size + 1 := h; have := HBX.out.2; omega)) (fun b _ hb => by have hb : Y.heap.size ≤ b := hb; have := HBX.out.2; omega)),
    (hwv.keep (keeps_setRow (g := w.heap.size + 1) (fun h => by have h : X.heap.size ≤ w.heap.size + 1 := h; omega)) (fun b _ hb => by have hb : X.heap.size ≤ b := hb; omega))⟩, below_setRow (HBX.out.1.trans (hbel2.mono HBX.out.1.size)) _ _ (by omega)⟩
  simp only [ev, putsL, List.foldl_cons, List.foldl_nil]
  clear hE ev hbel2 hwv HOX HBX d0 d2 d3 d4 lx
  generalize vs 9 = v9
  go_simp
  (try (go_wp2_with fail))
  exact bodyPost_ret (v := .agg #[.int .i64 c.k, .slice va c.o.length vc, .int .i64 c.p, .int .i64 c.q, .slice ax c.w.length cx]) (results_cell_row rfl _ _ (w.heap.size + 1) 28 _ _ _ rfl (setRow_heap _ _ _ _ _ _ hg) Tryz.underlying28 rfl (by kernel_rfl)) rfl ⟨_, rfl, HF.out.1, HF.out.2⟩
end Go.Proofs.YtkpfbalkhlidgaaGreatDoor
namespace Go.Proofs.YtkpfbalkhlidgaaGreatDoor
open Go.RowKit Go
set_option linter.unusedVariables false
set_option linter.unusedSimpArgs false
theorem Ed.eq_dec (a b : Ed) : decide (a = b) = (decide (a.a = b.a) && decide (a.b = b.b) && decide (a.k = b.k) && decide (a.x = b.x) && decide (a.sw = b.sw) && decide (a.sn = b.sn) && decide (a.mw = b.mw) && decide (a.mn = b.mn) && decide (a.p = b.p)) := by
  cases a; cases b; rw [Bool.eq_iff_iff]; simp [and_assoc]
set_option maxRecDepth 100000 in
theorem neqEdR (a b : Ed) (w : World) : (binOp .neq 98 (.agg #[.int .i64 a.a, .int .i64 a.b, .int .i64 a.k, .int .u64 a.x, .int .u64 a.sw, .int .u64 a.sn, .int .u64 a.mw, .int .u64 a.mn, .int .i64 a.p]) (.agg #[.int .i64 b.a, .int .i64 b.b, .int .i64 b.k, .int .u64 b.x, .int .u64 b.sw, .int .u64 b.sn, .int .u64 b.mw, .int .u64 b.mn, .int .i64 b.p])).run Tryz.prog w = .ok (.bool (!decide (a = b))) w := by
  have hn : ∀ (d : Nat) (xs ys : Array Value) (w : World), (Op.equalIn (d + 1) 96 (.agg xs) (.agg ys)).run Tryz.prog w = (Op.eqFields d xs ys (Tryz.prog.fieldsOf 96).toList).run Tryz.prog w := fun d xs ys w => run_equalIn_agg w d 96 _ _ (by kernel_rfl) (by kernel_rfl)
  rw [run_neq_struct, show (10000 : Nat) = 9999 + 1 from rfl, run_equalIn_agg w 9999 98 _ _ (by kernel_rfl) (by kernel_rfl)]
  simp only [Program.fieldsOf, Tryz.underlying98]
  rw [Ed.eq_dec]
  go_simp
  have hc : ∀ p q : Nat, ((p : Int) = (q : Int)) ↔ p = q := fun p q => Int.ofNat_inj
  simp only [hc]
  (repeat' split) <;> simp [*]
theorem Crt.eq_dec (a b : Crt) : decide (a = b) = (decide (a.k = b.k) && decide (a.p = b.p) && decide (a.q = b.q) && decide (a.o = b.o) && decide (a.w = b.w)) := by
  cases a; cases b; rw [Bool.eq_iff_iff]; simp only [decide_eq_true_eq, Bool.and_eq_true, Crt.mk.injEq, and_assoc]
  constructor
  · rintro ⟨h1, h2, h3, h4, h5⟩; exact ⟨h1, h3, h4, h2, h5⟩
  · rintro ⟨h1, h2, h3, h4, h5⟩; exact ⟨h1, h4, h2, h3, h5⟩
end Go.Proofs.YtkpfbalkhlidgaaGreatDoor
namespace Go.Proofs.YtkpfbalkhlidgaaGreatDoor
open Go.RowKit Go
set_option linter.unusedVariables false
set_option linter.unusedSimpArgs false
set_option maxHeartbeats 4000000 in
set_option maxRecDepth 100000 in
theorem refCertSame_any (S S' : Nat → Prop) (own own' : Bool) (c d : Crt) (v v' : Value) (w : World) (h : RepC w S own c v) (h' : RepC w S' own' d v') :
    Calls Tryz.prog 12 #[v, v'] w fun e w' => e = .returned (.bool (decide (c = d))) ∧ Below w.heap.size w w' := by
  obtain ⟨ad, cp, ad', cp', rfl, ho, hw, l1, l2, k1, k2⟩ := h.shape
  obtain ⟨bd, dp, bd', dp', rfl, ho', hw', m1, m2, j1, j2⟩ := h'.shape
  rw [Crt.eq_dec]
  have hb0 : Below w.heap.size w ((w.alloc (.cells #[.int .i64 c.k, .slice ad c.o.length cp, .int .i64 c.p, .int .i64 c.q, .slice ad' c.w.length cp'] 28)).alloc (.cells #[.int .i64 d.k, .slice bd d.o.length dp, .int .i64 d.p, .int .i64 d.q, .slice bd' d.w.length dp'] 28)) := ((Below.refl _ _).alloc (Nat.le_refl _) _).alloc (by simp) _
  have HH := Lib.hid (And.intro (ho.below hb0 (Nat.le_refl _)) (And.intro (hw.below hb0 (Nat.le_refl _)) (And.intro (ho'.below hb0 (Nat.le_refl _)) (hw'.below hb0 (Nat.le_refl _)))))
  have HB0 := Lib.hid hb0
  clear hb0 ho hw ho' hw' h h'
  by_cases e1 : ¬ c.k = d.k
  · have t1 : (c.k != d.k) = true := by simp; omega
    have HE := Lib.hid e1
    clear e1
    go_enter Tryz.func12, Tryz.ntmps12
    go_wp2_with fail
    go_ret
    exact ⟨ret_bool (by simp [HE.out]), HB0.out⟩
  have e1 := Classical.not_not.1 e1
  have t1 : (c.k != d.k) = false := by simp [e1]
  have HE1 := Lib.hid e1
  clear e1
  by_cases e2 : ¬ c.p = d.p
  · have t2 : (c.p != d.p) = true := by simp; omega
    have HE := Lib.hid e2
    clear e2
    go_enter Tryz.func12, Tryz.ntmps12
    go_wp2_with fail
    go_ret
    exact ⟨ret_bool (by simp [HE.out]), HB0.out⟩
  have e2 := Classical.not_not.1 e2
  have t2 : (c.p != d.p) = false := by simp [e2]
  have HE2 := Lib.hid e2
  clear e2
  by_cases e3 : ¬ c.q = d.q
  · have t3 : (c.q != d.q) = true := by simp; omega
    have HE := Lib.hid e3
    clear e3
    go_enter Tryz.func12, Tryz.ntmps12
    go_wp2_with fail
    go_ret
    exact ⟨ret_bool (by simp [HE.out]), HB0.out⟩
  have e3 := Classical.not_not.1 e3
  have t3 : (c.q != d.q) = false := by simp [e3]
  have HE3 := Lib.hid e3
  clear e3
  by_cases e4 : ¬ c.o.length = d.o.length
  · have t4 : ((c.o.length : Int) != (d.o.length : Int)) = true := by simp; omega
    have HE := Lib.hid e4
    clear e4
    go_enter Tryz.func12, Tryz.ntmps12
    go_wp2_with fail
    go_ret
    exact ⟨ret_bool (by rw [decide_eq_false (show ¬ c.o = d.o from fun e => HE.out (by rw [e]))]; simp), HB0.out⟩
  have e4 := Classical.not_not.1 e4
  have t4 : ((c.o.length : Int) != (d.o.length : Int)) = false := by simp [e4]
  have HE4 := Lib.hid e4
  clear e4
  by_cases e5 : ¬ c.w.length = d.w.length
  · have t5 : ((c.w.length : Int) != (d.w.length : Int)) = true := by simp; omega
    have HE := Lib.hid e5
    clear e5
    go_enter Tryz.func12, Tryz.ntmps12
    go_wp2_with fail
    go_ret
    exact ⟨ret_bool (by rw [decide_eq_false (show ¬ c.w = d.w from fun e => HE.out (by rw [e]))]; simp), HB0.out⟩
  have e5 := Classical.not_not.1 e5
  have t5 : ((c.w.length : Int) != (d.w.length : Int)) = false := by simp [e5]
  have HE5 := Lib.hid e5
  clear e5
  go_enter Tryz.func12, Tryz.ntmps12
  go_upto_region 1 with fail
  have q0 : ((w.alloc (.cells #[.int .i64 c.k, .slice ad c.o.length cp, .int .i64 c.p, .int .i64 c.q, .slice ad' c.w.length cp'] 28)).alloc (.cells #[.int .i64 d.k, .slice bd d.o.length dp, .int .i64 d.p, .int .i64 d.q, .slice bd' d.w.length dp'] 28)).heap[w.heap.size]? = some (.cells #[.int .i64 c.k, .slice ad c.o.length cp, .int .i64 c.p, .int .i64 c.q, .slice ad' c.w.length cp'] 28 (0, 0)) := (Below.heap_alloc _ _ _ (by simp)).trans (heap_alloc_new w _)
  have q1 : ((w.alloc (.cells #[.int .i64 c.k, .slice ad c.o.length cp, .int .i64 c.p, .int .i64 c.q, .slice ad' c.w.length cp'] 28)).alloc (.cells #[.int .i64 d.k, .slice bd d.o.length dp, .int .i64 d.p, .int .i64 d.q, .slice bd' d.w.length dp'] 28)).heap[w.heap.size + 1]? = some (.cells #[.int .i64 d.k, .slice bd d.o.length dp, .int .i64 d.p, .int .i64 d.q, .slice bd' d.w.length dp'] 28 (0, 0)) := heap_alloc_at _ _ _ (by simp)
  have zX : ((w.alloc (.cells #[.int .i64 c.k, .slice ad c.o.length cp, .int .i64 c.p, .int .i64 c.q, .slice ad' c.w.length cp'] 28)).alloc (.cells #[.int .i64 d.k, .slice bd d.o.length dp, .int .i64 d.p, .int .i64 d.q, .slice bd' d.w.length dp'] 28)).heap.size = w.heap.size + 2 := by rw [World.size_alloc, World.size_alloc]
  generalize ((w.alloc (.cells #[.int .i64 c.k, .slice ad c.o.length cp, .int .i64 c.p, .int .i64 c.q, .slice ad' c.w.length cp'] 28)).alloc (.cells #[.int .i64 d.k, .slice bd d.o.length dp, .int .i64 d.p, .int .i64 d.q, .slice bd' d.w.length dp'] 28)) = W at HH HB0 q0 q1 zX ⊢
  have lx : w.heap.size < W.heap.size := by omega
  have ly : w.heap.size + 1 < W.heap.size := by omega
  have a0 : W.cell? ⟨w.heap.size, 0, none⟩ = some (.int .i64 c.k) := by rw [cell_of_row W _ 0 _ _ _ q0]; rfl
  have a1 : W.cell? ⟨w.heap.size, 1, none⟩ = some (.slice ad c.o.length cp) := by rw [cell_of_row W _ 1 _ _ _ q0]; rfl
  have a2 : W.cell? ⟨w.heap.size, 2, none⟩ = some (.int .i64 c.p) := by rw [cell_of_row W _ 2 _ _ _ q0]; rfl
  have a3 : W.cell? ⟨w.heap.size, 3, none⟩ = some (.int .i64 c.q) := by rw [cell_of_row W _ 3 _ _ _ q0]; rfl
  have a4 : W.cell? ⟨w.heap.size, 4, none⟩ = some (.slice ad' c.w.length cp') := by rw [cell_of_row W _ 4 _ _ _ q0]; rfl
  have b0 : W.cell? ⟨w.heap.size + 1, 0, none⟩ = some (.int .i64 d.k) := by rw [cell_of_row W _ 0 _ _ _ q1]; rfl
  have b1 : W.cell? ⟨w.heap.size + 1, 1, none⟩ = some (.slice bd d.o.length dp) := by rw [cell_of_row W _ 1 _ _ _ q1]; rfl
  have b2 : W.cell? ⟨w.heap.size + 1, 2, none⟩ = some (.int .i64 d.p) := by rw [cell_of_row W _ 2 _ _ _ q1]; rfl
  have b3 : W.cell? ⟨w.heap.size + 1, 3, none⟩ = some (.int .i64 d.q) := by rw [cell_of_row W _ 3 _ _ _ q1]; rfl
  have b4 : W.cell? ⟨w.heap.size + 1, 4, none⟩ = some (.slice bd' d.w.length dp') := by rw [cell_of_row W _ 4 _ _ _ q1]; rfl
  have HL := Lib.hid (And.intro lx ly)
  clear q0 q1 zX lx ly
  go_wp2_with fail
  go_loopw [5] (fun i wr => ∃ j : Nat, i = .int .i64 j ∧ j ≤ c.o.length ∧ c.o.take j = d.o.take j ∧ Below W.heap.size W wr) (fun i _ => c.o.length - (intOf i).toNat)
  case atStart => exact ⟨0, rfl, by omega, by simp, Below.refl _ _⟩
  case round =>
    obtain ⟨j, rfl, hj, heq, hb⟩ := hrel
    have HB := Lib.hid hb
    have HE := Lib.hid heq
    have p1 := (hb.cell (p := ⟨w.heap.size, 1, none⟩) HL.out.1).trans a1
    have p2 := (hb.cell (p := ⟨w.heap.size + 1, 1, none⟩) HL.out.2).trans b1
    by_cases hlt : j < c.o.length
    · have hlt' : j < d.o.length := by have := HE4.out; omega
      obtain ⟨bl, off, rfl, _, _, r1⟩ := (HH.out.1.below hb (Nat.le_refl _)).cell (by omega)
      obtain ⟨bl', off', rfl, _, _, r2⟩ := (HH.out.2.2.1.below hb (Nat.le_refl _)).cell (by omega)
      have r1 := (r1 j hlt).1
      have r2 := (r2 j hlt').1
      have c0 := r1
      have d0 := r2
      clear r1 r2 hb heq
      have x1 : (0 : Int) ≤ (j : Int) := by omega
      have x2 : (j : Int) < (c.o.length : Int) := by omega
      have x3 : (j : Int) < (d.o.length : Int) := by omega
      by_cases he : c.o[j] = d.o[j]
      · have HX := Lib.hid he
        have hq : (c.o[j] != d.o[j]) = false := by simp [he]
        clear he
        go_wp2_with fail
        go_quiet (fail)
        go_wp2_with fail
        go_roundw
        case rel => exact ⟨j + 1, by go_num, by omega, take_step_eq _ _ j hlt hlt' HE.out HX.out, below_drewN HB.out _⟩
        case measure => simp [intOf]; omega
      · have HX := Lib.hid he
        have hq : (c.o[j] != d.o[j]) = true := by simp [he]
        clear he
        go_wp2_with fail
        go_quiet (fail)
        go_wp2_with fail
        go_ret
        exact ⟨ret_bool (by rw [decide_eq_false (show ¬ c.o = d.o from fun e => HX.out (by simp [e]))]; simp), HB0.out.trans ((below_drewN HB.out _).mono HB0.out.size)⟩
    · have hj2 : j = c.o.length := by omega
      subst hj2
      have HEq : Hid (c.o = d.o) := Lib.hid (by have h1 := HE.out; rwa [List.take_length, HE4.out, List.take_length] at h1)
      clear hb heq
      have p3 := (HB.out.cell (p := ⟨w.heap.size, 4, none⟩) HL.out.1).trans a4
      have p4 := (HB.out.cell (p := ⟨w.heap.size + 1, 4, none⟩) HL.out.2).trans b4
      clear hj
      have HB1 := HB
      have HEo := HEq
      clear HB HE HEq
      go_wp2_with fail
      go_loopw [6] (fun i wr => ∃ j : Nat, i = .int .i64 j ∧ j ≤ c.w.length ∧ c.w.take j = d.w.take j ∧ Below W.heap.size W wr) (fun i _ => c.w.length - (intOf i).toNat)
      case atStart => exact ⟨0, rfl, by omega, by simp, HB1.out⟩
      case round =>
        obtain ⟨j, rfl, hj, heq, hb⟩ := hrel
        have HB := Lib.hid hb
        have HE := Lib.hid heq
        have p3 := (hb.cell (p := ⟨w.heap.size, 4, none⟩) HL.out.1).trans a4
        have p4 := (hb.cell (p := ⟨w.heap.size + 1, 4, none⟩) HL.out.2).trans b4
        by_cases hlt : j < c.w.length
        · have hlt' : j < d.w.length := by have := HE5.out; omega
          obtain ⟨bl, off, rfl, _, _, r1⟩ := (HH.out.2.1.below hb (Nat.le_refl _)).cell (by omega)
          obtain ⟨bl', off', rfl, _, _, r2⟩ := (HH.out.2.2.2.below hb (Nat.le_refl _)).cell (by omega)
          have r1 := (r1 j hlt).1
          have r2 := (r2 j hlt').1
          have c0 := r1.1
          have c1 := r1.2.1
          have c2 := r1.2.2.1
          have c3 := r1.2.2.2.1
          have c4 := r1.2.2.2.2.1
          have c5 := r1.2.2.2.2.2.1
          have c6 := r1.2.2.2.2.2.2.1
          have c7 := r1.2.2.2.2.2.2.2.1
          have c8 := r1.2.2.2.2.2.2.2.2
          have d0 := r2.1
          have d1 := r2.2.1
          have d2 := r2.2.2.1
          have d3 := r2.2.2.2.1
          have d4 := r2.2.2.2.2.1
          have d5 := r2.2.2.2.2.2.1
          have d6 := r2.2.2.2.2.2.2.1
          have d7 := r2.2.2.2.2.2.2.2.1
          have d8 := r2.2.2.2.2.2.2.2.2
          clear r1 r2 hb heq
          have x1 : (0 : Int) ≤ (j : Int) := by omega
          have x2 : (j : Int) < (c.w.length : Int) := by omega
          have x3 : (j : Int) < (d.w.length : Int) := by omega
          have hm : Tryz.prog.eqGuardType Tryz.prog.depth 98 = false := by kernel_rfl
          by_cases he : c.w[j] = d.w[j]
          · have HX := Lib.hid he
            have hq : ∀ W, (binOp .neq 98 (.agg #[.int .i64 c.w[j].a, .int .i64 c.w[j].b, .int .i64 c.w[j].k, .int .u64 c.w[j].x, .int .u64 c.w[j].sw, .int .u64 c.w[j].sn, .int .u64 c.w[j].mw, .int .u64 c.w[j].mn, .int .i64 c.w[j].p]) (.agg #[.int .i64 d.w[j].a, .int .i64 d.w[j].b, .int .i64 d.w[j].k, .int .u64 d.w[j].x, .int .u64 d.w[j].sw, .int .u64 d.w[j].sn, .int .u64 d.w[j].mw, .int .u64 d.w[j].mn, .int .i64 d.w[j].p])).run Tryz.prog W = .ok (.bool false) W := fun W => by rw [neqEdR]; simp [he]
            clear he
            go_wp2_with fail
            go_quiet (fail)
            go_wp2_with fail
            go_roundw
            case rel => exact ⟨j + 1, by go_num, by omega, take_step_eq _ _ j hlt hlt' HE.out HX.out, below_drewN HB.out _⟩
            case measure => simp [intOf]; omega
          · have HX := Lib.hid he
            have hq : ∀ W, (binOp .neq 98 (.agg #[.int .i64 c.w[j].a, .int .i64 c.w[j].b, .int .i64 c.w[j].k, .int .u64 c.w[j].x, .int .u64 c.w[j].sw, .int .u64 c.w[j].sn, .int .u64 c.w[j].mw, .int .u64 c.w[j].mn, .int .i64 c.w[j].p]) (.agg #[.int .i64 d.w[j].a, .int .i64 d.w[j].b, .int .i64 d.w[j].k, .int .u64 d.w[j].x, .int .u64 d.w[j].sw, .int .u64 d.w[j].sn, .int .u64 d.w[j].mw, .int .u64 d.w[j].mn, .int .i64 d.w[j].p])).run Tryz.prog W = .ok (.bool true) W := fun W => by rw [neqEdR]; simp [he]
            clear he
            go_wp2_with fail
            go_quiet (fail)
            go_wp2_with fail
            go_ret
            exact ⟨ret_bool (by rw [decide_eq_false (show ¬ c.w = d.w from fun e => HX.out (by simp [e]))]; simp), HB0.out.trans ((below_drewN HB.out _).mono HB0.out.size)⟩
        · have hj2 : j = c.w.length := by omega
          subst hj2
          have HEq : Hid (c.w = d.w) := Lib.hid (by have h1 := HE.out; rwa [List.take_length, HE5.out, List.take_length] at h1)
          clear hb heq
          go_wp2_with fail
          go_ret
          exact ⟨ret_bool (by simp [HE1.out, HE2.out, HE3.out, HEo.out, HEq.out]), HB0.out.trans (HB.out.mono HB0.out.size)⟩
end Go.Proofs.YtkpfbalkhlidgaaGreatDoor
