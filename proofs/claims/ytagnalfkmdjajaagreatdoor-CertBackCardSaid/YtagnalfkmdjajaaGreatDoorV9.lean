/- Walks: the reference's Same of certificates. Ahead of it: Walks: rows copied, certificates made of them. Walks: a certificate's size asked; its parts written over; as the reference has it. Walks: a certificate as the reference has it. Walks: rows held against each other; certificates. -/
import Derived.Test.YtagnalfkmdjajaaGreatDoorV8
import Derived.Test.YtagnalfkmdjajaaGreatDoorVW02
import Derived.Test.YtagnalfkmdjajaaGreatDoorV21
import Derived.Test.YtagnalfkmdjajaaGreatDoorVG06
import Derived.Test.YtagnalfkmdjajaaGreatDoorV3
import Derived.Deep.RegionHeld3
import Derived.Laws.Rows
import Derived.Laws.StructEq
namespace Go.Proofs.YtagnalfkmdjajaaGreatDoor
open Go.RowKit Go
set_option linter.unusedVariables false
set_option linter.unusedSimpArgs false
theorem infoInt : (Tryz.prog.info? 3).map (fun i => (i.zero, i.size, i.bytes)) = some (some (.int .i64 0), 1, 8) := by kernel_rfl
theorem infoEd : (Tryz.prog.info? 54).map (fun i => (i.zero, i.size, i.bytes)) = some (some (.agg #[.int .i64 0, .int .i64 0, .int .i64 0, .int .u64 0, .int .u64 0, .int .u64 0, .int .u64 0, .int .u64 0, .int .i64 0]), 9, 72) := by kernel_rfl
theorem keeps_setRow {S : Nat → Prop} {w : World} {g : Nat} {cs : Array Value} (h : ¬ S g) : Keeps S w (w.setRow g cs) := fun b hb _ => setRow_other _ _ _ _ (fun e => h (e ▸ hb))
theorem ownsRow_none (w : World) (base sz : Nat) (T : TypeId) (hb : base ≤ w.heap.size) : (w.alloc (.cells #[] T)).ownsRow base T sz (.slice (some ⟨w.heap.size, 0, none⟩) 0 0) 0 [] :=
  ⟨by simp, .inr ⟨w.heap.size, 0, #[], rfl, hb, heap_alloc_new _ _, Nat.le_refl _, by unfold maxLen; omega, by simp, by simp⟩⟩
set_option maxRecDepth 100000 in
theorem cloneInts_any (S : Nat → Prop) (own : Bool) (l : List Int) (v : Value) (w : World) (hr : RepI w S own l v) (h47 : l.length ≤ 100000000) :
    Calls Tryz.prog 58 #[v] w fun e w' => ∃ v', e = .returned v' ∧ w'.ownsRow w.heap.size 3 1 v' l.length (ints l) ∧ Below w.heap.size w w' := by
  obtain ⟨i0, hi0, hz0, hz1, hz2⟩ := info_parts infoInt
  have hl := hr.2.1
  have HR := Lib.hid hr
  obtain ⟨_, _, ad, cap, rfl, hc⟩ := Sl.shape hr
  clear hr
  have hn := @Lib.run_eql_slice_nil Tryz.prog
  cases ad with
  | none =>
    have hl0 : l = [] := by
      rcases Nat.eq_zero_or_pos l.length with h | h
      · exact List.eq_nil_of_length_eq_zero h
      · obtain ⟨_, _, h1, _⟩ := Sl.cells HR.out h; cases h1
    subst hl0
    go_enter Tryz.func58, Tryz.ntmps58
    go_wp2_with fail
    go_ret
    exact ⟨_, rfl, World.ownsRow_nil _ _ _ _, Below.refl _ _⟩
  | some a =>
    have HS := Lib.hid (Sl.below HR.out (by omega) ((Below.refl _ _).alloc (Nat.le_refl _) (.cells #[] 3)) (Nat.le_refl _))
    have H0 := Lib.hid (ownsRow_none w w.heap.size 1 3 (Nat.le_refl _))
    go_enter Tryz.func58, Tryz.ntmps58
    go_wp2_with (at_builtin; refine wpList_append_sl _ rfl (.tmp 5) (.tmp 6) _ rfl w.heap.size 3 i0 _ 1 8 Tryz.underlying22 hi0 hz0 hz1 hz2 rfl (by omega) _ 0 [] rfl H0.out _ _ l.length (ints l) _ rfl HS.out (ints_one _) (by unfold maxLen; omega) (by omega) (by simp) ?_; intro v' w2 hown2 hgrow hat)
    go_ret
    exact ⟨v', rfl, by simpa using hown2, ((Below.refl _ _).alloc (Nat.le_refl _) _).grown hgrow (by simp) (fun k hk => by cases hk; exact Nat.le_refl _)⟩
set_option maxRecDepth 100000 in
theorem cloneEds_any (S : Nat → Prop) (own : Bool) (l : List Ed) (v : Value) (w : World) (hr : RepW w S own l v) (h47 : l.length ≤ 100000000) :
    Calls Tryz.prog 59 #[v] w fun e w' => ∃ v', e = .returned v' ∧ w'.ownsRow w.heap.size 54 9 v' l.length (edVs l) ∧ Below w.heap.size w w' := by
  obtain ⟨i0, hi0, hz0, hz1, hz2⟩ := info_parts infoEd
  have hl := hr.2.1
  have HR := Lib.hid hr
  obtain ⟨_, _, ad, cap, rfl, hc⟩ := Sl.shape hr
  clear hr
  have hn := @Lib.run_eql_slice_nil Tryz.prog
  cases ad with
  | none =>
    have hl0 : l = [] := by
      rcases Nat.eq_zero_or_pos l.length with h | h
      · exact List.eq_nil_of_length_eq_zero h
      · obtain ⟨_, _, h1, _⟩ := Sl.cells HR.out h; cases h1
    subst hl0
    go_enter Tryz.func59, Tryz.ntmps59
    go_wp2_with fail
    go_ret
    exact ⟨_, rfl, World.ownsRow_nil _ _ _ _, Below.refl _ _⟩
  | some a =>
    have HS := Lib.hid (Sl.below HR.out (by omega) ((Below.refl _ _).alloc (Nat.le_refl _) (.cells #[] 54)) (Nat.le_refl _))
    have H0 := Lib.hid (ownsRow_none w w.heap.size 9 54 (Nat.le_refl _))
    go_enter Tryz.func59, Tryz.ntmps59
    go_wp2_with (at_builtin; refine wpList_append_sl _ rfl (.tmp 5) (.tmp 6) _ rfl w.heap.size 54 i0 _ 9 72 Tryz.underlying23 hi0 hz0 hz1 hz2 rfl (by omega) _ 0 [] rfl H0.out _ _ l.length (edVs l) _ rfl HS.out (edVs_one _) (by unfold maxLen; omega) (by omega) (by simp) ?_; intro v' w2 hown2 hgrow hat)
    go_ret
    exact ⟨v', rfl, by simpa using hown2, ((Below.refl _ _).alloc (Nat.le_refl _) _).grown hgrow (by simp) (fun k hk => by cases hk; exact Nat.le_refl _)⟩
set_option maxRecDepth 100000 in
theorem certOf_any (S : Nat → Prop) (own : Bool) (l : List Int) (v : Value) (w : World) (hr : RepI w S own l v) (h47 : l.length ≤ 100000000) :
    Calls Tryz.prog 22 #[v] w (GivesC w ⟨1, l, 0, 0, []⟩) := by
  have HC := Lib.hid (cloneInts_any S own l v _ (hr.below ((Below.refl _ _).alloc (Nat.le_refl _) (.cells #[.int .i64 0, .slice none 0 0, .int .i64 0, .int .i64 0, .slice none 0 0] 25)) (Nat.le_refl _)) h47)
  have h0 := heap_alloc_new w (.cells #[.int .i64 0, .slice none 0 0, .int .i64 0, .int .i64 0, .slice none 0 0] 25)
  have hb0 : Below w.heap.size w (w.alloc (.cells #[.int .i64 0, .slice none 0 0, .int .i64 0, .int .i64 0, .slice none 0 0] 25)) := (Below.refl _ _).alloc (Nat.le_refl _) _
  have hs0 : (w.alloc (.cells #[.int .i64 0, .slice none 0 0, .int .i64 0, .int .i64 0, .slice none 0 0] 25)).heap.size = w.heap.size + 1 := World.size_alloc _ _
  have H0 := Lib.hid (And.intro h0 (And.intro hb0 hs0))
  clear h0 hb0 hs0 hr
  go_enter Tryz.func22, Tryz.ntmps22
  go_wp2_with fail
  refine HC.out.mono ?_
  rintro e w1 ⟨v1, rfl, hown1, hb1⟩
  obtain ⟨h0, hb0, hs0⟩ := H0.out
  have g0 : w1.heap[w.heap.size]? = some (.cells #[.int .i64 0, .slice none 0 0, .int .i64 0, .int .i64 0, .slice none 0 0] 25 (0, 0)) := (hb1.block _ (by omega)).trans h0
  obtain ⟨ad, cap, rfl⟩ := owns_slice hown1
  have H1 := Lib.hid (And.intro hown1 (hb0.trans (hb1.mono (by omega))))
  have hz1 := hb1.size
  clear hown1 hb1 hb0 h0
  go_wp2_with (refine wpList_store_row rfl 25 (.tmp 2) (.tmp 5) rfl rfl w.heap.size rfl _ rfl 25 _ g0 (by kernel_rfl) rfl (by simp [Value.oneCell']) ?_)
  refine bodyPost_ret (v := .agg #[.int .i64 1, .slice ad l.length cap, .int .i64 0, .int .i64 0, .slice none 0 0]) (results_cell_row rfl _ _ w.heap.size 25 _ _ _ rfl (setRow_heap _ _ _ _ _ _ g0) Tryz.underlying25 rfl (by kernel_rfl)) rfl ⟨_, rfl, ⟨_, _, rfl, ((RepI.of_owns H1.out.1).keep (keeps_setRow (g := w.heap.size) (fun h => by have h : _ ≤ w.heap.size := h; omega)) (fun b _ hb => by have hb : _ ≤ b := hb; omega)), RepW.nil _ _ _⟩, below_setRow H1.out.2 _ _ (Nat.le_refl _)⟩
set_option maxRecDepth 100000 in
theorem certRound_any (S : Nat → Prop) (own : Bool) (l : List Ed) (v : Value) (w : World) (hr : RepW w S own l v) (h47 : l.length ≤ 100000000) :
    Calls Tryz.prog 23 #[v] w (GivesC w ⟨4, [], 0, 0, l⟩) := by
  have HC := Lib.hid (cloneEds_any S own l v _ (hr.below ((Below.refl _ _).alloc (Nat.le_refl _) (.cells #[.int .i64 0, .slice none 0 0, .int .i64 0, .int .i64 0, .slice none 0 0] 25)) (Nat.le_refl _)) h47)
  have h0 := heap_alloc_new w (.cells #[.int .i64 0, .slice none 0 0, .int .i64 0, .int .i64 0, .slice none 0 0] 25)
  have hb0 : Below w.heap.size w (w.alloc (.cells #[.int .i64 0, .slice none 0 0, .int .i64 0, .int .i64 0, .slice none 0 0] 25)) := (Below.refl _ _).alloc (Nat.le_refl _) _
  have hs0 : (w.alloc (.cells #[.int .i64 0, .slice none 0 0, .int .i64 0, .int .i64 0, .slice none 0 0] 25)).heap.size = w.heap.size + 1 := World.size_alloc _ _
  have H0 := Lib.hid (And.intro h0 (And.intro hb0 hs0))
  clear h0 hb0 hs0 hr
  go_enter Tryz.func23, Tryz.ntmps23
  go_wp2_with fail
  refine HC.out.mono ?_
  rintro e w1 ⟨v1, rfl, hown1, hb1⟩
  obtain ⟨h0, hb0, hs0⟩ := H0.out
  have g0 : w1.heap[w.heap.size]? = some (.cells #[.int .i64 0, .slice none 0 0, .int .i64 0, .int .i64 0, .slice none 0 0] 25 (0, 0)) := (hb1.block _ (by omega)).trans h0
  obtain ⟨ad, cap, rfl⟩ := owns_slice hown1
  have H1 := Lib.hid (And.intro hown1 (hb0.trans (hb1.mono (by omega))))
  have hz1 := hb1.size
  clear hown1 hb1 hb0 h0
  go_wp2_with (refine wpList_store_row rfl 25 (.tmp 2) (.tmp 5) rfl rfl w.heap.size rfl _ rfl 25 _ g0 (by kernel_rfl) rfl (by simp [Value.oneCell']) ?_)
  refine bodyPost_ret (v := .agg #[.int .i64 4, .slice none 0 0, .int .i64 0, .int .i64 0, .slice ad l.length cap]) (results_cell_row rfl _ _ w.heap.size 25 _ _ _ rfl (setRow_heap _ _ _ _ _ _ g0) Tryz.underlying25 rfl (by kernel_rfl)) rfl ⟨_, rfl, ⟨_, _, rfl, RepI.nil _ _ _, ((RepW.of_owns H1.out.1).keep (keeps_setRow (g := w.heap.size) (fun h => by have h : _ ≤ w.heap.size := h; omega)) (fun b _ hb => by have hb : _ ≤ b := hb; omega))⟩, below_setRow H1.out.2 _ _ (Nat.le_refl _)⟩
end Go.Proofs.YtagnalfkmdjajaaGreatDoor
namespace Go.Proofs.YtagnalfkmdjajaaGreatDoor
open Go.RowKit Go
set_option linter.unusedVariables false
set_option linter.unusedSimpArgs false
theorem fewCert_any (k p q : Int) (ad ad' : Option Addr) (n m cp cp' most : Nat) (w : World) (hm : most ≤ 1000) :
    Calls Tryz.prog 5 #[.agg #[.int .i64 k, .slice ad n cp, .int .i64 p, .int .i64 q, .slice ad' m cp'], .int .i64 (most : Nat)] w fun e w' => e = .returned (.bool (decide (n ≤ most) && decide (m ≤ most))) ∧ Below w.heap.size w w' := by
  by_cases h : n ≤ most
  · have t1 : decide (n ≤ most) = true := by simpa using h
    have HB : Hid ((decide (n ≤ most) && decide (m ≤ most)) = decide (m ≤ most)) := Lib.hid (by simp [h])
    clear h
    go_enter Tryz.func5, Tryz.ntmps5
    go_wp2_with fail
    go_ret
    exact ⟨by rw [HB.out]; rfl, (Below.refl _ _).alloc (Nat.le_refl _) _⟩
  · have t1 : decide (n ≤ most) = false := by simpa using h
    have HB : Hid ((decide (n ≤ most) && decide (m ≤ most)) = false) := Lib.hid (by simp [h])
    clear h
    go_enter Tryz.func5, Tryz.ntmps5
    go_wp2_with fail
    go_ret
    exact ⟨by rw [HB.out]; rfl, (Below.refl _ _).alloc (Nat.le_refl _) _⟩
/-- What a walk that writes cells of S over leaves. -/
structure Sp (W : World) (bx B : Nat) (row : Array Value) (T : TypeId) (S : Nat → Prop) (wr : World) : Prop where
  bel : Below B W wr
  keep : Keeps (fun b => ¬ S b) W wr
  fro : ∀ b o, wr.frozen? ⟨b, o, none⟩ = W.frozen? ⟨b, o, none⟩
  sm : ∀ a, (wr.cell? a).isSome = (W.cell? a).isSome
  box : wr.heap[bx]? = some (.cells row T (0, 0))
theorem Sp.set {W : World} {bx B : Nat} {row : Array Value} {T : TypeId} {S : Nat → Prop} {wr : World} (h : Sp W bx B row T S wr) {bl off : Nat} (hS : S bl) (hB : B ≤ bl) (hx : bl ≠ bx) {u : Value} (hu : wr.cell? ⟨bl, off, none⟩ = some u) (v : Value) : Sp W bx B row T S (wr.setCell ⟨bl, off, none⟩ v) := by
  refine ⟨h.bel.setCell (by simp; omega) _, h.keep.trans h.bel.size (fun b hb _ => Below.heap_setCell _ _ _ _ (fun e => hb (by rw [e]; exact hS))), fun b o => ?_, fun a => ?_, ?_⟩
  · rw [World.frozen?_setCell]; exact h.fro b o
  · by_cases e : (⟨bl, off, none⟩ : Addr) = a
    · subst e; rw [World.cell?_setCell_same _ _ _ hu, ← h.sm, hu]; rfl
    · rw [World.cell?_setCell_other _ _ _ _ e]; exact h.sm a
  · rw [Below.heap_setCell _ _ _ _ (fun e => hx e.symm)]; exact h.box
theorem sl_lit1 (w : World) (cs : Array Value) (T : TypeId) (sz : Nat) (hs : cs.size = sz) (h0 : 0 < sz) : Sl (w.alloc (.cells cs T)) (fun _ => True) true sz 1 cs.toList (.slice (some ⟨w.heap.size, 0, none⟩) 1 1) := by
  refine ⟨by simp [hs], by omega, _, _, rfl, Nat.le_refl _, fun _ => ⟨_, _, rfl, trivial, fun j hj => ?_⟩⟩
  have hj2 : j < cs.size := by simpa using hj
  rw [cell_of_row _ _ (0 + j) cs T (0, 0) (heap_alloc_new w _), frozen_of_row _ _ (0 + j) cs T (heap_alloc_new w _)]
  simp [hj2]
end Go.Proofs.YtagnalfkmdjajaaGreatDoor
namespace Go.Proofs.YtagnalfkmdjajaaGreatDoor
open Go.RowKit Go
set_option linter.unusedVariables false
set_option linter.unusedSimpArgs false
theorem RepW.one {w : World} {S : Nat → Prop} {own : Bool} {l : List Ed} {v : Value} (h : RepW w S own l v) : v.oneCell' = true := by
  obtain ⟨_, _, ad, cap, rfl, _⟩ := Sl.shape h
  rfl
end Go.Proofs.YtagnalfkmdjajaaGreatDoor
namespace Go.Proofs.YtagnalfkmdjajaaGreatDoor
open Go.RowKit Go
set_option linter.unusedVariables false
set_option linter.unusedSimpArgs false
theorem Ed.eq_dec (a b : Ed) : decide (a = b) = (decide (a.a = b.a) && decide (a.b = b.b) && decide (a.k = b.k) && decide (a.x = b.x) && decide (a.sw = b.sw) && decide (a.sn = b.sn) && decide (a.mw = b.mw) && decide (a.mn = b.mn) && decide (a.p = b.p)) := by
  cases a; cases b; rw [Bool.eq_iff_iff]; simp [and_assoc]
set_option maxRecDepth 100000 in
theorem neqEd (a b : Ed) (w : World) : (binOp .neq 54 (.agg #[.int .i64 a.a, .int .i64 a.b, .int .i64 a.k, .int .u64 a.x, .int .u64 a.sw, .int .u64 a.sn, .int .u64 a.mw, .int .u64 a.mn, .int .i64 a.p]) (.agg #[.int .i64 b.a, .int .i64 b.b, .int .i64 b.k, .int .u64 b.x, .int .u64 b.sw, .int .u64 b.sn, .int .u64 b.mw, .int .u64 b.mn, .int .i64 b.p])).run Tryz.prog w = .ok (.bool (!decide (a = b))) w := by
  have hn : ∀ (d : Nat) (xs ys : Array Value) (w : World), (Op.equalIn (d + 1) 52 (.agg xs) (.agg ys)).run Tryz.prog w = (Op.eqFields d xs ys (Tryz.prog.fieldsOf 52).toList).run Tryz.prog w := fun d xs ys w => run_equalIn_agg w d 52 _ _ (by kernel_rfl) (by kernel_rfl)
  rw [run_neq_struct, show (10000 : Nat) = 9999 + 1 from rfl, run_equalIn_agg w 9999 54 _ _ (by kernel_rfl) (by kernel_rfl)]
  simp only [Program.fieldsOf, Tryz.underlying54]
  rw [Ed.eq_dec]
  go_simp
  have hc : ∀ p q : Nat, ((p : Int) = (q : Int)) ↔ p = q := fun p q => Int.ofNat_inj
  simp only [hc]
  (repeat' split) <;> simp [*]
set_option maxHeartbeats 2000000 in
set_option maxRecDepth 100000 in
theorem eqInts_any (S S' : Nat → Prop) (own own' : Bool) (l m : List Int) (v v' : Value) (w : World) (h : RepI w S own l v) (h' : RepI w S' own' m v') :
    Calls Tryz.prog 44 #[v, v'] w fun e w' => e = .returned (.bool (decide (l = m))) ∧ Below w.heap.size w w' := by
  obtain ⟨_, hl, ad, cap, rfl, _⟩ := Sl.shape h
  obtain ⟨_, hl', ad', cap', rfl, _⟩ := Sl.shape h'
  have HH := Lib.hid (And.intro h h')
  clear h h'
  by_cases hlen : l.length = m.length
  · have t1 : ((l.length : Int) != (m.length : Int)) = false := by simp [hlen]
    have HL := Lib.hid hlen
    clear hlen
    go_enter Tryz.func44, Tryz.ntmps44
    go_wp2_with fail
    go_loopw [13] (fun i wr => ∃ j : Nat, i = .int .i64 j ∧ j ≤ l.length ∧ l.take j = m.take j ∧ Below w.heap.size w wr) (fun i _ => l.length - (intOf i).toNat)
    case atStart => exact ⟨0, rfl, by omega, by simp, Below.refl _ _⟩
    case round =>
      obtain ⟨j, rfl, hj, heq, hb⟩ := hrel
      have HB := Lib.hid hb
      have HE := Lib.hid heq
      by_cases hlt : j < l.length
      · have hlt' : j < m.length := by have := HL.out; omega
        obtain ⟨bl, off, rfl, _, _, r1⟩ := (HH.out.1.below hb (Nat.le_refl _)).cell (by omega)
        obtain ⟨bl', off', rfl, _, _, r2⟩ := (HH.out.2.below hb (Nat.le_refl _)).cell (by omega)
        have r1 := (r1 j hlt).1
        have r2 := (r2 j hlt').1
        have c0 := r1
        have d0 := r2
        clear r1 r2
        clear hb heq
        have x1 : (0 : Int) ≤ (j : Int) := by omega
        have x2 : (j : Int) < (l.length : Int) := by omega
        have x3 : (j : Int) < (m.length : Int) := by omega
        by_cases he : l[j] = m[j]
        · have HX := Lib.hid he
          have hq : (l[j] != m[j]) = false := by simp [he]
          clear he
          go_wp2_with fail
          go_quiet (fail)
          go_wp2_with fail
          go_roundw
          case rel => exact ⟨j + 1, by go_num, by omega, take_step_eq _ _ j hlt hlt' HE.out HX.out, below_drewN HB.out _⟩
          case measure => simp [intOf]; omega
        · have HX := Lib.hid he
          have hq : (l[j] != m[j]) = true := by simp [he]
          clear he
          go_wp2_with fail
          go_quiet (fail)
          go_wp2_with fail
          go_ret
          exact ⟨ret_bool (by rw [decide_eq_false]; intro e; subst e; exact HX.out rfl), below_drewN HB.out _⟩
      · have hj2 : j = l.length := by omega
        subst hj2
        clear hb heq
        go_wp2_with fail
        go_ret
        refine ⟨ret_bool ?_, HB.out⟩
        have h1 := HE.out
        rw [List.take_length, HL.out, List.take_length] at h1
        rw [decide_eq_true h1]
  · have t1 : ((l.length : Int) != (m.length : Int)) = true := by simp; omega
    go_enter Tryz.func44, Tryz.ntmps44
    go_wp2_with fail
    go_ret
    exact ⟨ret_bool (by rw [decide_eq_false]; intro e; exact hlen (by rw [e])), Below.refl _ _⟩
set_option maxHeartbeats 2000000 in
set_option maxRecDepth 100000 in
theorem eqEds_any (S S' : Nat → Prop) (own own' : Bool) (l m : List Ed) (v v' : Value) (w : World) (h : RepW w S own l v) (h' : RepW w S' own' m v') :
    Calls Tryz.prog 45 #[v, v'] w fun e w' => e = .returned (.bool (decide (l = m))) ∧ Below w.heap.size w w' := by
  obtain ⟨_, hl, ad, cap, rfl, _⟩ := Sl.shape h
  obtain ⟨_, hl', ad', cap', rfl, _⟩ := Sl.shape h'
  have HH := Lib.hid (And.intro h h')
  clear h h'
  by_cases hlen : l.length = m.length
  · have t1 : ((l.length : Int) != (m.length : Int)) = false := by simp [hlen]
    have HL := Lib.hid hlen
    clear hlen
    go_enter Tryz.func45, Tryz.ntmps45
    go_wp2_with fail
    go_loopw [13] (fun i wr => ∃ j : Nat, i = .int .i64 j ∧ j ≤ l.length ∧ l.take j = m.take j ∧ Below w.heap.size w wr) (fun i _ => l.length - (intOf i).toNat)
    case atStart => exact ⟨0, rfl, by omega, by simp, Below.refl _ _⟩
    case round =>
      obtain ⟨j, rfl, hj, heq, hb⟩ := hrel
      have HB := Lib.hid hb
      have HE := Lib.hid heq
      by_cases hlt : j < l.length
      · have hlt' : j < m.length := by have := HL.out; omega
        obtain ⟨bl, off, rfl, _, _, r1⟩ := (HH.out.1.below hb (Nat.le_refl _)).cell (by omega)
        obtain ⟨bl', off', rfl, _, _, r2⟩ := (HH.out.2.below hb (Nat.le_refl _)).cell (by omega)
        have r1 := (r1 j hlt).1
        have r2 := (r2 j hlt').1
        have c0 := r1.1
        have c1 := r1.2.1
        have c2 := r1.2.2.1
        have c3 := r1.2.2.2.1
        have c4 := r1.2.2.2.2.1
        have c5 := r1.2.2.2.2.2.1
        have c6 := r1.2.2.2.2.2.2.1
        have c7 := r1.2.2.2.2.2.2.2.1
        have c8 := r1.2.2.2.2.2.2.2.2
        have d0 := r2.1
        have d1 := r2.2.1
        have d2 := r2.2.2.1
        have d3 := r2.2.2.2.1
        have d4 := r2.2.2.2.2.1
        have d5 := r2.2.2.2.2.2.1
        have d6 := r2.2.2.2.2.2.2.1
        have d7 := r2.2.2.2.2.2.2.2.1
        have d8 := r2.2.2.2.2.2.2.2.2
        clear r1 r2
        clear hb heq
        have x1 : (0 : Int) ≤ (j : Int) := by omega
        have x2 : (j : Int) < (l.length : Int) := by omega
        have x3 : (j : Int) < (m.length : Int) := by omega
        have hm : Tryz.prog.eqGuardType Tryz.prog.depth 54 = false := by kernel_rfl
        by_cases he : l[j] = m[j]
        · have HX := Lib.hid he
          have hq : ∀ W, (binOp .neq 54 (.agg #[.int .i64 l[j].a, .int .i64 l[j].b, .int .i64 l[j].k, .int .u64 l[j].x, .int .u64 l[j].sw, .int .u64 l[j].sn, .int .u64 l[j].mw, .int .u64 l[j].mn, .int .i64 l[j].p]) (.agg #[.int .i64 m[j].a, .int .i64 m[j].b, .int .i64 m[j].k, .int .u64 m[j].x, .int .u64 m[j].sw, .int .u64 m[j].sn, .int .u64 m[j].mw, .int .u64 m[j].mn, .int .i64 m[j].p])).run Tryz.prog W = .ok (.bool false) W := fun W => by rw [neqEd]; simp [he]
          clear he
          go_wp2_with fail
          go_quiet (fail)
          go_wp2_with fail
          go_roundw
          case rel => exact ⟨j + 1, by go_num, by omega, take_step_eq _ _ j hlt hlt' HE.out HX.out, below_drewN HB.out _⟩
          case measure => simp [intOf]; omega
        · have HX := Lib.hid he
          have hq : ∀ W, (binOp .neq 54 (.agg #[.int .i64 l[j].a, .int .i64 l[j].b, .int .i64 l[j].k, .int .u64 l[j].x, .int .u64 l[j].sw, .int .u64 l[j].sn, .int .u64 l[j].mw, .int .u64 l[j].mn, .int .i64 l[j].p]) (.agg #[.int .i64 m[j].a, .int .i64 m[j].b, .int .i64 m[j].k, .int .u64 m[j].x, .int .u64 m[j].sw, .int .u64 m[j].sn, .int .u64 m[j].mw, .int .u64 m[j].mn, .int .i64 m[j].p])).run Tryz.prog W = .ok (.bool true) W := fun W => by rw [neqEd]; simp [he]
          clear he
          go_wp2_with fail
          go_quiet (fail)
          go_wp2_with fail
          go_ret
          exact ⟨ret_bool (by rw [decide_eq_false]; intro e; subst e; exact HX.out rfl), below_drewN HB.out _⟩
      · have hj2 : j = l.length := by omega
        subst hj2
        clear hb heq
        go_wp2_with fail
        go_ret
        refine ⟨ret_bool ?_, HB.out⟩
        have h1 := HE.out
        rw [List.take_length, HL.out, List.take_length] at h1
        rw [decide_eq_true h1]
  · have t1 : ((l.length : Int) != (m.length : Int)) = true := by simp; omega
    go_enter Tryz.func45, Tryz.ntmps45
    go_wp2_with fail
    go_ret
    exact ⟨ret_bool (by rw [decide_eq_false]; intro e; exact hlen (by rw [e])), Below.refl _ _⟩
theorem Crt.eq_dec (a b : Crt) : decide (a = b) = (decide (a.k = b.k) && decide (a.p = b.p) && decide (a.q = b.q) && decide (a.o = b.o) && decide (a.w = b.w)) := by
  cases a; cases b; rw [Bool.eq_iff_iff]; simp only [decide_eq_true_eq, Bool.and_eq_true, Crt.mk.injEq, and_assoc]
  constructor
  · rintro ⟨h1, h2, h3, h4, h5⟩; exact ⟨h1, h3, h4, h2, h5⟩
  · rintro ⟨h1, h2, h3, h4, h5⟩; exact ⟨h1, h4, h2, h3, h5⟩
set_option maxHeartbeats 4000000 in
set_option maxRecDepth 100000 in
theorem certSame_any (S S' : Nat → Prop) (own own' : Bool) (c d : Crt) (v v' : Value) (w : World) (h : RepC w S own c v) (h' : RepC w S' own' d v') :
    Calls Tryz.prog 12 #[v, v'] w fun e w' => e = .returned (.bool (decide (c = d))) ∧ Below w.heap.size w w' := by
  obtain ⟨ad, cp, ad', cp', rfl, ho, hw, l1, l2, k1, k2⟩ := h.shape
  obtain ⟨bd, dp, bd', dp', rfl, ho', hw', m1, m2, j1, j2⟩ := h'.shape
  rw [Crt.eq_dec]
  have hb0 : Below w.heap.size w ((w.alloc (.cells #[.int .i64 c.k, .slice ad c.o.length cp, .int .i64 c.p, .int .i64 c.q, .slice ad' c.w.length cp'] 25)).alloc (.cells #[.int .i64 d.k, .slice bd d.o.length dp, .int .i64 d.p, .int .i64 d.q, .slice bd' d.w.length dp'] 25)) := ((Below.refl _ _).alloc (Nat.le_refl _) _).alloc (by simp) _
  have HH := Lib.hid (And.intro (ho.below hb0 (Nat.le_refl _)) (And.intro (hw.below hb0 (Nat.le_refl _)) (And.intro (ho'.below hb0 (Nat.le_refl _)) (hw'.below hb0 (Nat.le_refl _)))))
  have HB0 := Lib.hid hb0
  clear hb0 ho hw ho' hw' h h'
  by_cases e1 : ¬ c.k = d.k
  · have t1 : (c.k == d.k) = false := by simp [e1]
    have HE := Lib.hid e1
    clear e1
    go_enter Tryz.func12, Tryz.ntmps12
    go_wp2_with fail
    go_ret
    exact ⟨ret_bool (by simp [HE.out]), HB0.out⟩
  have e1 := Classical.not_not.1 e1
  have t1 : (c.k == d.k) = true := by simp [e1]
  have HE1 := Lib.hid e1
  clear e1
  by_cases e2 : ¬ c.p = d.p
  · have t2 : (c.p == d.p) = false := by simp [e2]
    have HE := Lib.hid e2
    clear e2
    go_enter Tryz.func12, Tryz.ntmps12
    go_wp2_with fail
    go_ret
    exact ⟨ret_bool (by simp [HE.out]), HB0.out⟩
  have e2 := Classical.not_not.1 e2
  have t2 : (c.p == d.p) = true := by simp [e2]
  have HE2 := Lib.hid e2
  clear e2
  by_cases e3 : ¬ c.q = d.q
  · have t3 : (c.q == d.q) = false := by simp [e3]
    have HE := Lib.hid e3
    clear e3
    go_enter Tryz.func12, Tryz.ntmps12
    go_wp2_with fail
    go_ret
    exact ⟨ret_bool (by simp [HE.out]), HB0.out⟩
  have e3 := Classical.not_not.1 e3
  have t3 : (c.q == d.q) = true := by simp [e3]
  have HE3 := Lib.hid e3
  clear e3
  have HEI := Lib.hid (eqInts_any _ _ _ _ _ _ _ _ _ HH.out.1 HH.out.2.2.1)
  by_cases e4 : ¬ c.o = d.o
  · have HE := Lib.hid e4
    have t4 : decide (c.o = d.o) = false := by simp [e4]
    clear e4
    go_enter Tryz.func12, Tryz.ntmps12
    go_wp2_with (go_at_call 44; refine HEI.out.mono ?_; rw [t4]; rintro e w1 ⟨rfl, hb1⟩)
    go_ret
    exact ⟨ret_bool (by simp [HE.out]), HB0.out.trans (hb1.mono HB0.out.size)⟩
  have e4 := Classical.not_not.1 e4
  have t4 : decide (c.o = d.o) = true := by simp [e4]
  have HE4 := Lib.hid e4
  clear e4
  have HC : Hid (∀ w1, Below ((w.alloc (.cells #[.int .i64 c.k, .slice ad c.o.length cp, .int .i64 c.p, .int .i64 c.q, .slice ad' c.w.length cp'] 25)).alloc (.cells #[.int .i64 d.k, .slice bd d.o.length dp, .int .i64 d.p, .int .i64 d.q, .slice bd' d.w.length dp'] 25)).heap.size ((w.alloc (.cells #[.int .i64 c.k, .slice ad c.o.length cp, .int .i64 c.p, .int .i64 c.q, .slice ad' c.w.length cp'] 25)).alloc (.cells #[.int .i64 d.k, .slice bd d.o.length dp, .int .i64 d.p, .int .i64 d.q, .slice bd' d.w.length dp'] 25)) w1 → w1.cell? ⟨w.heap.size, 4, none⟩ = some (.slice ad' c.w.length cp') ∧ w1.cell? ⟨w.heap.size + 1, 4, none⟩ = some (.slice bd' d.w.length dp') ∧ Calls Tryz.prog 45 #[.slice ad' c.w.length cp', .slice bd' d.w.length dp'] w1 (fun e w' => e = .returned (.bool (decide (c.w = d.w))) ∧ Below w1.heap.size w1 w') ∧ Below w.heap.size w w1) := Lib.hid (fun w1 hb1 =>
    ⟨(hb1.cell (p := ⟨w.heap.size, 4, none⟩) (by simp; omega)).trans (by rw [cell_of_row _ _ 4 _ _ _ ((Below.heap_alloc _ _ _ (by simp)).trans (heap_alloc_new w _))]; rfl),
     (hb1.cell (p := ⟨w.heap.size + 1, 4, none⟩) (by simp)).trans (by rw [cell_of_row _ _ 4 _ _ _ (heap_alloc_at _ _ _ (by simp))]; rfl),
     eqEds_any _ _ _ _ _ _ _ _ _ (HH.out.2.1.below hb1 (Nat.le_refl _)) (HH.out.2.2.2.below hb1 (Nat.le_refl _)), HB0.out.trans (hb1.mono HB0.out.size)⟩)
  go_enter Tryz.func12, Tryz.ntmps12
  go_wp2_with (first
    | (go_at_call 44; refine HEI.out.mono ?_; rw [t4]; rintro e w1 ⟨rfl, hb1⟩; obtain ⟨c4, d4, hq, hbw⟩ := HC.out w1 hb1; have HQ := Lib.hid hq; have HBW := Lib.hid hbw; clear hq hbw hb1)
    | (go_at_call 45; refine HQ.out.mono ?_; rintro e w2 ⟨rfl, hb2⟩)
    | fail)
  go_ret
  exact ⟨ret_bool (by simp [HE1.out, HE2.out, HE3.out, HE4.out]), HBW.out.trans (hb2.mono HBW.out.size)⟩
end Go.Proofs.YtagnalfkmdjajaaGreatDoor
namespace Go.Proofs.YtagnalfkmdjajaaGreatDoor
open Go.RowKit Go
set_option linter.unusedVariables false
set_option linter.unusedSimpArgs false
end Go.Proofs.YtagnalfkmdjajaaGreatDoor
