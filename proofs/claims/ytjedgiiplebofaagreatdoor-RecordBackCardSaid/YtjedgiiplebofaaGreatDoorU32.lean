/- Walks: which trees are right (the program's). Ahead of it: Walks of the functions that only read a predicate tree: depth, nodes, right, asks. Walks: which trees are right, and what they ask (the reference's). Walks: the table of kinds, and which trees are right (the program's). Walks: IndexFunc, ContainsFunc over parts; which trees are right (the program's). -/
import Derived.Test.YtjedgiiplebofaaGreatDoorChecked
import Derived.Test.YtjedgiiplebofaaGreatDoorU35
import Derived.WalkSpells
import Derived.BigQuiet
import Derived.Deep.QuietTactic
import Derived.Laws.EntriesVeiled
import Derived.WalkLawsBesides
namespace Go.Proofs.YtjedgiiplebofaaGreatDoor
open Go.RowKit Go
set_option linter.unusedVariables false
set_option linter.unusedSimpArgs false
set_option maxHeartbeats 400000 in
theorem predDepth_any (d : Nat) : ∀ (S : Nat → Prop) (own : Bool) (e : Ex) (v : Value) (w : World), e.depth ≤ d → d ≤ 1000 → RepE w S own e v →
    Calls Tryz.prog 178 #[v] w fun r w' => r = .returned (.int .i64 e.depth) ∧ Below w.heap.size w w' := by
  induction d with
  | zero => intro S own e v w hd; cases e; simp [Ex.depth] at hd
  | succ d ih =>
    intro S own e v w hd hd2 hrep
    obtain ⟨k, a, b, ps⟩ := e
    simp only [RepE] at hrep
    obtain ⟨s, xs, rfl, hk1, hk2, ha, hb, hs, hes⟩ := hrep
    obtain ⟨hxl, hlen, ad, cap, rfl, hcap⟩ := hs.shape
    have IH := Lib.hid ih
    clear ih
    have HXL := Lib.hid hxl
    clear hxl
    simp only [Ex.depth] at hd ⊢
    go_enter Tryz.func178, Tryz.ntmps178
    go_wp2_with fail
    go_loopw [3, 9] (fun n i wr => ∃ j : Nat, j ≤ ps.length ∧ i = .int .i64 j ∧ n = .int .i64 (Ex.depths (ps.take j)) ∧ Below (w.heap.size + 1) (w.alloc (.cells #[.int .i64 k, .int .u64 a, .int .u64 b, .slice ad ps.length cap] 28)) wr) (fun _ i _ => ps.length - (intOf i).toNat)
    case atStart => exact ⟨0, by omega, rfl, by simp [Ex.depths], Below.refl _ _⟩
    case round =>
      obtain ⟨j, hj, rfl, rfl, hbel⟩ := hrel
      have hbox : ∀ o, wr.cell? ⟨w.heap.size, o, none⟩ = (w.alloc (.cells #[.int .i64 k, .int .u64 a, .int .u64 b, .slice ad ps.length cap] _)).cell? ⟨w.heap.size, o, none⟩ := fun o => hbel.cell (by simp)
      have hsz : w.heap.size + 1 ≤ wr.heap.size := by have := hbel.size; simpa using this
      have hb0 : Below w.heap.size w wr := ((Below.refl _ _).alloc (Nat.le_refl _) _).trans (hbel.mono (by simp))
      by_cases hlt : j < ps.length
      · obtain ⟨bl, off, k', a', b', ad', n', cap', rfl, _, g0, g1, g2, g3, _, ge⟩ := (hes.below hb0 (Nat.le_refl _)).part (hs.below (by omega) hb0 (Nat.le_refl _)) j hlt
        have hdj := Ex.depths_ge ps j hlt
        have hdt := Ex.depths_take_le ps j
        have HT := Lib.hid (Ex.depths_take ps j hlt)
        go_wp2_with (go_at_call 178; refine (IH.out _ _ ps[j] _ _ (by omega) (by omega) (ge.below ((Below.refl _ _).alloc (Nat.le_refl _) _) (Nat.le_refl _))).mono ?_; rintro e w' ⟨rfl, hb1⟩)
        go_roundw
        case rel => exact ⟨j + 1, by omega, by go_num, by rw [HT.out]; go_num, (hbel.alloc (by omega) _).trans (hb1.mono (by simp; omega))⟩
        case measure => simp [intOf]; omega
      · have hj2 : j = ps.length := by omega
        subst hj2
        go_wp2_with fail
        go_ret
        exact ⟨by simp, hb0⟩
set_option maxHeartbeats 400000 in
theorem predNodes_any (d : Nat) : ∀ (S : Nat → Prop) (own : Bool) (e : Ex) (v : Value) (w : World), e.size ≤ d → d ≤ 1000 → RepE w S own e v →
    Calls Tryz.prog 179 #[v] w fun r w' => r = .returned (.int .i64 e.size) ∧ Below w.heap.size w w' := by
  induction d with
  | zero => intro S own e v w hd; have := e.size_pos; omega
  | succ d ih =>
    intro S own e v w hd hd2 hrep
    obtain ⟨k, a, b, ps⟩ := e
    simp only [RepE] at hrep
    obtain ⟨s, xs, rfl, hk1, hk2, ha, hb, hs, hes⟩ := hrep
    obtain ⟨hxl, hlen, ad, cap, rfl, hcap⟩ := hs.shape
    have IH := Lib.hid ih
    clear ih
    have HXL := Lib.hid hxl
    clear hxl
    simp only [Ex.size] at hd ⊢
    go_enter Tryz.func179, Tryz.ntmps179
    go_wp2_with fail
    go_loopw [3, 9] (fun n i wr => ∃ j : Nat, j ≤ ps.length ∧ i = .int .i64 j ∧ n = .int .i64 (Ex.sizes (ps.take j) + 1) ∧ Below (w.heap.size + 1) (w.alloc (.cells #[.int .i64 k, .int .u64 a, .int .u64 b, .slice ad ps.length cap] 28)) wr) (fun _ i _ => ps.length - (intOf i).toNat)
    case atStart => exact ⟨0, by omega, rfl, by simp [Ex.sizes], Below.refl _ _⟩
    case round =>
      obtain ⟨j, hj, rfl, rfl, hbel⟩ := hrel
      have hbox : ∀ o, wr.cell? ⟨w.heap.size, o, none⟩ = (w.alloc (.cells #[.int .i64 k, .int .u64 a, .int .u64 b, .slice ad ps.length cap] _)).cell? ⟨w.heap.size, o, none⟩ := fun o => hbel.cell (by simp)
      have hsz : w.heap.size + 1 ≤ wr.heap.size := by have := hbel.size; simpa using this
      have hb0 : Below w.heap.size w wr := ((Below.refl _ _).alloc (Nat.le_refl _) _).trans (hbel.mono (by simp))
      by_cases hlt : j < ps.length
      · obtain ⟨bl, off, k', a', b', ad', n', cap', rfl, _, g0, g1, g2, g3, _, ge⟩ := (hes.below hb0 (Nat.le_refl _)).part (hs.below (by omega) hb0 (Nat.le_refl _)) j hlt
        have hdj := Ex.sizes_ge ps j hlt
        have HT := Lib.hid (Ex.sizes_take ps j hlt)
        go_wp2_with (go_at_call 179; refine (IH.out _ _ ps[j] _ _ (by omega) (by omega) (ge.below ((Below.refl _ _).alloc (Nat.le_refl _) _) (Nat.le_refl _))).mono ?_; rintro e w' ⟨rfl, hb1⟩)
        go_roundw
        case rel => exact ⟨j + 1, by omega, by go_num, by rw [HT.out]; exact congrArg _ (by omega), (hbel.alloc (by omega) _).trans (hb1.mono (by simp; omega))⟩
        case measure => simp [intOf]; omega
      · have hj2 : j = ps.length := by omega
        subst hj2
        go_wp2_with fail
        go_ret
        exact ⟨by simp, hb0⟩
def leftOf (left : Int) (n : Nat) : Int := if (n : Int) ≤ left then left - n else -1
theorem leftOf_add (left : Int) (n m : Nat) (h : 0 ≤ leftOf left n) : leftOf (leftOf left n) m = leftOf left (n + m) := by
  by_cases h1 : (n : Int) ≤ left
  · have h2 : leftOf left n = left - n := if_pos h1
    rw [h2]; unfold leftOf; split <;> split <;> omega
  · have h2 : leftOf left n = -1 := if_neg h1
    omega
theorem leftOf_neg (left : Int) (n m : Nat) (h : ¬ 0 ≤ leftOf left n) (hm : n ≤ m) : leftOf left n = leftOf left m := by
  unfold leftOf at *
  split at h
  · omega
  · rw [if_neg (by assumption), if_neg (by omega)]
theorem leftOf_range (left : Int) (n : Nat) (h : 0 ≤ left) : -1 ≤ leftOf left n ∧ leftOf left n ≤ left := by unfold leftOf; split <;> omega
set_option maxHeartbeats 400000 in
theorem docNodes_any (d : Nat) : ∀ (S : Nat → Prop) (own : Bool) (e : Ex) (v : Value) (left : Int) (w : World), e.depth ≤ d → 0 ≤ left → left ≤ 60 → RepE w S own e v →
    Calls Tryz.prog 173 #[v, .int .i64 left] w fun r w' => r = .returned (.int .i64 (leftOf left e.size)) ∧ Below w.heap.size w w' := by
  induction d with
  | zero => intro S own e v left w hd; cases e; simp [Ex.depth] at hd
  | succ d ih =>
    intro S own e v left w hd hl0 hl1 hrep
    obtain ⟨k, a, b, ps⟩ := e
    simp only [RepE] at hrep
    obtain ⟨s, xs, rfl, hk1, hk2, ha, hb, hs, hes⟩ := hrep
    obtain ⟨hxl, hlen, ad, cap, rfl, hcap⟩ := hs.shape
    have IH := Lib.hid ih
    clear ih
    have HXL := Lib.hid hxl
    clear hxl
    simp only [Ex.depth, Ex.size] at hd ⊢
    go_enter Tryz.func173, Tryz.ntmps173
    go_wp2_with fail
    go_loopw [1, 5] (fun n i wr => ∃ j : Nat, j ≤ ps.length ∧ i = .int .i64 j ∧ (∃ m : Int, m = leftOf left (Ex.sizes (ps.take j) + 1) ∧ n = .int .i64 m) ∧ Below (w.heap.size + 1) (w.alloc (.cells #[.int .i64 k, .int .u64 a, .int .u64 b, .slice ad ps.length cap] 28)) wr) (fun _ i _ => ps.length - (intOf i).toNat)
    case atStart => exact ⟨0, by omega, rfl, ⟨_, by simp [Ex.sizes, leftOf]; omega, rfl⟩, Below.refl _ _⟩
    case round =>
      obtain ⟨j, hj, rfl, ⟨m, hm, rfl⟩, hbel⟩ := hrel
      have hbox : ∀ o, wr.cell? ⟨w.heap.size, o, none⟩ = (w.alloc (.cells #[.int .i64 k, .int .u64 a, .int .u64 b, .slice ad ps.length cap] _)).cell? ⟨w.heap.size, o, none⟩ := fun o => hbel.cell (by simp)
      have hsz : w.heap.size + 1 ≤ wr.heap.size := by have := hbel.size; simpa using this
      have hb0 : Below w.heap.size w wr := ((Below.refl _ _).alloc (Nat.le_refl _) _).trans (hbel.mono (by simp))
      have hr := leftOf_range left (Ex.sizes (ps.take j) + 1) hl0
      rw [← hm] at hr
      by_cases hlt : j < ps.length
      · have hsj := Ex.sizes_ge ps j hlt
        by_cases h0 : 0 ≤ m
        · obtain ⟨bl, off, k', a', b', ad', n', cap', rfl, _, g0, g1, g2, g3, _, ge⟩ := (hes.below hb0 (Nat.le_refl _)).part (hs.below (by omega) hb0 (Nat.le_refl _)) j hlt
          have hdj := Ex.depths_ge ps j hlt
          have HT := Lib.hid (Ex.sizes_take ps j hlt)
          have HM := Lib.hid hm
          clear hm
          go_wp2_with (go_at_call 173; refine (IH.out _ _ ps[j] _ _ _ (by omega) h0 (by omega) ge).mono ?_; rintro e w' ⟨rfl, hb1⟩)
          go_roundw
          case rel => exact ⟨j + 1, by omega, by go_num, ⟨_, by rw [HT.out, HM.out, leftOf_add _ _ _ (by rw [← HM.out]; exact h0)]; congr 1; omega, rfl⟩, hbel.trans (hb1.mono (by omega))⟩
          case measure => simp [intOf]; omega
        · have hfin : m = leftOf left (Ex.sizes ps + 1) := by rw [hm]; exact leftOf_neg _ _ _ (by rw [← hm]; exact h0) (by omega)
          have HF := Lib.hid hfin
          clear hfin hm
          go_wp2_with fail
          go_ret
          exact ⟨ret_int HF.out, hb0⟩
      · have hj2 : j = ps.length := by omega
        subst hj2
        have HM := Lib.hid hm
        clear hm
        go_wp2_with fail
        go_ret
        exact ⟨ret_int (by rw [HM.out]; simp), hb0⟩
set_option maxHeartbeats 400000 in
theorem docFew_any (S : Nat → Prop) (own : Bool) (e : Ex) (v : Value) (w : World) (hrep : RepE w S own e v) :
    Calls Tryz.prog 98 #[v] w fun r w' => r = .returned (.bool (decide (e.size ≤ 60))) ∧ Below w.heap.size w w' := by
  obtain ⟨c0, c1, c2, c3, rfl⟩ := hrep.four
  go_enter Tryz.func98, Tryz.ntmps98
  go_wp2_with fail
  refine (docNodes_any e.depth _ _ e _ 60 _ (Nat.le_refl _) (by omega) (by omega) (hrep.below ((Below.refl _ _).alloc (Nat.le_refl _) _) (Nat.le_refl _))).mono ?_
  rintro e' w' ⟨rfl, hb1⟩
  have hb0 : Below w.heap.size w w' := ((Below.refl _ _).alloc (Nat.le_refl _) _).trans (hb1.mono (by simp))
  by_cases h : e.size ≤ 60
  · have hl : leftOf 60 e.size = 60 - e.size := by unfold leftOf; rw [if_pos (by omega)]
    rw [hl]
    go_wp2_with fail
    go_ret
    exact ⟨ret_bool (by simp [h]; omega), hb0⟩
  · have hl : leftOf 60 e.size = -1 := by unfold leftOf; rw [if_neg (by omega)]
    rw [hl]
    go_wp2_with fail
    go_ret
    exact ⟨ret_bool (by simp [h]), hb0⟩
end Go.Proofs.YtjedgiiplebofaaGreatDoor
namespace Go.Proofs.YtjedgiiplebofaaGreatDoor
open Go.RowKit Go
set_option linter.unusedVariables false
set_option linter.unusedSimpArgs false
end Go.Proofs.YtjedgiiplebofaaGreatDoor
namespace Go.Proofs.YtjedgiiplebofaaGreatDoor
open Go.RowKit Go
set_option linter.unusedVariables false
set_option linter.unusedSimpArgs false
def kindNums (n : Int) : Int := if n = 2 then 1 else if n = 3 then 1 else if n = 4 then 2 else 0
def kindLeast (n : Int) : Int := if n = 5 then 1 else 0
def kindMost (n : Int) : Int := if n = 5 then 1 else if n = 6 then 32 else if n = 7 then 32 else 0
def kindFn (n : Int) (blk : Nat) : Value :=
  if n = 1 then .func (.func 319) #[] #[] else if n = 2 then .func (.func 320) #[] #[] else if n = 3 then .func (.func 321) #[] #[]
  else if n = 4 then .func (.func 322) #[] #[] else if n = 5 then .func (.func 323) #[] #[.pointer (some ⟨blk, 0, none⟩)]
  else if n = 6 then .func (.func 324) #[] #[.pointer (some ⟨blk, 0, none⟩)] else .func (.func 325) #[] #[.pointer (some ⟨blk, 0, none⟩)]
def OfEnds (n : Int) (w : World) (e : Ending) (w' : World) : Prop :=
  (1 ≤ n ∧ n ≤ 7 → ∃ blk, w.heap.size ≤ blk ∧ w'.heap[blk]? = some (.cells #[.func (.func 316) #[] #[]] 419 (0, 0)) ∧
    e = .returned (.tuple #[.agg #[.int .i64 (kindNums n), .int .i64 (kindLeast n), .int .i64 (kindMost n), kindFn n blk], .bool true])) ∧
  (¬ (1 ≤ n ∧ n ≤ 7) → e = .returned (.tuple #[.agg #[.int .i64 0, .int .i64 0, .int .i64 0, .nilFunc], .bool false])) ∧ Below w.heap.size w w'
def tableVal (blk : Nat) : Value := .agg #[.int .i64 0, .int .i64 0, .int .i64 0, .nilFunc,
  .int .i64 0, .int .i64 0, .int .i64 0, .func (.func 319) #[] #[],
  .int .i64 1, .int .i64 0, .int .i64 0, .func (.func 320) #[] #[],
  .int .i64 1, .int .i64 0, .int .i64 0, .func (.func 321) #[] #[],
  .int .i64 2, .int .i64 0, .int .i64 0, .func (.func 322) #[] #[],
  .int .i64 0, .int .i64 1, .int .i64 1, .func (.func 323) #[] #[.pointer (some ⟨blk, 0, none⟩)],
  .int .i64 0, .int .i64 0, .int .i64 32, .func (.func 324) #[] #[.pointer (some ⟨blk, 0, none⟩)],
  .int .i64 0, .int .i64 0, .int .i64 32, .func (.func 325) #[] #[.pointer (some ⟨blk, 0, none⟩)]]
set_option maxHeartbeats 1000000 in
theorem predTable_any (w : World) : Calls Tryz.prog 292 #[] w fun e w' => e = .returned (tableVal (w.heap.size + 1)) ∧ Below w.heap.size w w' ∧
    w'.heap[w.heap.size + 1]? = some (.cells #[.func (.func 316) #[] #[]] 419 (0, 0)) ∧ w.heap.size + 1 < w'.heap.size := by
  go_enter Tryz.func292, Tryz.ntmps292
  go_wp2_with (refine wpList_store_row rfl 392 (.tmp 0) (.tmp 12) rfl rfl w.heap.size rfl _ rfl 392 #[.int .i64 0, .int .i64 0, .int .i64 0, .nilFunc, .int .i64 0, .int .i64 0, .int .i64 0, .nilFunc, .int .i64 0, .int .i64 0, .int .i64 0, .nilFunc, .int .i64 0, .int .i64 0, .int .i64 0, .nilFunc, .int .i64 0, .int .i64 0, .int .i64 0, .nilFunc, .int .i64 0, .int .i64 0, .int .i64 0, .nilFunc, .int .i64 0, .int .i64 0, .int .i64 0, .nilFunc, .int .i64 0, .int .i64 0, .int .i64 0, .nilFunc] (heap_alloc2_old _ _ _) (by kernel_rfl) rfl (by simp [Value.oneCell']) ?_)
  refine bodyPost_ret (v := tableVal (w.heap.size + 1)) (results_cell_row rfl _ _ w.heap.size 392 _ _ _ rfl (setRow_heap _ _ _ _ _ _ (heap_alloc2_old _ _ _)) Tryz.underlying392 rfl (by kernel_rfl)) rfl
    ⟨rfl, below_setRow (((Below.refl _ _).alloc (Nat.le_refl _) _).alloc (by simp) _) _ _ (Nat.le_refl _), ?_, ?_⟩
  · rw [setRow_other _ _ _ _ (by omega)]; exact heap_alloc_at _ _ _ (by simp)
  · simp
theorem tableIdx (k : Nat) (h : 1 ≤ k ∧ k ≤ 7) (blk : Nat) (w : World) :
    (Instr.index 392 (tableVal blk) (.int .i64 k)).run Tryz.prog w = .ok (.agg #[.int .i64 (kindNums k), .int .i64 (kindLeast k), .int .i64 (kindMost k), kindFn k blk]) w := by
  have hc : k = 1 ∨ k = 2 ∨ k = 3 ∨ k = 4 ∨ k = 5 ∨ k = 6 ∨ k = 7 := by omega
  rcases hc with rfl | rfl | rfl | rfl | rfl | rfl | rfl
  all_goals (show _ = _; kernel_rfl)
theorem kindFn_func (k : Int) (blk : Nat) : ∃ fn caps, kindFn k blk = .func fn #[] caps := by
  unfold kindFn
  repeat' split
  all_goals exact ⟨_, _, rfl⟩
theorem predTable_has (w : World) : Calls Tryz.prog 292 #[] w fun e w' => ∃ T, e = .returned T ∧ (∀ (k : Nat), 1 ≤ k → k ≤ 7 → ∀ w'', ∃ fn caps, kindFn k (w.heap.size + 1) = .func fn #[] caps ∧
      (Instr.index 392 T (.int .i64 k)).run Tryz.prog w'' = .ok (.agg #[.int .i64 (kindNums k), .int .i64 (kindLeast k), .int .i64 (kindMost k), .func fn #[] caps]) w'') ∧ Below w.heap.size w w' ∧
    w'.heap[w.heap.size + 1]? = some (.cells #[.func (.func 316) #[] #[]] 419 (0, 0)) ∧ w.heap.size + 1 < w'.heap.size :=
  (predTable_any w).mono fun e w' ⟨he, h2, h3, h4⟩ => ⟨_, he, fun k h1 h7 w'' => by
    obtain ⟨fn, caps, hfn⟩ := kindFn_func k (w.heap.size + 1)
    exact ⟨fn, caps, hfn, by rw [← hfn]; exact tableIdx k ⟨h1, h7⟩ _ w''⟩, h2, h3, h4⟩
set_option maxHeartbeats 1000000 in
theorem predOf_in (k : Nat) (h1 : 1 ≤ k) (h7 : k ≤ 7) (w : World) : Calls Tryz.prog 256 #[.int .i64 k] w (OfEnds k w) := by
  have hd1 : decide ((k : Int) < 1) = false := by simp; omega
  have hd2 : decide ((8 : Int) ≤ (k : Int)) = false := by simp; omega
  go_enter Tryz.func256, Tryz.ntmps256
  go_wp2_with fail
  refine (predTable_has _).mono ?_
  rintro e w' ⟨T, rfl, hT, hb, hh, hz⟩
  have hi := hT k h1 h7
  clear hT
  simp only [World.size_alloc] at hi hh hz
  obtain ⟨hc, hf⟩ := bcell hb
  have hz0 : w.heap.size < w'.heap.size := by omega
  have HH := Lib.hid hh
  clear hh
  obtain ⟨fn, caps, hfn, _⟩ := hi w
  have HF := Lib.hid hfn
  have hi2 : ∀ w'', (Instr.index 392 T (.int .i64 k)).run Tryz.prog w'' = .ok (.agg #[.int .i64 (kindNums k), .int .i64 (kindLeast k), .int .i64 (kindMost k), .func fn #[] caps]) w'' := by
    intro w''
    obtain ⟨fn', caps', hfn', hr⟩ := hi w''
    rw [hfn] at hfn'
    simp only [Value.func.injEq, true_and] at hfn'
    obtain ⟨rfl, rfl⟩ := hfn'
    exact hr
  clear hfn hi
  go_wp2_with fail
  refine bodyPost_ret (v := .tuple #[.agg #[.int .i64 (kindNums k), .int .i64 (kindLeast k), .int .i64 (kindMost k), .func fn #[] caps], .bool true]) (by simp [results, Tryz.results256, go_sem, hc, hz0]) rfl ⟨fun _ => ⟨w.heap.size + 1 + 1, by omega, ?_, by rw [HF.out]⟩, fun h => absurd (by omega) h, ?_⟩
  · rw [Below.heap_setCell _ _ _ _ (by simp; omega), Below.heap_setCell _ _ _ _ (by simp; omega), Below.heap_setCell _ _ _ _ (by simp; omega), Below.heap_setCell _ _ _ _ (by simp; omega)]; exact HH.out
  · exact (((((Below.refl _ _).alloc (Nat.le_refl _) _).trans (hb.mono (by simp))).setCell (by simp) _).setCell (by simp) _).setCell (by simp) _ |>.setCell (by simp) _
set_option maxHeartbeats 1000000 in
theorem predOf_out (n : Int) (h : ¬ (1 ≤ n ∧ n ≤ 7)) (w : World) (h0 : -9223372036854775808 ≤ n) (h1 : n ≤ 9223372036854775807) : Calls Tryz.prog 256 #[.int .i64 n] w (OfEnds n w) := by
  have hp : OfEnds n w (.returned (.tuple #[.agg #[.int .i64 0, .int .i64 0, .int .i64 0, .nilFunc], .bool false])) (w.alloc (.cells #[.int .i64 0, .int .i64 0, .int .i64 0, .nilFunc] 361)) :=
    ⟨fun h' => absurd h' h, fun _ => rfl, (Below.refl _ _).alloc (Nat.le_refl _) _⟩
  have HP := Lib.hid hp
  clear hp
  by_cases hn : n < 1
  · clear h
    go_enter Tryz.func256, Tryz.ntmps256
    go_wp2_with fail
    exact bodyPost_ret (v := .tuple #[.agg #[.int .i64 0, .int .i64 0, .int .i64 0, .nilFunc], .bool false]) (by simp [results, Tryz.results256, go_sem]) rfl HP.out
  · have h8 : 8 ≤ n := by omega
    clear h
    go_enter Tryz.func256, Tryz.ntmps256
    go_wp2_with fail
    exact bodyPost_ret (v := .tuple #[.agg #[.int .i64 0, .int .i64 0, .int .i64 0, .nilFunc], .bool false]) (by simp [results, Tryz.results256, go_sem]) rfl HP.out
theorem predOf_any (n : Int) (w : World) (h0 : -9223372036854775808 ≤ n) (h1 : n ≤ 9223372036854775807) : Calls Tryz.prog 256 #[.int .i64 n] w (OfEnds n w) := by
  by_cases h : 1 ≤ n ∧ n ≤ 7
  · obtain ⟨k, rfl⟩ := Int.eq_ofNat_of_zero_le (show 0 ≤ n by omega)
    exact predOf_in k (by omega) (by omega) w
  · exact predOf_out n h w h0 h1
end Go.Proofs.YtjedgiiplebofaaGreatDoor
namespace Go.Proofs.YtjedgiiplebofaaGreatDoor
open Go.RowKit Go
set_option linter.unusedVariables false
set_option linter.unusedSimpArgs false
def AsksAt (w : World) (S : Nat → Prop) (own : Bool) (es : List Ex) (fid : Nat) (caps : Array Value) (p : Ex → Bool) : Prop :=
  ∀ i (h : i < es.length) (v : Value) (w' : World), Below w.heap.size w w' → RepE w' S own es[i] v → Calls Tryz.prog fid (#[v] ++ caps) w' fun e w'' => e = .returned (.bool (p es[i])) ∧ Below w'.heap.size w' w''
def Enters (fid : Nat) : Prop := ∀ (args : Array Value) (w : World), (callFunc fid args).run Tryz.prog w = .ok (.enter fid args) w
theorem any_take_false {α : Type} (p : α → Bool) (l : List α) (k : Nat) (h : k < l.length) (h0 : (l.take k).any p = false) (h1 : p l[k] = false) : (l.take (k + 1)).any p = false := by
  rw [take_snoc l k h, List.any_append, h0]; simp [h1]
theorem any_get_true {α : Type} (p : α → Bool) (l : List α) (k : Nat) (h : k < l.length) (h1 : p l[k] = true) : l.any p = true :=
  List.any_eq_true.2 ⟨l[k], List.getElem_mem h, h1⟩
set_option maxRecDepth 20000 in
theorem idxFunc_any (S : Nat → Prop) (own : Bool) (es : List Ex) (xs : List Value) (ad : Option Addr) (cap : Nat) (fid : Nat) (caps : Array Value) (p : Ex → Bool) (w : World)
    (hs : Sl w S own 4 es.length xs (.slice ad es.length cap)) (hes : RepEs w S own es xs) (hcall : Enters fid) (hf : AsksAt w S own es fid caps p) :
    Calls Tryz.prog 293 #[.slice ad es.length cap, .func (.func fid) #[] caps] w fun e w' => (∃ r : Int, e = .returned (.int .i64 r) ∧ -1 ≤ r ∧ r ≤ 9223372036854775807 ∧ decide (0 ≤ r) = es.any p) ∧ Below w.heap.size w w' := by
  have hlen := hs.2.1
  have HF := Lib.hid hf
  clear hf
  unfold Enters at hcall
  go_enter Tryz.func293, Tryz.ntmps293
  go_wp2_with fail
  go_loopw [5, 8] (fun _ i wr => ∃ j : Nat, j ≤ es.length ∧ i = .int .i64 j ∧ Hid ((es.take j).any p = false) ∧ Below w.heap.size w wr) (fun _ i _ => es.length - (intOf i).toNat)
  case atStart => exact ⟨0, by omega, rfl, Lib.hid (by simp), Below.refl _ _⟩
  case round =>
    obtain ⟨j, hj, rfl, hno, hbel⟩ := hrel
    by_cases hlt : j < es.length
    · obtain ⟨bl, off, k', a', b', ad', n', cap', rfl, _, g0, g1, g2, g3, _, ge⟩ := (hes.below hbel (Nat.le_refl _)).part (hs.below (by omega) hbel (Nat.le_refl _)) j hlt
      go_wp2_with fail
      refine (HF.out j hlt _ wr hbel ge).mono ?_
      rintro e w' ⟨rfl, hb1⟩
      have hsz := hbel.size
      by_cases hp : p es[j] = true
      · rw [hp]
        have HP := Lib.hid (any_get_true p es j hlt hp)
        clear hp
        go_wp2_with fail
        go_ret
        exact ⟨⟨j, rfl, by omega, by omega, by rw [HP.out]; simp⟩, hbel.trans (hb1.mono (by omega))⟩
      · have hp' : p es[j] = false := by simpa using hp
        rw [hp']
        have HP := Lib.hid (any_take_false p es j hlt hno.out hp')
        clear hp hp'
        go_wp2_with fail
        go_roundw
        case rel => exact ⟨j + 1, by omega, by go_num, HP, hbel.trans (hb1.mono (by omega))⟩
        case measure => simp [intOf]; omega
    · have hj2 : j = es.length := by omega
      subst hj2
      go_wp2_with fail
      go_ret
      exact ⟨⟨-1, rfl, by omega, by omega, by have := hno.out; rw [List.take_length] at this; rw [this]; rfl⟩, hbel⟩
theorem conFunc_any (S : Nat → Prop) (own : Bool) (es : List Ex) (xs : List Value) (ad : Option Addr) (cap : Nat) (fid : Nat) (caps : Array Value) (p : Ex → Bool) (w : World)
    (hs : Sl w S own 4 es.length xs (.slice ad es.length cap)) (hes : RepEs w S own es xs) (hcall : Enters fid) (hf : AsksAt w S own es fid caps p) :
    Calls Tryz.prog 257 #[.slice ad es.length cap, .func (.func fid) #[] caps] w fun e w' => e = .returned (.bool (es.any p)) ∧ Below w.heap.size w w' := by
  have HI := Lib.hid (idxFunc_any S own es xs ad cap fid caps p w hs hes hcall hf)
  clear hf hcall hs hes
  go_enter Tryz.func257, Tryz.ntmps257
  go_wp2_with fail
  refine HI.out.mono ?_
  rintro e w' ⟨⟨r, rfl, h0, h1, hr⟩, hb⟩
  have HR := Lib.hid hr
  clear hr
  go_wp2_with fail
  go_ret
  exact ⟨ret_bool HR.out, hb⟩
theorem enters_nodes : Enters 258 := fun _ _ => by kernel_rfl
theorem nodeOkP_in (k : Nat) (a b n : Nat) (h : 1 ≤ k ∧ k ≤ 7) : nodeOkP k a b n =
    !(decide ((n : Int) < kindLeast k) || decide (kindMost k < (n : Int)) || decide (kindNums k < 2) && decide (0 < b) || decide (kindNums k < 1) && decide (0 < a) || (kindNums k == 2) && decide (a ≤ b)) := by
  have hc : k = 1 ∨ k = 2 ∨ k = 3 ∨ k = 4 ∨ k = 5 ∨ k = 6 ∨ k = 7 := by omega
  rw [Bool.eq_iff_iff]
  rcases hc with rfl | rfl | rfl | rfl | rfl | rfl | rfl
  all_goals (simp [nodeOkP, nodeOk, kindLeast, kindMost, kindNums]; try omega)
end Go.Proofs.YtjedgiiplebofaaGreatDoor
namespace Go.Proofs.YtjedgiiplebofaaGreatDoor
open Go.RowKit Go
set_option linter.unusedVariables false
set_option linter.unusedSimpArgs false
theorem nodeOk_out (k : Int) (a b n : Nat) (h : ¬ (1 ≤ k ∧ k ≤ 7)) : nodeOk k a b n = false := by
  simp only [nodeOk]
  rw [if_neg (by omega), if_neg (by omega), if_neg (by omega), if_neg (by omega), if_neg (by omega)]
theorem okPs_any (ps : List Ex) : Ex.okPs ps = !(ps.any fun e => !e.okP) := by
  rw [Ex.okPs_iff, List.all_eq_not_any_not]
set_option maxHeartbeats 1000000 in
set_option maxRecDepth 20000 in
theorem predNodes2_any (d : Nat) : ∀ (S : Nat → Prop) (own : Bool) (e : Ex) (v : Value) (w : World), e.depth ≤ d → d ≤ 1000 → RepE w S own e v →
    Calls Tryz.prog 177 #[v] w fun r w' => r = .returned (.bool e.okP) ∧ Below w.heap.size w w' := by
  induction d with
  | zero => intro S own e v w hd; cases e; simp [Ex.depth] at hd
  | succ d ih =>
    intro S own e v w hd hd2 hrep
    obtain ⟨k, a, b, ps⟩ := e
    simp only [RepE] at hrep
    obtain ⟨s, xs, rfl, hk1, hk2, ha, hb, hs, hes⟩ := hrep
    obtain ⟨hxl, hlen, ad, cap, rfl, hcap⟩ := hs.shape
    have IH := Lib.hid ih
    clear ih
    have HXL := Lib.hid hxl
    clear hxl
    simp only [Ex.depth, Ex.okP] at hd ⊢
    have hb0 : Below w.heap.size w (w.alloc (.cells #[.int .i64 k, .int .u64 a, .int .u64 b, .slice ad ps.length cap] 28)) := (Below.refl _ _).alloc (Nat.le_refl _) _
    have hasks : ∀ w1, Below w.heap.size w w1 → AsksAt w1 S own ps 258 #[] (fun e => !e.okP) := by
      intro w1 hb1 i hi v w' hb2 hrep
      have hdi := Ex.depths_ge ps i hi
      obtain ⟨c0, c1, c2, c3, rfl⟩ := hrep.four
      show Calls Tryz.prog 258 #[.agg #[c0, c1, c2, c3]] _ _
      go_enter Tryz.func258, Tryz.ntmps258
      go_wp2_with fail
      refine (IH.out S own ps[i] _ _ (by omega) (by omega) (hrep.below ((Below.refl _ _).alloc (Nat.le_refl _) _) (Nat.le_refl _))).mono ?_
      rintro e w'' ⟨rfl, hb3⟩
      go_wp2_with fail
      go_ret
      exact ⟨rfl, ((Below.refl _ _).alloc (Nat.le_refl _) _).trans (hb3.mono (by simp))⟩
    have HA := Lib.hid hasks
    clear hasks
    go_enter Tryz.func177, Tryz.ntmps177
    go_wp2_with fail
    refine (predOf_any k _ hk1 hk2).mono ?_
    rintro e1 w1 ⟨hin, hout, hb1⟩
    have hb2 : Below w.heap.size w w1 := hb0.trans (hb1.mono (by simp))
    obtain ⟨hc, hf⟩ := bcell hb1
    have hz1 : w.heap.size + 1 ≤ w1.heap.size := by have := hb1.size; simpa using this
    have hz0 : w.heap.size < w1.heap.size := by omega
    by_cases hk : 1 ≤ k ∧ k ≤ 7
    · obtain ⟨blk, hblk, hheap, rfl⟩ := hin hk
      clear hin hout hheap hblk
      obtain ⟨kn, rfl⟩ := Int.eq_ofNat_of_zero_le (show 0 ≤ k by omega)
      have HN := Lib.hid (nodeOkP_in kn a b ps.length (by omega))
      obtain ⟨fn, caps, hfn⟩ := kindFn_func kn blk
      rw [hfn]
      clear hfn
      generalize kindNums kn = c1 at *
      generalize kindLeast kn = c2 at *
      generalize kindMost kn = c3 at *
      have hhs := hs.below (by omega) hb2 (Nat.le_refl _)
      have hhe := hes.below hb2 (Nat.le_refl _)
      have hbx : ∀ o, Below w.heap.size w (w1.alloc o) := fun o => hb2.alloc (by omega) _
      have hbx1 : ∀ o, Below w1.heap.size w1 (w1.alloc o) := fun o => (Below.refl _ _).alloc (Nat.le_refl _) _
      have HX := Lib.hid (And.intro hbx hbx1)
      clear hbx hbx1
      have HS := Lib.hid (And.intro hhs hhe)
      clear hhs hhe
      go_wp2_with fail
      all_goals first
        | (refine (conFunc_any S own ps xs ad cap _ #[] (fun e => !e.okP) _ (HS.out.1.below (by omega) (HX.out.2 _) (Nat.le_refl _)) (HS.out.2.below (HX.out.2 _) (Nat.le_refl _)) enters_nodes (HA.out _ (HX.out.1 _))).mono ?_
           rintro e w' ⟨rfl, hb3⟩
           have hT : nodeOkP (kn : Int) a b ps.length = true := by
             rw [HN.out]; simp only [Bool.not_eq_true', Bool.or_eq_false_iff, Bool.and_eq_false_iff, decide_eq_false_iff_not, beq_eq_false_iff_ne, Bool.not_eq_eq_eq_not, Bool.not_true]; omega
           have HT := Lib.hid hT
           clear hT
           go_wp2_with fail
           go_ret
           exact ⟨ret_bool (by rw [HT.out, okPs_any]; simp), (HX.out.1 _).trans (hb3.mono (by simp; omega))⟩)
        | (have hT : nodeOkP (kn : Int) a b ps.length = false := by
             rw [HN.out]; simp only [Bool.not_eq_false', Bool.or_eq_true, Bool.and_eq_true, decide_eq_true_eq, beq_iff_eq, Bool.not_eq_eq_eq_not, Bool.not_false]; omega
           go_ret
           exact ⟨ret_bool (by rw [hT]; rfl), HX.out.1 _⟩)
    · have he := hout hk
      subst he
      clear hin hout
      go_wp2_with fail
      go_ret
      exact ⟨ret_bool (by rw [nodeOkP, nodeOk_out _ _ _ _ hk]; rfl), hb2.alloc (by have := hb2.size; omega) _⟩
end Go.Proofs.YtjedgiiplebofaaGreatDoor
