/- Edges read by the reference: direct walks. Ahead of it: Edges read, on both sides: direct walks. -/
import Derived.Test.YtagnalfkmdjajaaGreatDoorVG06
import Derived.Test.YtagnalfkmdjajaaGreatDoorV21
import Derived.Test.YtagnalfkmdjajaaGreatDoorV18
import Derived.Deep.RegionHeld3
import Derived.Laws.Rows
import Derived.Deep.Cut
import Derived.Deep.CutRange
namespace Go.Proofs.YtagnalfkmdjajaaGreatDoor
open Go.RowKit Go
set_option linter.unusedVariables false
set_option linter.unusedSimpArgs false
theorem cut_le (l sep : List UInt8) : (Lib.cut l sep).1.length ≤ l.length ∧ (Lib.cut l sep).2.1.length ≤ l.length := by
  unfold Lib.cut
  split <;> simp
  omega
theorem atoi_three (l : List UInt8) : (∃ u, Lib.atoiAll l = .ok u) ∨ Lib.atoiAll l = .range ∨ Lib.atoiAll l = Lib.atoiAll [] := by
  cases h : Lib.atoiAll l with
  | ok u => exact .inl ⟨u, rfl⟩
  | range => exact .inr (.inl rfl)
  | _ => exact .inr (.inr rfl)
def Ed.zero : Ed := ⟨0, 0, 0, 0, 0, 0, 0, 0, 0⟩
def edRes : Option Ed → Value
  | some e => .tuple #[.agg e.vals.toArray, .int .i64 0]
  | none => .tuple #[.agg Ed.zero.vals.toArray, .int .i64 230]
theorem atoiIs_any (s : ByteArray) (w : World) (hs : s.size ≤ 10000) (hL : Lq w.heap.size w) : Calls Tryz.prog 77 #[.string s] w fun e w' => ∃ (v : Int) (ev : Value), e = .returned (.tuple #[.int .i64 v, ev]) ∧ AtoiIs s.data.toList v ∧ Below w.heap.size w w' := by
  have hsat := Lib.atoiSat_bounds s.data.toList
  rcases atoi_three s.data.toList with ⟨u, hp⟩ | hp | hp
  · have hb := Lib.atoiAll_bounds hp
    refine (Tryz.strconv_Atoi_ok s (by omega) _ hp w).mono fun e w' => ?_
    rintro ⟨rfl, hw'⟩
    refine ⟨_, _, rfl, ⟨hb.1, hb.2, .inl hp⟩, ?_⟩
    rcases hw' with rfl | ⟨t, rfl⟩
    · exact Below.refl _ _
    · exact Lib.bytesWorld_below _ _ _
  · obtain ⟨tp, p, hs'⟩ := hL.lv.rng
    refine (Tryz.strconv_Atoi_range_var s (by omega) hp tp p w hs').mono fun e w' => ?_
    rintro ⟨N, rfl, _, _, hb⟩
    exact ⟨_, _, rfl, ⟨hsat.1, hsat.2, .inr fun n e => by rw [hp] at e; cases e⟩, hb⟩
  · obtain ⟨tp, p, hs'⟩ := hL.lv.syn
    refine (Tryz.strconv_Atoi_syntax_var s (by omega) hp tp p w hs').mono fun e w' => ?_
    rintro ⟨N, rfl, _, _, hb⟩
    exact ⟨_, _, rfl, ⟨by omega, by omega, .inr fun n e => by rw [hp] at e; cases e⟩, hb⟩
theorem puIs_any (s : ByteArray) (w : World) (hs : s.size ≤ 10000) (hL : Lq w.heap.size w) : Calls Tryz.prog 78 #[.string s, .int .i64 10, .int .i64 64] w fun e w' => ∃ (v : Nat) (ev : Value), e = .returned (.tuple #[.int .u64 v, ev]) ∧ PuIs s.data.toList v ∧ Below w.heap.size w w' := by
  rcases parse_three s.data.toList with ⟨u, hp⟩ | ⟨hno, hp | hp⟩
  · refine (Tryz.strconv_ParseUint_10_at64_ok s (by omega) _ hp w).mono fun e w' => ?_
    rintro ⟨rfl, hw'⟩
    refine ⟨_, _, rfl, ⟨(numB_of_ok hp).1, .inl hp⟩, ?_⟩
    rcases hw' with rfl | rfl
    · exact Below.refl _ _
    · exact Lib.bytesWorld_below _ _ _
  · obtain ⟨tp, p, hs'⟩ := hL.lv.rng
    refine (Tryz.strconv_ParseUint_10_at64_range_var s (by omega) hp tp p w hs').mono fun e w' => ?_
    rintro ⟨N, rfl, _, _, hb⟩
    exact ⟨18446744073709551615, _, rfl, ⟨by omega, .inr hno⟩, hb⟩
  · obtain ⟨tp, p, hs'⟩ := hL.lv.syn
    refine (Tryz.strconv_ParseUint_10_at64_syntax_var s (by omega) hp tp p w hs').mono fun e w' => ?_
    rintro ⟨N, rfl, _, _, hb⟩
    exact ⟨0, _, rfl, ⟨by omega, .inr hno⟩, hb⟩
/-- What version makes of a text. -/
def VerIs (l : List UInt8) (m n : Nat) : Prop := PuIs (Lib.cut l [46]).1 m ∧ PuIs (Lib.cut l [46]).2.1 n
set_option maxHeartbeats 2000000 in
theorem itemVer_any (s : ByteArray) (w : World) (hs : s.size ≤ 10000) (hL : Lq w.heap.size w) : Calls Tryz.prog 79 #[.string s] w fun e w' => ∃ m n : Nat, e = .returned (.agg #[.int .u64 m, .int .u64 n]) ∧ VerIs s.data.toList m n ∧ Below w.heap.size w w' := by
  have g0 := heap_alloc_new w (.cells #[.int .u64 0, .int .u64 0] 52)
  have hb0 : Below w.heap.size w (w.alloc (.cells #[.int .u64 0, .int .u64 0] 52)) := (Below.refl _ _).alloc (Nat.le_refl _) _
  have hs0 : (w.alloc (.cells #[.int .u64 0, .int .u64 0] 52)).heap.size = w.heap.size + 1 := World.size_alloc _ _
  have hcl := cut_le s.data.toList [46]
  rw [ba_size] at hcl
  obtain ⟨A, hA⟩ : ∃ A : ByteArray, A = ⟨(Lib.cut s.data.toList [46]).1.toArray⟩ := ⟨_, rfl⟩
  obtain ⟨B, hB⟩ : ∃ B : ByteArray, B = ⟨(Lib.cut s.data.toList [46]).2.1.toArray⟩ := ⟨_, rfl⟩
  have hAd : A.data.toList = (Lib.cut s.data.toList [46]).1 := by rw [hA]
  have hBd : B.data.toList = (Lib.cut s.data.toList [46]).2.1 := by rw [hB]
  have HC := Lib.hid (cut_any 46 s (w.alloc (.cells #[.int .u64 0, .int .u64 0] 52)) (by omega) ((hL.below hb0).mono (by omega)))
  rw [← hA, ← hB] at HC
  obtain ⟨mo, hmo⟩ : ∃ mo, mo = (Lib.cut s.data.toList [46]).2.2 := ⟨_, rfl⟩
  rw [← hmo] at HC
  have HS : Hid (A.size ≤ 10000 ∧ B.size ≤ 10000 ∧ A.data.toList = (Lib.cut s.data.toList [46]).1 ∧ B.data.toList = (Lib.cut s.data.toList [46]).2.1) := Lib.hid ⟨by rw [← ba_size, hAd]; omega, by rw [← ba_size, hBd]; omega, hAd, hBd⟩
  have H0 := Lib.hid (And.intro hb0 (And.intro hs0 (And.intro g0 hL)))
  clear g0 hb0 hs0 hcl hA hB hAd hBd hmo hL
  go_enter Tryz.func79, Tryz.ntmps79
  go_wp2_with fail
  refine HC.out.mono ?_
  rintro e w1 ⟨rfl, hb1⟩
  have H1 : Hid (Below w.heap.size w w1 ∧ w.heap.size < w1.heap.size ∧ w1.heap[w.heap.size]? = some (.cells #[.int .u64 0, .int .u64 0] 52 (0, 0)) ∧ Lq w1.heap.size w1) := Lib.hid (by
    obtain ⟨q1, q2, q3, q4⟩ := H0.out
    have := hb1.size
    exact ⟨q1.trans (hb1.mono (by omega)), by omega, (hb1.block _ (by omega)).trans q3, ((q4.below q1).below (hb1.mono (by omega))).mono (by omega)⟩)
  clear hb1 H0 HC
  go_wp2_with fail
  refine (puIs_any A w1 HS.out.1 H1.out.2.2.2).mono ?_
  rintro e w2 ⟨m, ev, rfl, hm, hb2⟩
  have H2 : Hid (Below w.heap.size w w2 ∧ w.heap.size < w2.heap.size ∧ w2.heap[w.heap.size]? = some (.cells #[.int .u64 0, .int .u64 0] 52 (0, 0)) ∧ Lq w2.heap.size w2 ∧ PuIs A.data.toList m) := Lib.hid (by
    obtain ⟨q1, q2, q3, q4⟩ := H1.out
    have := hb2.size
    exact ⟨q1.trans (hb2.mono (by omega)), by omega, (hb2.block _ (by omega)).trans q3, (q4.below hb2).mono (by omega), hm⟩)
  clear hb2 hm H1
  go_wp2_with fail
  refine (puIs_any B w2 HS.out.2.1 H2.out.2.2.2.1).mono ?_
  rintro e w3 ⟨n, ev2, rfl, hn, hb3⟩
  have g3 := (hb3.block _ H2.out.2.1).trans H2.out.2.2.1
  have H3 : Hid (Below w.heap.size w w3 ∧ VerIs s.data.toList m n) := Lib.hid ⟨H2.out.1.trans (hb3.mono (by have := H2.out.2.1; omega)), by rw [VerIs, ← HS.out.2.2.1, ← HS.out.2.2.2]; exact ⟨H2.out.2.2.2.2, hn⟩⟩
  clear hb3 hn H2
  go_wp2_with (refine wpList_store_row rfl 52 (.tmp 2) (.tmp 28) rfl rfl w.heap.size rfl _ rfl 52 _ g3 (by kernel_rfl) rfl (by simp [Value.oneCell']) ?_)
  refine bodyPost_ret (v := .agg #[.int .u64 m, .int .u64 n]) (results_cell_row rfl _ _ w.heap.size 52 _ _ _ rfl (setRow_heap _ _ _ _ _ _ g3) Tryz.underlying52 rfl (by kernel_rfl)) rfl ⟨m, n, rfl, H3.out.2, below_setRow H3.out.1 _ _ (Nat.le_refl _)⟩
def pVer (l : List UInt8) (S : Nat → Prop) (v : Value) (w : World) : Prop := ∃ m n : Nat, v = .agg #[.int .u64 m, .int .u64 n] ∧ VerIs l m n
theorem steadyVer (l : List UInt8) : Steady (pVer l) := fun _ _ _ _ _ _ _ _ h => h
/-- Where a text stands first. -/
def IdxIs (l : List (List UInt8)) (x : List UInt8) (k : Int) : Prop := (k = -1 ∧ x ∉ l) ∨ ∃ j : Nat, k = (j : Nat) ∧ l[j]? = some x ∧ x ∉ l.take j
theorem slIndex_any (S : Nat → Prop) (l : List (List UInt8)) (v : Value) (x : ByteArray) (w : World) (hr : RepS w S l v) (hl : l.length ≤ 1000) :
    Calls Tryz.prog 41 #[v, .string x] w fun e w' => ∃ k : Int, e = .returned (.int .i64 k) ∧ IdxIs l x.data.toList k ∧ w' = w := by
  obtain ⟨_, _, ad, cap, rfl, _⟩ := Sl.shape hr
  have HR := Lib.hid hr
  clear hr
  go_enter Tryz.func41, Tryz.ntmps41
  go_wp2_with fail
  go_loop [8] (fun i => ∃ j : Nat, j ≤ l.length ∧ i = .int .i64 j ∧ Hid (x.data.toList ∉ l.take j)) (fun i => l.length - (intOf i).toNat)
  case atStart => exact ⟨0, by omega, rfl, Lib.hid (by simp)⟩
  case round =>
    obtain ⟨j, hj, rfl, HQ⟩ := hrel
    by_cases hlt : j < l.length
    · obtain ⟨bl, off, rfl, _, hcell⟩ := RepS.at HR.out (by omega)
      have g := hcell j hlt
      obtain ⟨Y, hY⟩ : ∃ Y : ByteArray, Y = ⟨l[j].toArray⟩ := ⟨_, rfl⟩
      rw [← hY] at g
      have x1 : (0 : Int) ≤ (j : Int) := by omega
      have x2 : (j : Int) < (l.length : Int) := by omega
      have hYd : Y.data.toList = l[j] := by rw [hY]
      by_cases he : x.data.toList = l[j]
      · have t1 : (x.toList == Y.toList) = true := by rw [ByteArray.toList_eq, ByteArray.toList_eq, hYd, he]; simp
        have HE : Hid (l[j]? = some x.data.toList) := Lib.hid (by rw [he]; exact List.getElem?_eq_getElem hlt)
        clear hcell hY hYd he
        go_wp2_with fail
        go_ret
        exact ⟨j, rfl, .inr ⟨j, rfl, HE.out, HQ.out⟩, rfl⟩
      · have t1 : (x.toList == Y.toList) = false := by rw [ByteArray.toList_eq, ByteArray.toList_eq, hYd]; simpa using he
        have HN : Hid (x.data.toList ∉ l.take (j + 1)) := Lib.hid (by rw [List.take_succ_eq_append_getElem hlt]; simp only [List.mem_append, List.mem_cons, List.not_mem_nil, or_false, not_or]; exact ⟨HQ.out, he⟩)
        clear hcell hY hYd he
        go_wp2_with fail
        go_round
        case rel => exact ⟨j + 1, by omega, by go_num, HN⟩
        case measure => simp [intOf]; omega
    · have hj2 : j = l.length := by omega
      subst hj2
      rw [List.take_length] at HQ
      go_wp2_with fail
      go_ret
      exact ⟨-1, rfl, .inl ⟨rfl, HQ.out⟩, rfl⟩
theorem idx_ed {x : List UInt8} {k : Int} (h : IdxIs nms20 x k) : max 0 k = edKind x := by
  rcases h with ⟨rfl, h⟩ | ⟨j, rfl, hj, _⟩
  · unfold edKind
    have h1 : ¬ x = edWord 1 := fun e => h (by rw [e]; decide)
    have h2 : ¬ x = edWord 2 := fun e => h (by rw [e]; decide)
    have h3 : ¬ x = edWord 3 := fun e => h (by rw [e]; decide)
    have h4 : ¬ x = edWord 4 := fun e => h (by rw [e]; decide)
    have h5 : ¬ x = edWord 5 := fun e => h (by rw [e]; decide)
    rw [if_neg h1, if_neg h2, if_neg h3, if_neg h4, if_neg h5]; rfl
  · match j, hj with
    | 0, hj => injection hj with hj; subst hj; decide
    | 1, hj => injection hj with hj; subst hj; decide
    | 2, hj => injection hj with hj; subst hj; decide
    | 3, hj => injection hj with hj; subst hj; decide
    | 4, hj => injection hj with hj; subst hj; decide
    | 5, hj => injection hj with hj; subst hj; decide
    | j + 6, hj => simp [nms20] at hj
theorem seven_of {α : Type} {l : List α} (h : l.length = 7) : ∃ a b c d e f g, l = [a, b, c, d, e, f, g] := by
  match l, h with
  | [a, b, c, d, e, f, g], _ => exact ⟨a, b, c, d, e, f, g, rfl⟩
theorem CB.cells9 {TX T : TypeId} {c base sz n : Nat} {v : Value} {xs : List Value} {W wr : World} {a0 a1 a2 a3 a4 a5 a6 a7 a8 : Value} (h : CB TX c base #[a0, a1, a2, a3, a4, a5, a6, a7, a8] T sz v n xs W wr) :
    (wr.cell? ⟨c, 0, none⟩ = some a0 ∧ wr.cell? ⟨c, 1, none⟩ = some a1 ∧ wr.cell? ⟨c, 2, none⟩ = some a2 ∧ wr.cell? ⟨c, 3, none⟩ = some a3 ∧ wr.cell? ⟨c, 4, none⟩ = some a4 ∧ wr.cell? ⟨c, 5, none⟩ = some a5 ∧ wr.cell? ⟨c, 6, none⟩ = some a6 ∧ wr.cell? ⟨c, 7, none⟩ = some a7 ∧ wr.cell? ⟨c, 8, none⟩ = some a8) ∧ ∀ o, wr.frozen? ⟨c, o, none⟩ = false := by
  refine ⟨⟨?_, ?_, ?_, ?_, ?_, ?_, ?_, ?_, ?_⟩, fun o => by rw [frozen_of_row wr _ o _ _ h.row]⟩
  all_goals (rw [cell_of_row wr _ _ _ _ _ h.row]; rfl)
def pIdx (x : List UInt8) (S : Nat → Prop) (v : Value) (w : World) : Prop := ∃ k : Int, v = .int .i64 k ∧ IdxIs nms20 x k
theorem steadyIdx (x : List UInt8) : Steady (pIdx x) := fun _ _ _ _ _ _ _ _ h => h
set_option maxHeartbeats 20000000 in
set_option maxRecDepth 100000 in
theorem edRead_any (s : ByteArray) (hs : s.size ≤ 10000) (w : World) (hL : Lq w.heap.size w) : Calls Tryz.prog 43 #[.string s] w fun e w' => e = .returned (edRes (edRead s.data.toList)) ∧ Below w.heap.size w w' := by
  have g0 := heap_alloc_new w (.cells #[.int .i64 0, .int .i64 0, .int .i64 0, .int .u64 0, .int .u64 0, .int .u64 0, .int .u64 0, .int .u64 0, .int .i64 0] 54)
  have hb0 : Below w.heap.size w (w.alloc (.cells #[.int .i64 0, .int .i64 0, .int .i64 0, .int .u64 0, .int .u64 0, .int .u64 0, .int .u64 0, .int .u64 0, .int .i64 0] 54)) := (Below.refl _ _).alloc (Nat.le_refl _) _
  have hs0 : (w.alloc (.cells #[.int .i64 0, .int .i64 0, .int .i64 0, .int .u64 0, .int .u64 0, .int .u64 0, .int .u64 0, .int .u64 0, .int .i64 0] 54)).heap.size = w.heap.size + 1 := World.size_alloc _ _
  have HSP := Lib.hid (split_any 32 s (w.alloc (.cells #[.int .i64 0, .int .i64 0, .int .i64 0, .int .u64 0, .int .u64 0, .int .u64 0, .int .u64 0, .int .u64 0, .int .i64 0] 54)) (by omega) ((hL.below hb0).mono (by omega)))
  obtain ⟨l, hl⟩ : ∃ l, cuts 32 s.data.toList = l := ⟨_, rfl⟩
  rw [hl] at HSP
  have H0 := Lib.hid (And.intro hb0 (And.intro hs0 (And.intro g0 hL)))
  clear g0 hb0 hs0 hL
  go_enter Tryz.func43, Tryz.ntmps43
  go_wp2_with fail
  refine HSP.out.mono ?_
  rintro e w1 ⟨rfl, rfl⟩
  have H1 : Hid (Below w.heap.size w ((w.alloc (.cells #[.int .i64 0, .int .i64 0, .int .i64 0, .int .u64 0, .int .u64 0, .int .u64 0, .int .u64 0, .int .u64 0, .int .i64 0] 54)).alloc (.cells (strs l).toArray 9)) ∧ ((w.alloc (.cells #[.int .i64 0, .int .i64 0, .int .i64 0, .int .u64 0, .int .u64 0, .int .u64 0, .int .u64 0, .int .u64 0, .int .i64 0] 54)).alloc (.cells (strs l).toArray 9)).heap.size = w.heap.size + 2 ∧ ((w.alloc (.cells #[.int .i64 0, .int .i64 0, .int .i64 0, .int .u64 0, .int .u64 0, .int .u64 0, .int .u64 0, .int .u64 0, .int .i64 0] 54)).alloc (.cells (strs l).toArray 9)).heap[w.heap.size]? = some (.cells #[.int .i64 0, .int .i64 0, .int .i64 0, .int .u64 0, .int .u64 0, .int .u64 0, .int .u64 0, .int .u64 0, .int .i64 0] 54 (0, 0)) ∧ Lq w.heap.size ((w.alloc (.cells #[.int .i64 0, .int .i64 0, .int .i64 0, .int .u64 0, .int .u64 0, .int .u64 0, .int .u64 0, .int .u64 0, .int .i64 0] 54)).alloc (.cells (strs l).toArray 9)) ∧ ((w.alloc (.cells #[.int .i64 0, .int .i64 0, .int .i64 0, .int .u64 0, .int .u64 0, .int .u64 0, .int .u64 0, .int .u64 0, .int .i64 0] 54)).alloc (.cells (strs l).toArray 9)).heap[w.heap.size + 1]? = some (.cells (strs l).toArray 9 (0, 0))) := Lib.hid (by
    obtain ⟨q1, q2, q3, q4⟩ := H0.out
    have hb : Below (w.heap.size + 1) (w.alloc (.cells #[.int .i64 0, .int .i64 0, .int .i64 0, .int .u64 0, .int .u64 0, .int .u64 0, .int .u64 0, .int .u64 0, .int .i64 0] 54)) ((w.alloc (.cells #[.int .i64 0, .int .i64 0, .int .i64 0, .int .u64 0, .int .u64 0, .int .u64 0, .int .u64 0, .int .u64 0, .int .i64 0] 54)).alloc (.cells (strs l).toArray 9)) := (Below.refl _ _).alloc (by omega) _
    exact ⟨q1.trans (hb.mono (by omega)), by rw [World.size_alloc, q2], (hb.block _ (by omega)).trans q3, (q4.below q1).below (hb.mono (by omega)), heap_alloc_at _ _ _ q2.symm⟩)
  have hsz : (w.alloc (.cells #[.int .i64 0, .int .i64 0, .int .i64 0, .int .u64 0, .int .u64 0, .int .u64 0, .int .u64 0, .int .u64 0, .int .i64 0] 54)).heap.size = w.heap.size + 1 := H0.out.2.1
  rw [hsz]
  generalize ((w.alloc (.cells #[.int .i64 0, .int .i64 0, .int .i64 0, .int .u64 0, .int .u64 0, .int .u64 0, .int .u64 0, .int .u64 0, .int .i64 0] 54)).alloc (.cells (strs l).toArray 9)) = w1 at H1 ⊢
  clear H0 HSP hsz
  by_cases h7 : l.length = 7
  · have e7 := h7
    obtain ⟨l0, l1, l2, l3, l4, l5, l6, hq⟩ := seven_of h7
    have hle : ∀ y ∈ cuts 32 s.data.toList, y.length ≤ 10000 := fun y hy => by have := cuts_mem_length 32 s.data.toList y hy; rw [ba_size] at this; omega
    rw [hl, hq] at hle
    obtain ⟨L0, hL0⟩ : ∃ L : ByteArray, L = ⟨l0.toArray⟩ := ⟨_, rfl⟩
    have zL0 : L0.size ≤ 10000 := by rw [hL0, ← ba_size]; exact hle l0 (by simp)
    obtain ⟨L1, hL1⟩ : ∃ L : ByteArray, L = ⟨l1.toArray⟩ := ⟨_, rfl⟩
    have zL1 : L1.size ≤ 10000 := by rw [hL1, ← ba_size]; exact hle l1 (by simp)
    obtain ⟨L2, hL2⟩ : ∃ L : ByteArray, L = ⟨l2.toArray⟩ := ⟨_, rfl⟩
    have zL2 : L2.size ≤ 10000 := by rw [hL2, ← ba_size]; exact hle l2 (by simp)
    obtain ⟨L3, hL3⟩ : ∃ L : ByteArray, L = ⟨l3.toArray⟩ := ⟨_, rfl⟩
    have zL3 : L3.size ≤ 10000 := by rw [hL3, ← ba_size]; exact hle l3 (by simp)
    obtain ⟨L4, hL4⟩ : ∃ L : ByteArray, L = ⟨l4.toArray⟩ := ⟨_, rfl⟩
    have zL4 : L4.size ≤ 10000 := by rw [hL4, ← ba_size]; exact hle l4 (by simp)
    obtain ⟨L5, hL5⟩ : ∃ L : ByteArray, L = ⟨l5.toArray⟩ := ⟨_, rfl⟩
    have zL5 : L5.size ≤ 10000 := by rw [hL5, ← ba_size]; exact hle l5 (by simp)
    obtain ⟨L6, hL6⟩ : ∃ L : ByteArray, L = ⟨l6.toArray⟩ := ⟨_, rfl⟩
    have zL6 : L6.size ≤ 10000 := by rw [hL6, ← ba_size]; exact hle l6 (by simp)
    have hcell : ∀ j x, l[j]? = some x → w1.cell? ⟨w.heap.size + 1, j, none⟩ = some (.string ⟨x.toArray⟩) := fun j x hx => by rw [cell_of_row w1 _ j _ _ _ H1.out.2.2.2.2]; simp [strs, hx]
    rw [hq] at hcell
    have k0 := hcell 0 l0 rfl
    rw [← hL0] at k0
    have k1 := hcell 1 l1 rfl
    rw [← hL1] at k1
    have k2 := hcell 2 l2 rfl
    rw [← hL2] at k2
    have k3 := hcell 3 l3 rfl
    rw [← hL3] at k3
    have k4 := hcell 4 l4 rfl
    rw [← hL4] at k4
    have k5 := hcell 5 l5 rfl
    rw [← hL5] at k5
    have k6 := hcell 6 l6 rfl
    rw [← hL6] at k6
    have d0 : L0.data.toList = l0 := by rw [hL0]
    have d1 : L1.data.toList = l1 := by rw [hL1]
    have d2 : L2.data.toList = l2 := by rw [hL2]
    have d3 : L3.data.toList = l3 := by rw [hL3]
    have d4 : L4.data.toList = l4 := by rw [hL4]
    have d5 : L5.data.toList = l5 := by rw [hL5]
    have d6 : L6.data.toList = l6 := by rw [hL6]
    have HD := Lib.hid (And.intro hl (And.intro hq (And.intro d0 (And.intro d1 (And.intro d2 (And.intro d3 (And.intro d4 (And.intro d5 d6))))))))
    have HS1 := Lib.hid H1.out.2.1
    clear hle hcell hL0 d0 hL1 d1 hL2 d2 hL3 d3 hL4 d4 hL5 d5 hL6 d6 hq hl h7
    go_upto_region 5 with fail
    have HW : Hid (CB 54 w1.heap.size (w1.heap.size + 1) #[.int .i64 0, .int .i64 0, .int .i64 0, .int .u64 0, .int .u64 0, .int .u64 0, .int .u64 0, .int .u64 0, .int .i64 0] 3 1 (.slice none 0 0) 0 [] (w1.alloc (.cells #[.int .i64 0, .int .i64 0, .int .i64 0, .int .u64 0, .int .u64 0, .int .u64 0, .int .u64 0, .int .u64 0, .int .i64 0] 54)) (w1.alloc (.cells #[.int .i64 0, .int .i64 0, .int .i64 0, .int .u64 0, .int .u64 0, .int .u64 0, .int .u64 0, .int .u64 0, .int .i64 0] 54)) ∧ Below w.heap.size w (w1.alloc (.cells #[.int .i64 0, .int .i64 0, .int .i64 0, .int .u64 0, .int .u64 0, .int .u64 0, .int .u64 0, .int .u64 0, .int .i64 0] 54)) ∧ (w1.alloc (.cells #[.int .i64 0, .int .i64 0, .int .i64 0, .int .u64 0, .int .u64 0, .int .u64 0, .int .u64 0, .int .u64 0, .int .i64 0] 54)).heap[w.heap.size]? = some (.cells #[.int .i64 0, .int .i64 0, .int .i64 0, .int .u64 0, .int .u64 0, .int .u64 0, .int .u64 0, .int .u64 0, .int .i64 0] 54 (0, 0)) ∧ Lq w.heap.size (w1.alloc (.cells #[.int .i64 0, .int .i64 0, .int .i64 0, .int .u64 0, .int .u64 0, .int .u64 0, .int .u64 0, .int .u64 0, .int .i64 0] 54))) := Lib.hid (by
      obtain ⟨q1, q2, q3, q4, _⟩ := H1.out
      have hb : Below w1.heap.size w1 (w1.alloc (.cells #[.int .i64 0, .int .i64 0, .int .i64 0, .int .u64 0, .int .u64 0, .int .u64 0, .int .u64 0, .int .u64 0, .int .i64 0] 54)) := (Below.refl _ _).alloc (Nat.le_refl _) _
      have hz : (w1.alloc (.cells #[.int .i64 0, .int .i64 0, .int .i64 0, .int .u64 0, .int .u64 0, .int .u64 0, .int .u64 0, .int .u64 0, .int .i64 0] 54)).heap.size = w1.heap.size + 1 := World.size_alloc _ _
      exact ⟨⟨Below.refl _ _, by omega, by omega, heap_alloc_new _ _, World.ownsRow_nil _ _ _ _⟩, q1.trans (hb.mono (by omega)), (hb.block _ (by omega)).trans q3, q4.below (hb.mono (by omega))⟩)
    have k0 : (w1.alloc (.cells #[.int .i64 0, .int .i64 0, .int .i64 0, .int .u64 0, .int .u64 0, .int .u64 0, .int .u64 0, .int .u64 0, .int .i64 0] 54)).cell? ⟨w.heap.size + 1, 0, none⟩ = some (.string L0) := (Below.cell (B := w1.heap.size) ((Below.refl _ _).alloc (Nat.le_refl _) _) (p := ⟨w.heap.size + 1, 0, none⟩) (by show w.heap.size + 1 < _; have := HS1.out; omega)).trans k0
    have k1 : (w1.alloc (.cells #[.int .i64 0, .int .i64 0, .int .i64 0, .int .u64 0, .int .u64 0, .int .u64 0, .int .u64 0, .int .u64 0, .int .i64 0] 54)).cell? ⟨w.heap.size + 1, 1, none⟩ = some (.string L1) := (Below.cell (B := w1.heap.size) ((Below.refl _ _).alloc (Nat.le_refl _) _) (p := ⟨w.heap.size + 1, 1, none⟩) (by show w.heap.size + 1 < _; have := HS1.out; omega)).trans k1
    have k2 : (w1.alloc (.cells #[.int .i64 0, .int .i64 0, .int .i64 0, .int .u64 0, .int .u64 0, .int .u64 0, .int .u64 0, .int .u64 0, .int .i64 0] 54)).cell? ⟨w.heap.size + 1, 2, none⟩ = some (.string L2) := (Below.cell (B := w1.heap.size) ((Below.refl _ _).alloc (Nat.le_refl _) _) (p := ⟨w.heap.size + 1, 2, none⟩) (by show w.heap.size + 1 < _; have := HS1.out; omega)).trans k2
    have k3 : (w1.alloc (.cells #[.int .i64 0, .int .i64 0, .int .i64 0, .int .u64 0, .int .u64 0, .int .u64 0, .int .u64 0, .int .u64 0, .int .i64 0] 54)).cell? ⟨w.heap.size + 1, 3, none⟩ = some (.string L3) := (Below.cell (B := w1.heap.size) ((Below.refl _ _).alloc (Nat.le_refl _) _) (p := ⟨w.heap.size + 1, 3, none⟩) (by show w.heap.size + 1 < _; have := HS1.out; omega)).trans k3
    have k4 : (w1.alloc (.cells #[.int .i64 0, .int .i64 0, .int .i64 0, .int .u64 0, .int .u64 0, .int .u64 0, .int .u64 0, .int .u64 0, .int .i64 0] 54)).cell? ⟨w.heap.size + 1, 4, none⟩ = some (.string L4) := (Below.cell (B := w1.heap.size) ((Below.refl _ _).alloc (Nat.le_refl _) _) (p := ⟨w.heap.size + 1, 4, none⟩) (by show w.heap.size + 1 < _; have := HS1.out; omega)).trans k4
    have k5 : (w1.alloc (.cells #[.int .i64 0, .int .i64 0, .int .i64 0, .int .u64 0, .int .u64 0, .int .u64 0, .int .u64 0, .int .u64 0, .int .i64 0] 54)).cell? ⟨w.heap.size + 1, 5, none⟩ = some (.string L5) := (Below.cell (B := w1.heap.size) ((Below.refl _ _).alloc (Nat.le_refl _) _) (p := ⟨w.heap.size + 1, 5, none⟩) (by show w.heap.size + 1 < _; have := HS1.out; omega)).trans k5
    have k6 : (w1.alloc (.cells #[.int .i64 0, .int .i64 0, .int .i64 0, .int .u64 0, .int .u64 0, .int .u64 0, .int .u64 0, .int .u64 0, .int .i64 0] 54)).cell? ⟨w.heap.size + 1, 6, none⟩ = some (.string L6) := (Below.cell (B := w1.heap.size) ((Below.refl _ _).alloc (Nat.le_refl _) _) (p := ⟨w.heap.size + 1, 6, none⟩) (by show w.heap.size + 1 < _; have := HS1.out; omega)).trans k6
    generalize (w1.alloc (.cells #[.int .i64 0, .int .i64 0, .int .i64 0, .int .u64 0, .int .u64 0, .int .u64 0, .int .u64 0, .int .u64 0, .int .i64 0] 54)) = W at HW k0 k1 k2 k3 k4 k5 k6 ⊢
    have hlt : w.heap.size + 1 < w1.heap.size := by have := HS1.out; omega
    have HK := Lib.hid (And.intro k0 (And.intro k1 (And.intro k2 (And.intro k3 (And.intro k4 (And.intro k5 k6))))))
    have hc0 := Lib.hid HW.out.1
    have HLW : Hid (∀ wr, Below w1.heap.size W wr → w1.heap.size < wr.heap.size → Lq wr.heap.size wr) := Lib.hid (fun wr h h2 => (HW.out.2.2.2.below (h.mono (by omega))).mono (by omega))
    clear k0 k1 k2 k3 k4 k5 k6 H1
    have y0 := (hc0.out.oldCell (o := 0) hlt).trans HK.out.1
    go_wp2_with fail
    refine (atoiIs_any L0 W (by omega) (HLW.out W hc0.out.old hc0.out.lt)).mono ?_
    rintro e w2 ⟨ea, ev2, rfl, hv2, hb2⟩
    have HV2 := Lib.hid hv2
    have HX2 := Lib.hid (hc0.out.below hb2)
    obtain ⟨⟨z0, z1, z2, z3, z4, z5, z6, z7, z8⟩, zf⟩ := HX2.out.cells9
    have zff := zf 0
    clear hv2 hb2 y0 zf
    go_upto_region 6 with fail
    have hc2 := Lib.hid (HX2.out.store 0 (.int .i64 ea))
    generalize w2.setCell ⟨w1.heap.size, 0, none⟩ (.int .i64 ea) = w2s at hc2 ⊢
    clear z0 z1 z2 z3 z4 z5 z6 z7 z8 zff HX2
    have hc2 : Hid (CB 54 w1.heap.size (w1.heap.size + 1) #[.int .i64 ea, .int .i64 0, .int .i64 0, .int .u64 0, .int .u64 0, .int .u64 0, .int .u64 0, .int .u64 0, .int .i64 0] 3 1 (.slice none 0 0) 0 [] W w2s) := hc2
    have y0 := (hc2.out.oldCell (o := 2) hlt).trans HK.out.2.2.1
    go_wp2_with fail
    refine (atoiIs_any L2 w2s (by omega) (HLW.out w2s hc2.out.old hc2.out.lt)).mono ?_
    rintro e w3 ⟨eb, ev3, rfl, hv3, hb3⟩
    have HV3 := Lib.hid hv3
    have HX3 := Lib.hid (hc2.out.below hb3)
    obtain ⟨⟨z0, z1, z2, z3, z4, z5, z6, z7, z8⟩, zf⟩ := HX3.out.cells9
    have zff := zf 1
    clear hv3 hb3 y0 zf
    go_upto_region 7 with fail
    have hc3 := Lib.hid (HX3.out.store 1 (.int .i64 eb))
    generalize w3.setCell ⟨w1.heap.size, 1, none⟩ (.int .i64 eb) = w3s at hc3 ⊢
    clear z0 z1 z2 z3 z4 z5 z6 z7 z8 zff HX3
    have hc3 : Hid (CB 54 w1.heap.size (w1.heap.size + 1) #[.int .i64 ea, .int .i64 eb, .int .i64 0, .int .u64 0, .int .u64 0, .int .u64 0, .int .u64 0, .int .u64 0, .int .i64 0] 3 1 (.slice none 0 0) 0 [] W w3s) := hc3
    have y0 := (hc3.out.oldCell (o := 3) hlt).trans HK.out.2.2.2.1
    go_wp2_with fail
    refine (puIs_any L3 w3s (by omega) (HLW.out w3s hc3.out.old hc3.out.lt)).mono ?_
    rintro e w4 ⟨ex, ev4, rfl, hv4, hb4⟩
    have HV4z := Lib.hid hv4
    have HX4 := Lib.hid (hc3.out.below hb4)
    obtain ⟨⟨z0, z1, z2, z3, z4, z5, z6, z7, z8⟩, zf⟩ := HX4.out.cells9
    have zff := zf 3
    clear hv4 hb4 y0 zf
    go_upto_region 8 with fail
    have hc4 := Lib.hid (HX4.out.store 3 (.int .u64 (ex : Nat)))
    generalize w4.setCell ⟨w1.heap.size, 3, none⟩ (.int .u64 (ex : Nat)) = w4s at hc4 ⊢
    clear z0 z1 z2 z3 z4 z5 z6 z7 z8 zff HX4
    have hc4 : Hid (CB 54 w1.heap.size (w1.heap.size + 1) #[.int .i64 ea, .int .i64 eb, .int .i64 0, .int .u64 (ex : Nat), .int .u64 0, .int .u64 0, .int .u64 0, .int .u64 0, .int .i64 0] 3 1 (.slice none 0 0) 0 [] W w4s) := hc4
    have y0 := (hc4.out.oldCell (o := 6) hlt).trans HK.out.2.2.2.2.2.2
    go_wp2_with fail
    refine (atoiIs_any L6 w4s (by omega) (HLW.out w4s hc4.out.old hc4.out.lt)).mono ?_
    rintro e w5 ⟨ep, ev5, rfl, hv5, hb5⟩
    have HV5 := Lib.hid hv5
    have HX5 := Lib.hid (hc4.out.below hb5)
    obtain ⟨⟨z0, z1, z2, z3, z4, z5, z6, z7, z8⟩, zf⟩ := HX5.out.cells9
    have zff := zf 8
    clear hv5 hb5 y0 zf
    go_upto_region 9 with fail
    have hc5 := Lib.hid (HX5.out.store 8 (.int .i64 ep))
    generalize w5.setCell ⟨w1.heap.size, 8, none⟩ (.int .i64 ep) = w5s at hc5 ⊢
    clear z0 z1 z2 z3 z4 z5 z6 z7 z8 zff HX5
    have hc5 : Hid (CB 54 w1.heap.size (w1.heap.size + 1) #[.int .i64 ea, .int .i64 eb, .int .i64 0, .int .u64 (ex : Nat), .int .u64 0, .int .u64 0, .int .u64 0, .int .u64 0, .int .i64 ep] 3 1 (.slice none 0 0) 0 [] W w5s) := hc5
    go_upto_region 9 with fail
    refine wp_region_tail (w0 := w5s) rfl [.eq (.slice (some ⟨w.heap.size + 1, 0, none⟩) 7 7), .eq (.pointer (some ⟨w.heap.size + 1, 4, none⟩)), .eq (.string L4), .of (pVer l4), .eq (.slice (some ⟨w.heap.size + 1, 0, none⟩) 7 7), .eq (.pointer (some ⟨w.heap.size + 1, 5, none⟩)), .eq (.string L5), .of (pVer l5), .eq (.pointer (some ⟨w1.heap.size, 4, none⟩)), .tail, .eq (.pointer (some ⟨w1.heap.size, 6, none⟩)), .tail] 9 [11] [10] (by kernel_rfl) ⟨?_, ?_, ?_, ?_, ?_, ?_, ?_, ?_, ?_, ?_, ?_, ?_, trivial⟩ ⟨?_, trivial⟩ [fun vs w' => ∃ m4 n4 m5 n5 : Nat, VerIs l4 m4 n4 ∧ VerIs l5 m5 n5 ∧ vs 7 = .agg #[.int .u64 m5, .int .u64 n5] ∧ CB 54 w1.heap.size (w1.heap.size + 1) #[.int .i64 ea, .int .i64 eb, .int .i64 0, .int .u64 (ex : Nat), .int .u64 (m4 : Nat), .int .u64 (n4 : Nat), .int .u64 0, .int .u64 0, .int .i64 ep] 3 1 (.slice none 0 0) 0 [] W w', fun vs w' => ∃ m4 n4 m5 n5 : Nat, VerIs l4 m4 n4 ∧ VerIs l5 m5 n5 ∧ CB 54 w1.heap.size (w1.heap.size + 1) #[.int .i64 ea, .int .i64 eb, .int .i64 0, .int .u64 (ex : Nat), .int .u64 (m4 : Nat), .int .u64 (n4 : Nat), .int .u64 (m5 : Nat), .int .u64 (n5 : Nat), .int .i64 ep] 3 1 (.slice none 0 0) 0 [] W w'] ⟨?_, ?_, trivial⟩ (fun vs => [(45, (.slice (some ⟨w.heap.size + 1, 0, none⟩) 7 7)), (46, (.pointer (some ⟨w.heap.size + 1, 4, none⟩))), (47, (.string L4)), (48, vs 3), (49, (.slice (some ⟨w.heap.size + 1, 0, none⟩) 7 7)), (50, (.pointer (some ⟨w.heap.size + 1, 5, none⟩))), (51, (.string L5)), (52, vs 7), (53, (.pointer (some ⟨w1.heap.size, 4, none⟩))), (54, (.pointer (some ⟨w1.heap.size, 6, none⟩)))]) (fun _ => rfl) ?_
    · refine RStep.mk rfl rfl (fun S a wx K Q hR hK => ?_)
      have t4 : a.tmps[4]? = some (.slice (some ⟨w.heap.size + 1, 0, none⟩) 7 7) := (hR.old 4 (by kernel_rfl)).trans (by kernel_rfl)
      go_simp
      exact hK _ _ (Below.refl _ _) rfl
    · refine RStep.mk rfl rfl (fun S a wx K Q hR hK => ?_)
      have t45 := hR.eq 0 (by kernel_rfl) rfl rfl
      go_simp
      exact hK _ _ (Below.refl _ _) rfl
    · refine RStep.mk rfl rfl (fun S a wx K Q hR hK => ?_)
      have t46 := hR.eq 1 (by kernel_rfl) rfl rfl
      have y0 := ((hc5.out.below hR.bel).oldCell (o := 4) hlt).trans HK.out.2.2.2.2.1
      go_simp
      exact hK _ _ (Below.refl _ _) rfl
    · exact steadyVer _
    · refine RStep.mk rfl rfl (fun S a wx K Q hR hK => ?_)
      have t47 := hR.eq 2 (by kernel_rfl) rfl rfl
      go_simp
      go_at_call 79
      refine (itemVer_any L4 wx (by omega) (HLW.out wx (hc5.out.below hR.bel).old (hc5.out.below hR.bel).lt)).mono ?_
      rintro e w' ⟨m, n, rfl, hv, hbx⟩
      exact hK _ _ hbx ⟨m, n, rfl, by rw [← HD.out.2.2.2.2.2.2.1]; exact hv⟩
    · refine RStep.mk rfl rfl (fun S a wx K Q hR hK => ?_)
      have t4 : a.tmps[4]? = some (.slice (some ⟨w.heap.size + 1, 0, none⟩) 7 7) := (hR.old 4 (by kernel_rfl)).trans (by kernel_rfl)
      go_simp
      exact hK _ _ (Below.refl _ _) rfl
    · refine RStep.mk rfl rfl (fun S a wx K Q hR hK => ?_)
      have t49 := hR.eq 4 (by kernel_rfl) rfl rfl
      go_simp
      exact hK _ _ (Below.refl _ _) rfl
    · refine RStep.mk rfl rfl (fun S a wx K Q hR hK => ?_)
      have t50 := hR.eq 5 (by kernel_rfl) rfl rfl
      have y0 := ((hc5.out.below hR.bel).oldCell (o := 5) hlt).trans HK.out.2.2.2.2.2.1
      go_simp
      exact hK _ _ (Below.refl _ _) rfl
    · exact steadyVer _
    · refine RStep.mk rfl rfl (fun S a wx K Q hR hK => ?_)
      have t51 := hR.eq 6 (by kernel_rfl) rfl rfl
      go_simp
      go_at_call 79
      refine (itemVer_any L5 wx (by omega) (HLW.out wx (hc5.out.below hR.bel).old (hc5.out.below hR.bel).lt)).mono ?_
      rintro e w' ⟨m, n, rfl, hv, hbx⟩
      exact hK _ _ hbx ⟨m, n, rfl, by rw [← HD.out.2.2.2.2.2.2.2.1]; exact hv⟩
    · refine RStep.mk rfl rfl (fun S a wx K Q hR hK => ?_)
      have t5 : a.tmps[5]? = some (.pointer (some ⟨w1.heap.size, 0, none⟩)) := (hR.old 5 (by kernel_rfl)).trans (by kernel_rfl)
      go_simp
      exact hK _ _ (Below.refl _ _) rfl
    · refine PStep.step rfl (PStep.mk rfl rfl (fun a wx K Q hR hK => ?_))
      have t5 : a.tmps[5]? = some (.pointer (some ⟨w1.heap.size, 0, none⟩)) := (hR.old 5 (by kernel_rfl)).trans (by kernel_rfl)
      go_simp
      exact hK
    · refine PStep.mk rfl rfl (fun a wx K Q hR hK => ?_)
      have t5 : a.tmps[5]? = some (.pointer (some ⟨w1.heap.size, 0, none⟩)) := (hR.old 5 (by kernel_rfl)).trans (by kernel_rfl)
      go_simp
      exact hK
    · refine TStep.mk rfl (fun vs a wx K Q hR hZ hK => ?_)
      have t53 := hR.dep 8 53 (by kernel_rfl) rfl
      rw [hR.eqs 8 _ rfl] at t53
      have t48 := hR.dep 3 48 (by kernel_rfl) rfl
      obtain ⟨hbel2, S2, hlow, hof⟩ := hZ
      obtain ⟨m4, n4, ev, hv4⟩ := (show pVer l4 S2 (vs 3) wx from hof 3 _ rfl)
      obtain ⟨m5, n5, ev5, hv5⟩ := (show pVer l5 S2 (vs 7) wx from hof 7 _ rfl)
      rw [ev] at t48
      have HQ := Lib.hid (hc5.out.below hbel2)
      obtain ⟨⟨z0, z1, z2, z3, z4, z5, z6, z7, z8⟩, zf⟩ := HQ.out.cells9
      have zf4 := zf 4
      have zf5 := zf 5
      have HQ2 := Lib.hid ((HQ.out.store 4 (.int .u64 (m4 : Nat))).store 5 (.int .u64 (n4 : Nat)))
      have HV4 := Lib.hid (And.intro hv4 (And.intro hv5 ev5))
      clear hv4 hv5 ev5 hof ev zf
      go_simp
      exact hK undef _ ⟨m4, n4, m5, n5, HV4.out.1, HV4.out.2.1, (upd_ne _ _ (by omega)).trans HV4.out.2.2, HQ2.out⟩
    · refine TStep.mk rfl (fun vs a wx K Q hR hZ hK => ?_)
      have t54 := hR.dep 10 54 (by kernel_rfl) rfl
      rw [hR.eqs 10 _ rfl] at t54
      have t52 := hR.dep 7 52 (by kernel_rfl) rfl
      obtain ⟨m4, n4, m5, n5, hv4, hv5, ev5, hco⟩ := hZ
      rw [ev5] at t52
      obtain ⟨⟨z0, z1, z2, z3, z4, z5, z6, z7, z8⟩, zf⟩ := CB.cells9 hco
      have zf6 := zf 6
      have zf7 := zf 7
      have HQ2 := Lib.hid ((hco.store 6 (.int .u64 (m5 : Nat))).store 7 (.int .u64 (n5 : Nat)))
      have HV4 := Lib.hid (And.intro hv4 hv5)
      clear hv4 hv5 ev5 hco zf
      go_simp
      exact hK undef _ ⟨m4, n4, m5, n5, HV4.out.1, HV4.out.2, HQ2.out⟩
    intro vs w8 hE hZ
    have HZ := Lib.hid hZ
    simp only [putsL, List.foldl_cons, List.foldl_nil]
    clear hE hZ
    generalize vs 3 = vt1
    generalize vs 7 = vt2
    go_simp
    obtain ⟨m4, n4, m5, n5, hv4, hv5, hco⟩ := HZ.out
    have HV4 := Lib.hid (And.intro hv4 hv5)
    have hc8 := Lib.hid hco
    clear hv4 hv5 hco HZ
    go_wp2_with fail
    refine (inames_any w8).mono ?_
    rintro e w9 ⟨rfl, hb9⟩
    have hc9 := Lib.hid (hc8.out.below hb9)
    clear hb9
    go_upto_region 11 with fail
    have hcA : Hid (CB 54 w1.heap.size (w1.heap.size + 1) #[.int .i64 ea, .int .i64 eb, .int .i64 0, .int .u64 (ex : Nat), .int .u64 (m4 : Nat), .int .u64 (n4 : Nat), .int .u64 (m5 : Nat), .int .u64 (n5 : Nat), .int .i64 ep] 3 1 (.slice none 0 0) 0 [] W (w9.alloc (.cells #[.string ⟨#[]⟩, .string ⟨#[119, 119]⟩, .string ⟨#[119, 114]⟩, .string ⟨#[114, 119]⟩, .string ⟨#[112, 119, 114]⟩, .string ⟨#[112, 114, 119]⟩] 119)) ∧ (w9.alloc (.cells #[.string ⟨#[]⟩, .string ⟨#[119, 119]⟩, .string ⟨#[119, 114]⟩, .string ⟨#[114, 119]⟩, .string ⟨#[112, 119, 114]⟩, .string ⟨#[112, 114, 119]⟩] 119)).heap[w9.heap.size]? = some (.cells (strs nms20).toArray 119 (0, 0))) := Lib.hid ⟨hc9.out.below ((Below.refl _ _).alloc (Nat.le_refl _) _), heap_alloc_new _ _⟩
    generalize (w9.alloc (.cells #[.string ⟨#[]⟩, .string ⟨#[119, 119]⟩, .string ⟨#[119, 114]⟩, .string ⟨#[114, 119]⟩, .string ⟨#[112, 119, 114]⟩, .string ⟨#[112, 114, 119]⟩] 119)) = wA at hcA ⊢
    have hnl := (Array.getElem?_eq_some_iff.1 hcA.out.2).1
    refine wp_region_tail (w0 := wA) rfl [.eq (.slice (some ⟨w9.heap.size, 0, none⟩) 6 6), .eq (.slice (some ⟨w.heap.size + 1, 0, none⟩) 7 7), .eq (.pointer (some ⟨w.heap.size + 1, 1, none⟩)), .eq (.string L1), .of (pIdx l1), .eq (.int .i64 (edKind l1)), .eq (.pointer (some ⟨w1.heap.size, 2, none⟩)), .tail] 7 [] [] (by kernel_rfl) ⟨?_, ?_, ?_, ?_, ?_, ?_, ?_, ?_, trivial⟩ trivial [fun vs w' => CB 54 w1.heap.size (w1.heap.size + 1) #[.int .i64 ea, .int .i64 eb, .int .i64 (edKind l1), .int .u64 (ex : Nat), .int .u64 (m4 : Nat), .int .u64 (n4 : Nat), .int .u64 (m5 : Nat), .int .u64 (n5 : Nat), .int .i64 ep] 3 1 (.slice none 0 0) 0 [] W w'] ⟨?_, trivial⟩ (fun vs => [(56, (.slice (some ⟨w9.heap.size, 0, none⟩) 6 6)), (57, (.slice (some ⟨w.heap.size + 1, 0, none⟩) 7 7)), (58, (.pointer (some ⟨w.heap.size + 1, 1, none⟩))), (59, (.string L1)), (60, vs 4), (61, (.int .i64 (edKind l1))), (62, (.pointer (some ⟨w1.heap.size, 2, none⟩)))]) (fun _ => rfl) ?_
    · refine RStep.mk rfl rfl (fun S a wx K Q hR hK => ?_)
      have t6 : a.tmps[6]? = some (.pointer (some ⟨w9.heap.size, 0, none⟩)) := (hR.old 6 (by kernel_rfl)).trans (by kernel_rfl)
      go_simp
      exact hK _ _ (Below.refl _ _) rfl
    · refine RStep.mk rfl rfl (fun S a wx K Q hR hK => ?_)
      have t4 : a.tmps[4]? = some (.slice (some ⟨w.heap.size + 1, 0, none⟩) 7 7) := (hR.old 4 (by kernel_rfl)).trans (by kernel_rfl)
      go_simp
      exact hK _ _ (Below.refl _ _) rfl
    · refine RStep.mk rfl rfl (fun S a wx K Q hR hK => ?_)
      have t57 := hR.eq 1 (by kernel_rfl) rfl rfl
      go_simp
      exact hK _ _ (Below.refl _ _) rfl
    · refine RStep.mk rfl rfl (fun S a wx K Q hR hK => ?_)
      have t58 := hR.eq 2 (by kernel_rfl) rfl rfl
      have y0 := ((hcA.out.1.below hR.bel).oldCell (o := 1) hlt).trans HK.out.2.1
      go_simp
      exact hK _ _ (Below.refl _ _) rfl
    · exact steadyIdx _
    · refine RStep.mk rfl rfl (fun S a wx K Q hR hK => ?_)
      have t56 := hR.eq 0 (by kernel_rfl) rfl rfl
      have t59 := hR.eq 3 (by kernel_rfl) rfl rfl
      go_simp
      go_at_call 41
      refine (slIndex_any _ nms20 _ L1 wx (RepS.of_row ((hR.bel.block _ hnl).trans hcA.out.2) (by decide)) (by decide)).mono ?_
      rintro e w' ⟨ki, rfl, hki, rfl⟩
      exact hK _ _ (Below.refl _ _) ⟨ki, rfl, by rw [← HD.out.2.2.2.1]; exact hki⟩
    · refine RStep.mk rfl rfl (fun S a wx K Q hR hK => ?_)
      obtain ⟨u60, t60, f60⟩ := hR.of 4 (by kernel_rfl) rfl rfl
      obtain ⟨ki, rfl, hki⟩ := f60
      have hkm := idx_ed hki
      go_simp
      exact hK _ _ (Below.refl _ _) rfl
    · refine RStep.mk rfl rfl (fun S a wx K Q hR hK => ?_)
      have t5 : a.tmps[5]? = some (.pointer (some ⟨w1.heap.size, 0, none⟩)) := (hR.old 5 (by kernel_rfl)).trans (by kernel_rfl)
      go_simp
      exact hK _ _ (Below.refl _ _) rfl
    · refine TStep.mk rfl (fun vs a wx K Q hR hZ hK => ?_)
      have t62 := hR.dep 6 62 (by kernel_rfl) rfl
      rw [hR.eqs 6 _ rfl] at t62
      have t61 := hR.dep 5 61 (by kernel_rfl) rfl
      rw [hR.eqs 5 _ rfl] at t61
      obtain ⟨hbel2, S2, hlow, hof⟩ := hZ
      have HQ := Lib.hid (hcA.out.1.below hbel2)
      obtain ⟨⟨z0, z1, z2, z3, z4, z5, z6, z7, z8⟩, zf⟩ := HQ.out.cells9
      have zf2 := zf 2
      have HQ2 := Lib.hid (HQ.out.store 2 (.int .i64 (edKind l1)))
      clear zf hof
      go_simp
      exact hK undef _ HQ2.out
    intro vs wB hE hZ
    have hcB := Lib.hid hZ
    simp only [putsL, List.foldl_cons, List.foldl_nil]
    clear hE hZ
    generalize vs 4 = vt3
    go_simp
    obtain ⟨⟨z0, z1, z2, z3, z4, z5, z6, z7, z8⟩, zf⟩ := hcB.out.cells9
    obtain ⟨c, hc⟩ : ∃ c : Ed, c = ⟨ea, eb, edKind l1, ex, m4, n4, m5, n5, ep⟩ := ⟨_, rfl⟩
    have hcand := edRead_cand (s := s.data.toList) (c := c) (HD.out.1.trans HD.out.2.1) (by rw [hc, ← HD.out.2.2.1]; exact HV2.out) (by rw [hc]) (by rw [hc, ← HD.out.2.2.2.2.1]; exact HV3.out) (by rw [hc, ← HD.out.2.2.2.2.2.1]; exact HV4z.out) (by rw [hc]; exact HV4.out.1.1) (by rw [hc]; exact HV4.out.1.2) (by rw [hc]; exact HV4.out.2.1) (by rw [hc]; exact HV4.out.2.2) (by rw [hc, ← HD.out.2.2.2.2.2.2.2.2]; exact HV5.out)
    have HCD := Lib.hid hcand
    have hTX : Calls Tryz.prog 28 #[.agg #[.int .i64 ea, .int .i64 eb, .int .i64 (edKind l1), .int .u64 (ex : Nat), .int .u64 (m4 : Nat), .int .u64 (n4 : Nat), .int .u64 (m5 : Nat), .int .u64 (n5 : Nat), .int .i64 ep]] wB fun r w' => r = .returned (str c.text) ∧ Below wB.heap.size wB w' := by
      have h1 := edText_any hcand.1 wB (HLW.out wB hcB.out.old hcB.out.lt)
      rw [hc] at h1 ⊢
      exact h1
    have HTX := Lib.hid hTX
    have HCE := Lib.hid hc
    obtain ⟨CT, hCT⟩ : ∃ CT : ByteArray, CT = ⟨c.text.toArray⟩ := ⟨_, rfl⟩
    have hCd : (CT.toList == s.toList) = decide (c.text = s.data.toList) := by rw [hCT, ByteArray.toList_eq, ByteArray.toList_eq, Bool.eq_iff_iff]; simp
    have hst : str c.text = .string CT := by rw [hCT]; rfl
    rw [hst] at HTX
    clear hcand hTX hc zf hCT hst
    go_wp2_with fail
    refine HTX.out.mono ?_
    rintro e wC ⟨rfl, hbC⟩
    have hcC := Lib.hid (hcB.out.below hbC)
    have g9 := (hcC.out.old.block w.heap.size (by omega)).trans HW.out.2.2.1
    obtain ⟨⟨x0, x1, x2, x3, x4, x5, x6, x7, x8⟩, _⟩ := hcC.out.cells9
    clear hbC z0 z1 z2 z3 z4 z5 z6 z7 z8
    by_cases hq : c.text = s.data.toList
    · have t9 : (CT.toList == s.toList) = true := by rw [hCd]; simpa using hq
      have HE : Hid (edRead s.data.toList = some c) := Lib.hid (by rw [HCD.out.2, if_pos hq])
      clear hq hCd
      go_wp2_with (refine wpList_store_row rfl 54 (.tmp 2) (.tmp 68) rfl rfl w.heap.size rfl _ rfl 54 _ g9 (by kernel_rfl) rfl (by simp [Value.oneCell']) ?_)
      refine bodyPost_ret (v := .tuple #[.agg #[.int .i64 ea, .int .i64 eb, .int .i64 (edKind l1), .int .u64 (ex : Nat), .int .u64 (m4 : Nat), .int .u64 (n4 : Nat), .int .u64 (m5 : Nat), .int .u64 (n5 : Nat), .int .i64 ep], .int .i64 0]) (results_row2 rfl _ _ w.heap.size 54 _ _ _ _ rfl (setRow_heap _ _ _ _ _ _ g9) Tryz.underlying54 rfl (by kernel_rfl) rfl) rfl ⟨?_, below_setRow (HW.out.2.1.trans (hcC.out.old.mono (by omega))) _ _ (Nat.le_refl _)⟩
      rw [HE.out, HCE.out]; rfl
    · have t9 : (CT.toList == s.toList) = false := by rw [hCd]; simpa using hq
      have HE : Hid (edRead s.data.toList = none) := Lib.hid (by rw [HCD.out.2, if_neg hq])
      clear hq hCd x0 x1 x2 x3 x4 x5 x6 x7 x8
      go_wp2_with (refine wpList_store_row rfl 54 (.tmp 2) (.tmp 67) rfl rfl w.heap.size rfl _ rfl 54 _ g9 (by kernel_rfl) rfl (by simp [Value.oneCell']) ?_)
      refine bodyPost_ret (v := .tuple #[.agg #[.int .i64 0, .int .i64 0, .int .i64 0, .int .u64 0, .int .u64 0, .int .u64 0, .int .u64 0, .int .u64 0, .int .i64 0], .int .i64 230]) (results_row2 rfl _ _ w.heap.size 54 _ _ _ _ rfl (setRow_heap _ _ _ _ _ _ g9) Tryz.underlying54 rfl (by kernel_rfl) rfl) rfl ⟨?_, below_setRow (HW.out.2.1.trans (hcC.out.old.mono (by omega))) _ _ (Nat.le_refl _)⟩
      rw [HE.out]; rfl
  · have t7 : ((l.length : Int) != 7) = true := by simpa using (by omega : ¬ (l.length : Int) = 7)
    have g9 := H1.out.2.2.1
    have HE : Hid (edRead s.data.toList = none) := Lib.hid (edRead_words (by rw [hl]; exact h7))
    clear h7
    go_wp2_with (refine wpList_store_row rfl 54 (.tmp 2) (.tmp 12) rfl rfl w.heap.size rfl _ rfl 54 _ g9 (by kernel_rfl) rfl (by simp [Value.oneCell']) ?_)
    refine bodyPost_ret (v := .tuple #[.agg #[.int .i64 0, .int .i64 0, .int .i64 0, .int .u64 0, .int .u64 0, .int .u64 0, .int .u64 0, .int .u64 0, .int .i64 0], .int .i64 230]) (results_row2 rfl _ _ w.heap.size 54 _ _ _ _ rfl (setRow_heap _ _ _ _ _ _ g9) Tryz.underlying54 rfl (by kernel_rfl) rfl) rfl ⟨?_, below_setRow H1.out.1 _ _ (Nat.le_refl _)⟩
    rw [HE.out]; rfl
end Go.Proofs.YtagnalfkmdjajaaGreatDoor
namespace Go.Proofs.YtagnalfkmdjajaaGreatDoor
open Go.RowKit Go
set_option linter.unusedVariables false
set_option linter.unusedSimpArgs false
end Go.Proofs.YtagnalfkmdjajaaGreatDoor
