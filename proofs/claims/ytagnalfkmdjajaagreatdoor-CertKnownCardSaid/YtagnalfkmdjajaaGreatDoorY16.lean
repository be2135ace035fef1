/- Edges read by the reference. -/
import Derived.Test.YtagnalfkmdjajaaGreatDoorYG06
import Derived.Test.YtagnalfkmdjajaaGreatDoorY21
import Derived.Deep.Cut
import Derived.Deep.CutRange
set_option maxHeartbeats 20000000
set_option maxRecDepth 100000
namespace Go.Proofs.YtagnalfkmdjajaaGreatDoor
open Go.RowKit Go
set_option linter.unusedVariables false
set_option linter.unusedSimpArgs false
theorem CX (l sep : List UInt8) : (Lib.cut l sep).1.length ≤ l.length ∧ (Lib.cut l sep).2.1.length ≤ l.length := by
 unfold Lib.cut
 split <;> simp
 omega
theorem rC (l : List UInt8) : (∃ u, Lib.atoiAll l = .ok u) ∨ Lib.atoiAll l = .range ∨ Lib.atoiAll l = Lib.atoiAll [] := by
 cases h : Lib.atoiAll l with
 | ok u => exact .inl ⟨u, rfl⟩
 | range => exact .inr (.inl rfl)
 | _ => exact .inr (.inr rfl)
def Ed.zero : Ed := ⟨0, 0, 0, 0, 0, 0, 0, 0, 0⟩
def CY : Option Ed → Value
 | some e => .tuple #[.agg e.vals.toArray, .int .i64 0]
 | none => .tuple #[.agg Ed.zero.vals.toArray, .int .i64 230]
theorem ma (s : ByteArray) (w : World) (hs : s.size ≤ 10000) (hL : Lq w.heap.size w) : Calls Tryz.prog 77 #[.string s] w fun e w' => ∃ (v : Int) (ev : Value), e = .returned (.tuple #[.int .i64 v, ev]) ∧ jP s.data.toList v ∧ Below w.heap.size w w' := by
 have hsat := Lib.atoiSat_bounds s.data.toList
 rcases rC s.data.toList with ⟨u, hp⟩ | hp | hp
 ·have hb := Lib.atoiAll_bounds hp
  refine (Tryz.strconv_Atoi_ok s (by omega) _ hp w).mono fun e w' => ?_
  rintro ⟨rfl, hw'⟩
  refine ⟨_, _, rfl, ⟨hb.1, hb.2, .inl hp⟩, ?_⟩
  rcases hw' with rfl | ⟨t, rfl⟩
  ·exact br
  ·exact Lib.bytesWorld_below _ _ _
 ·obtain ⟨tp, p, hs'⟩ := hL.lv.rng
  refine (Tryz.strconv_Atoi_range_var s (by omega) hp tp p w hs').mono fun e w' => ?_
  rintro ⟨N, rfl, _, _, hb⟩
  exact ⟨_, _, rfl, ⟨hsat.1, hsat.2, .inr fun n e => by rw [hp] at e; cases e⟩, hb⟩
 ·obtain ⟨tp, p, hs'⟩ := hL.lv.syn
  refine (Tryz.strconv_Atoi_syntax_var s (by omega) hp tp p w hs').mono fun e w' => ?_
  rintro ⟨N, rfl, _, _, hb⟩
  exact ⟨_, _, rfl, ⟨by omega, by omega, .inr fun n e => by rw [hp] at e; cases e⟩, hb⟩
theorem rD (s : ByteArray) (w : World) (hs : s.size ≤ 10000) (hL : Lq w.heap.size w) : Calls Tryz.prog 78 #[.string s, .int .i64 10, .int .i64 64] w fun e w' => ∃ (v : Nat) (ev : Value), e = .returned (.tuple #[.int .u64 v, ev]) ∧ pU s.data.toList v ∧ Below w.heap.size w w' := by
 rcases vT s.data.toList with ⟨u, hp⟩ | ⟨hno, hp | hp⟩
 ·refine (Tryz.strconv_ParseUint_10_at64_ok s (by omega) _ hp w).mono fun e w' => ?_
  rintro ⟨rfl, hw'⟩
  refine ⟨_, _, rfl, ⟨(pR hp).1, .inl hp⟩, ?_⟩
  rcases hw' with rfl | rfl
  ·exact br
  ·exact Lib.bytesWorld_below _ _ _
 ·obtain ⟨tp, p, hs'⟩ := hL.lv.rng
  refine (Tryz.strconv_ParseUint_10_at64_range_var s (by omega) hp tp p w hs').mono fun e w' => ?_
  rintro ⟨N, rfl, _, _, hb⟩
  exact ⟨18446744073709551615, _, rfl, ⟨by omega, .inr hno⟩, hb⟩
 ·obtain ⟨tp, p, hs'⟩ := hL.lv.syn
  refine (Tryz.strconv_ParseUint_10_at64_syntax_var s (by omega) hp tp p w hs').mono fun e w' => ?_
  rintro ⟨N, rfl, _, _, hb⟩
  exact ⟨0, _, rfl, ⟨by omega, .inr hno⟩, hb⟩
def oJ (l : List UInt8) (m n : Nat) : Prop := pU (Lib.cut l [46]).1 m ∧ pU (Lib.cut l [46]).2.1 n
theorem oK (s : ByteArray) (w : World) (hs : s.size ≤ 10000) (hL : Lq w.heap.size w) : Calls Tryz.prog 79 #[.string s] w fun e w' => ∃ m n : Nat, e = .returned (.agg #[.int .u64 m, .int .u64 n]) ∧ oJ s.data.toList m n ∧ Below w.heap.size w w' := by
 have g0 := heap_alloc_new w (.cells #[.int .u64 0, .int .u64 0] 52)
 have hb0 : Below w.heap.size w (w.alloc (.cells #[.int .u64 0, .int .u64 0] 52)) := br.alloc nl _
 have hs0 : (w.alloc (.cells #[.int .u64 0, .int .u64 0] 52)).heap.size = w.heap.size + 1 := World.size_alloc _ _
 have hcl := CX s.data.toList [46]
 rw [ay] at hcl
 obtain ⟨A, hA⟩ : ∃ A : ByteArray, A = ⟨(Lib.cut s.data.toList [46]).1.toArray⟩ := ⟨_, rfl⟩
 obtain ⟨B, hB⟩ : ∃ B : ByteArray, B = ⟨(Lib.cut s.data.toList [46]).2.1.toArray⟩ := ⟨_, rfl⟩
 have hAd : A.data.toList = (Lib.cut s.data.toList [46]).1 := by rw [hA]
 have hBd : B.data.toList = (Lib.cut s.data.toList [46]).2.1 := by rw [hB]
 have HC := hid (Aa 46 s (w.alloc (.cells #[.int .u64 0, .int .u64 0] 52)) (by omega) ((hL.below hb0).mono (by omega)))
 rw [← hA, ← hB] at HC
 obtain ⟨mo, hmo⟩ : ∃ mo, mo = (Lib.cut s.data.toList [46]).2.2 := ⟨_, rfl⟩
 rw [← hmo] at HC
 have HS : Hid (A.size ≤ 10000 ∧ B.size ≤ 10000 ∧ A.data.toList = (Lib.cut s.data.toList [46]).1 ∧ B.data.toList = (Lib.cut s.data.toList [46]).2.1) := hid ⟨by rw [← ay, hAd]; omega, by rw [← ay, hBd]; omega, hAd, hBd⟩
 have H0 := hid (And.intro hb0 (And.intro hs0 (And.intro g0 hL)))
 clear g0 hb0 hs0 hcl hA hB hAd hBd hmo hL
 go_enter Tryz.func79, Tryz.ntmps79
 go_wp2_with fail
 refine HC.out.mono ?_
 rintro e w1 ⟨rfl, hb1⟩
 have H1 : Hid (Below w.heap.size w w1 ∧ w.heap.size < w1.heap.size ∧ w1.heap[w.heap.size]? = some (.cells #[.int .u64 0, .int .u64 0] 52 (0, 0)) ∧ Lq w1.heap.size w1) := hid (by
  obtain ⟨q1, q2, q3, q4⟩ := H0.out
  have := hb1.size
  exact ⟨q1.trans (hb1.mono (by omega)), by omega, (hb1.block _ (by omega)).trans q3, ((q4.below q1).below (hb1.mono (by omega))).mono (by omega)⟩)
 clear hb1 H0 HC
 go_wp2_with fail
 refine (rD A w1 HS.out.1 H1.out.2.2.2).mono ?_
 rintro e w2 ⟨m, ev, rfl, hm, hb2⟩
 have H2 : Hid (Below w.heap.size w w2 ∧ w.heap.size < w2.heap.size ∧ w2.heap[w.heap.size]? = some (.cells #[.int .u64 0, .int .u64 0] 52 (0, 0)) ∧ Lq w2.heap.size w2 ∧ pU A.data.toList m) := hid (by
  obtain ⟨q1, q2, q3, q4⟩ := H1.out
  have := hb2.size
  exact ⟨q1.trans (hb2.mono (by omega)), by omega, (hb2.block _ (by omega)).trans q3, (q4.below hb2).mono (by omega), hm⟩)
 clear hb2 hm H1
 go_wp2_with fail
 refine (rD B w2 HS.out.2.1 H2.out.2.2.2.1).mono ?_
 rintro e w3 ⟨n, ev2, rfl, hn, hb3⟩
 have g3 := (hb3.block _ H2.out.2.1).trans H2.out.2.2.1
 have H3 : Hid (Below w.heap.size w w3 ∧ oJ s.data.toList m n) := hid ⟨H2.out.1.trans (hb3.mono (by have := H2.out.2.1; omega)), by rw [oJ, ← HS.out.2.2.1, ← HS.out.2.2.2]; exact ⟨H2.out.2.2.2.2, hn⟩⟩
 clear hb3 hn H2
 go_wp2_with (refine wpList_store_row rfl 52 (.tmp 2) (.tmp 28) rfl rfl w.heap.size rfl _ rfl 52 _ g3 (by kernel_rfl) rfl (by simp [Value.oneCell']) ?_)
 refine bodyPost_ret (v := .agg #[.int .u64 m, .int .u64 n]) (results_cell_row rfl _ _ w.heap.size 52 _ _ _ rfl (setRow_heap _ _ _ _ _ _ g3) Tryz.underlying52 rfl (by kernel_rfl)) rfl ⟨m, n, rfl, H3.out.2, below_setRow H3.out.1 _ _ nl⟩
def CZ (l : List UInt8) (S : Nat → Prop) (v : Value) (w : World) : Prop := ∃ m n : Nat, v = .agg #[.int .u64 m, .int .u64 n] ∧ oJ l m n
theorem uG (l : List UInt8) : eG (CZ l) := fun _ _ _ _ _ _ _ _ h => h
def Ap (l : List (List UInt8)) (x : List UInt8) (k : Int) : Prop := (k = -1 ∧ x ∉ l) ∨ ∃ j : Nat, k = (j : Nat) ∧ l[j]? = some x ∧ x ∉ l.take j
theorem oL (S : Nat → Prop) (l : List (List UInt8)) (v : Value) (x : ByteArray) (w : World) (hr : gV w S l v) (hl : l.length ≤ 1000) :
  Calls Tryz.prog 41 #[v, .string x] w fun e w' => ∃ k : Int, e = .returned (.int .i64 k) ∧ Ap l x.data.toList k ∧ w' = w := by
 obtain ⟨_, _, ad, cap, rfl, _⟩ := Sl.shape hr
 have HR := hid hr
 clear hr
 go_enter Tryz.func41, Tryz.ntmps41
 go_wp2_with fail
 go_loop [8] (fun i => ∃ j : Nat, j ≤ l.length ∧ i = .int .i64 j ∧ Hid (x.data.toList ∉ l.take j)) (fun i => l.length - (intOf i).toNat)
 case atStart => exact ⟨0, by omega, rfl, hid (by simp)⟩
 case round =>
  obtain ⟨j, hj, rfl, HQ⟩ := hrel
  by_cases hlt : j < l.length
  ·obtain ⟨bl, off, rfl, _, hcell⟩ := gV.at HR.out (by omega)
   have g := hcell j hlt
   obtain ⟨Y, hY⟩ : ∃ Y : ByteArray, Y = ⟨l[j].toArray⟩ := ⟨_, rfl⟩
   rw [← hY] at g
   have x1 : (0 : Int) ≤ (j : Int) := by omega
   have x2 : (j : Int) < (l.length : Int) := by omega
   have hYd : Y.data.toList = l[j] := by rw [hY]
   by_cases he : x.data.toList = l[j]
   ·have t1 : (x.toList == Y.toList) = true := by rw [ByteArray.toList_eq, ByteArray.toList_eq, hYd, he]; simp
    have HE : Hid (l[j]? = some x.data.toList) := hid (by rw [he]; exact List.getElem?_eq_getElem hlt)
    clear hcell hY hYd he
    go_wp2_with fail
    go_ret
    exact ⟨j, rfl, .inr ⟨j, rfl, HE.out, HQ.out⟩, rfl⟩
   ·have t1 : (x.toList == Y.toList) = false := by rw [ByteArray.toList_eq, ByteArray.toList_eq, hYd]; simpa using he
    have HN : Hid (x.data.toList ∉ l.take (j + 1)) := hid (by rw [List.take_succ_eq_append_getElem hlt]; simp only [List.mem_append, List.mem_cons, List.not_mem_nil, or_false, not_or]; exact ⟨HQ.out, he⟩)
    clear hcell hY hYd he
    go_wp2_with fail
    go_round
    case rel => exact ⟨j + 1, by omega, by go_num, HN⟩
    case measure => simp [intOf]; omega
  ·have hj2 : j = l.length := by omega
   subst hj2
   rw [List.take_length] at HQ
   go_wp2_with fail
   go_ret
   exact ⟨-1, rfl, .inl ⟨rfl, HQ.out⟩, rfl⟩
theorem EM {x : List UInt8} {k : Int} (h : Ap wO x k) : max 0 k = bY x := by
 rcases h with ⟨rfl, h⟩ | ⟨j, rfl, hj, _⟩
 ·unfold bY
  have h1 : ¬ x = aV 1 := fun e => h (by rw [e]; decide)
  have h2 : ¬ x = aV 2 := fun e => h (by rw [e]; decide)
  have h3 : ¬ x = aV 3 := fun e => h (by rw [e]; decide)
  have h4 : ¬ x = aV 4 := fun e => h (by rw [e]; decide)
  have h5 : ¬ x = aV 5 := fun e => h (by rw [e]; decide)
  rw [if_neg h1, if_neg h2, if_neg h3, if_neg h4, if_neg h5]; rfl
 ·match j, hj with
  | 0, hj => injection hj with hj; subst hj; decide
  | 1, hj => injection hj with hj; subst hj; decide
  | 2, hj => injection hj with hj; subst hj; decide
  | 3, hj => injection hj with hj; subst hj; decide
  | 4, hj => injection hj with hj; subst hj; decide
  | 5, hj => injection hj with hj; subst hj; decide
  | j + 6, hj => simp [wO] at hj
theorem xH {α : Type} {l : List α} (h : l.length = 7) : ∃ a b c d e f g, l = [a, b, c, d, e, f, g] := by
 match l, h with
 | [a, b, c, d, e, f, g], _ => exact ⟨a, b, c, d, e, f, g, rfl⟩
theorem CB.cells9 {TX T : TypeId} {c base sz n : Nat} {v : Value} {xs : List Value} {W wr : World} {a0 a1 a2 a3 a4 a5 a6 a7 a8 : Value} (h : CB TX c base #[a0, a1, a2, a3, a4, a5, a6, a7, a8] T sz v n xs W wr) :
  (wr.cell? ⟨c, 0, none⟩ = some a0 ∧ wr.cell? ⟨c, 1, none⟩ = some a1 ∧ wr.cell? ⟨c, 2, none⟩ = some a2 ∧ wr.cell? ⟨c, 3, none⟩ = some a3 ∧ wr.cell? ⟨c, 4, none⟩ = some a4 ∧ wr.cell? ⟨c, 5, none⟩ = some a5 ∧ wr.cell? ⟨c, 6, none⟩ = some a6 ∧ wr.cell? ⟨c, 7, none⟩ = some a7 ∧ wr.cell? ⟨c, 8, none⟩ = some a8) ∧ ∀ o, wr.frozen? ⟨c, o, none⟩ = false := by
 refine ⟨⟨?_, ?_, ?_, ?_, ?_, ?_, ?_, ?_, ?_⟩, fun o => by rw [frozen_of_row wr _ o _ _ h.row]⟩
 all_goals (rw [cell_of_row wr _ _ _ _ _ h.row]; rfl)
def Fj (x : List UInt8) (S : Nat → Prop) (v : Value) (w : World) : Prop := ∃ k : Int, v = .int .i64 k ∧ Ap wO x k
theorem Bn (x : List UInt8) : eG (Fj x) := fun _ _ _ _ _ _ _ _ h => h
theorem zl (s : ByteArray) (hs : s.size ≤ 10000) (w : World) (hL : Lq w.heap.size w) : Calls Tryz.prog 43 #[.string s] w fun e w' => e = .returned (CY (edRead s.data.toList)) ∧ Below w.heap.size w w' := by
 have g0 := heap_alloc_new w (.cells #[.int .i64 0, .int .i64 0, .int .i64 0, .int .u64 0, .int .u64 0, .int .u64 0, .int .u64 0, .int .u64 0, .int .i64 0] 54)
 have hb0 : Below w.heap.size w (w.alloc (.cells #[.int .i64 0, .int .i64 0, .int .i64 0, .int .u64 0, .int .u64 0, .int .u64 0, .int .u64 0, .int .u64 0, .int .i64 0] 54)) := br.alloc nl _
 have hs0 : (w.alloc (.cells #[.int .i64 0, .int .i64 0, .int .i64 0, .int .u64 0, .int .u64 0, .int .u64 0, .int .u64 0, .int .u64 0, .int .i64 0] 54)).heap.size = w.heap.size + 1 := World.size_alloc _ _
 have HSP := hid (tT 32 s (w.alloc (.cells #[.int .i64 0, .int .i64 0, .int .i64 0, .int .u64 0, .int .u64 0, .int .u64 0, .int .u64 0, .int .u64 0, .int .i64 0] 54)) (by omega) ((hL.below hb0).mono (by omega)))
 obtain ⟨l, hl⟩ : ∃ l, cuts 32 s.data.toList = l := ⟨_, rfl⟩
 rw [hl] at HSP
 have H0 := hid (And.intro hb0 (And.intro hs0 (And.intro g0 hL)))
 clear g0 hb0 hs0 hL
 go_enter Tryz.func43, Tryz.ntmps43
 go_wp2_with fail
 refine HSP.out.mono ?_
 rintro e w1 ⟨rfl, rfl⟩
 have H1 : Hid (Below w.heap.size w ((w.alloc (.cells #[.int .i64 0, .int .i64 0, .int .i64 0, .int .u64 0, .int .u64 0, .int .u64 0, .int .u64 0, .int .u64 0, .int .i64 0] 54)).alloc (.cells (strs l).toArray 9)) ∧ ((w.alloc (.cells #[.int .i64 0, .int .i64 0, .int .i64 0, .int .u64 0, .int .u64 0, .int .u64 0, .int .u64 0, .int .u64 0, .int .i64 0] 54)).alloc (.cells (strs l).toArray 9)).heap.size = w.heap.size + 2 ∧ ((w.alloc (.cells #[.int .i64 0, .int .i64 0, .int .i64 0, .int .u64 0, .int .u64 0, .int .u64 0, .int .u64 0, .int .u64 0, .int .i64 0] 54)).alloc (.cells (strs l).toArray 9)).heap[w.heap.size]? = some (.cells #[.int .i64 0, .int .i64 0, .int .i64 0, .int .u64 0, .int .u64 0, .int .u64 0, .int .u64 0, .int .u64 0, .int .i64 0] 54 (0, 0)) ∧ Lq w.heap.size ((w.alloc (.cells #[.int .i64 0, .int .i64 0, .int .i64 0, .int .u64 0, .int .u64 0, .int .u64 0, .int .u64 0, .int .u64 0, .int .i64 0] 54)).alloc (.cells (strs l).toArray 9)) ∧ ((w.alloc (.cells #[.int .i64 0, .int .i64 0, .int .i64 0, .int .u64 0, .int .u64 0, .int .u64 0, .int .u64 0, .int .u64 0, .int .i64 0] 54)).alloc (.cells (strs l).toArray 9)).heap[w.heap.size + 1]? = some (.cells (strs l).toArray 9 (0, 0))) := hid (by
  obtain ⟨q1, q2, q3, q4⟩ := H0.out
  have hb : Below (w.heap.size + 1) (w.alloc (.cells #[.int .i64 0, .int .i64 0, .int .i64 0, .int .u64 0, .int .u64 0, .int .u64 0, .int .u64 0, .int .u64 0, .int .i64 0] 54)) ((w.alloc (.cells #[.int .i64 0, .int .i64 0, .int .i64 0, .int .u64 0, .int .u64 0, .int .u64 0, .int .u64 0, .int .u64 0, .int .i64 0] 54)).alloc (.cells (strs l).toArray 9)) := br.alloc (by omega) _
  exact ⟨q1.trans (hb.mono (by omega)), by rw [World.size_alloc, q2], (hb.block _ (by omega)).trans q3, (q4.below q1).below (hb.mono (by omega)), az _ _ _ q2.symm⟩)
 have hsz : (w.alloc (.cells #[.int .i64 0, .int .i64 0, .int .i64 0, .int .u64 0, .int .u64 0, .int .u64 0, .int .u64 0, .int .u64 0, .int .i64 0] 54)).heap.size = w.heap.size + 1 := H0.out.2.1
 rw [hsz]
 generalize ((w.alloc (.cells #[.int .i64 0, .int .i64 0, .int .i64 0, .int .u64 0, .int .u64 0, .int .u64 0, .int .u64 0, .int .u64 0, .int .i64 0] 54)).alloc (.cells (strs l).toArray 9)) = w1 at H1 ⊢
 clear H0 HSP hsz
 by_cases h7 : l.length = 7
 ·have e7 := h7
  obtain ⟨l0, l1, l2, l3, l4, l5, l6, hq⟩ := xH h7
  have hle : ∀ y ∈ cuts 32 s.data.toList, y.length ≤ 10000 := fun y hy => by have := bJ 32 s.data.toList y hy; rw [ay] at this; omega
  rw [hl, hq] at hle
  obtain ⟨L0, hL0⟩ : ∃ L : ByteArray, L = ⟨l0.toArray⟩ := ⟨_, rfl⟩
  have zL0 : L0.size ≤ 10000 := by rw [hL0, ← ay]; exact hle l0 (by simp)
  obtain ⟨L1, hL1⟩ : ∃ L : ByteArray, L = ⟨l1.toArray⟩ := ⟨_, rfl⟩
  have zL1 : L1.size ≤ 10000 := by rw [hL1, ← ay]; exact hle l1 (by simp)
  obtain ⟨L2, hL2⟩ : ∃ L : ByteArray, L = ⟨l2.toArray⟩ := ⟨_, rfl⟩
  have zL2 : L2.size ≤ 10000 := by rw [hL2, ← ay]; exact hle l2 (by simp)
  obtain ⟨L3, hL3⟩ : ∃ L : ByteArray, L = ⟨l3.toArray⟩ := ⟨_, rfl⟩
  have zL3 : L3.size ≤ 10000 := by rw [hL3, ← ay]; exact hle l3 (by simp)
  obtain ⟨L4, hL4⟩ : ∃ L : ByteArray, L = ⟨l4.toArray⟩ := ⟨_, rfl⟩
  have zL4 : L4.size ≤ 10000 := by rw [hL4, ← ay]; exact hle l4 (by simp)
  obtain ⟨L5, hL5⟩ : ∃ L : ByteArray, L = ⟨l5.toArray⟩ := ⟨_, rfl⟩
  have zL5 : L5.size ≤ 10000 := by rw [hL5, ← ay]; exact hle l5 (by simp)
  obtain ⟨L6, hL6⟩ : ∃ L : ByteArray, L = ⟨l6.toArray⟩ := ⟨_, rfl⟩
  have zL6 : L6.size ≤ 10000 := by rw [hL6, ← ay]; exact hle l6 (by simp)
  have hcell : ∀ j x, l[j]? = some x → w1.cell? ⟨w.heap.size + 1, j, none⟩ = some (.string ⟨x.toArray⟩) := fun j x hx => by rw [cell_of_row w1 _ j _ _ _ H1.out.2.2.2.2]; simp [strs, hx]
  rw [hq] at hcell
  have k0 := hcell 0 l0 rfl
  rw [← hL0] at k0
  have k1 := hcell 1 l1 rfl
  rw [← hL1] at k1
  have k2 := hcell 2 l2 rfl
  rw [← hL2] at k2
  have k3 := hcell 3 l3 rfl
  rw [← hL3] at k3
  have k4 := hcell 4 l4 rfl
  rw [← hL4] at k4
  have k5 := hcell 5 l5 rfl
  rw [← hL5] at k5
  have k6 := hcell 6 l6 rfl
  rw [← hL6] at k6
  have d0 : L0.data.toList = l0 := by rw [hL0]
  have d1 : L1.data.toList = l1 := by rw [hL1]
  have d2 : L2.data.toList = l2 := by rw [hL2]
  have d3 : L3.data.toList = l3 := by rw [hL3]
  have d4 : L4.data.toList = l4 := by rw [hL4]
  have d5 : L5.data.toList = l5 := by rw [hL5]
  have d6 : L6.data.toList = l6 := by rw [hL6]
  have HD := hid (And.intro hl (And.intro hq (And.intro d0 (And.intro d1 (And.intro d2 (And.intro d3 (And.intro d4 (And.intro d5 d6))))))))
  have HS1 := hid H1.out.2.1
  clear hle hcell hL0 d0 hL1 d1 hL2 d2 hL3 d3 hL4 d4 hL5 d5 hL6 d6 hq hl h7
  go_upto_region 5 with fail
  have HW : Hid (CB 54 w1.heap.size (w1.heap.size + 1) #[.int .i64 0, .int .i64 0, .int .i64 0, .int .u64 0, .int .u64 0, .int .u64 0, .int .u64 0, .int .u64 0, .int .i64 0] 3 1 (.slice none 0 0) 0 [] (w1.alloc (.cells #[.int .i64 0, .int .i64 0, .int .i64 0, .int .u64 0, .int .u64 0, .int .u64 0, .int .u64 0, .int .u64 0, .int .i64 0] 54)) (w1.alloc (.cells #[.int .i64 0, .int .i64 0, .int .i64 0, .int .u64 0, .int .u64 0, .int .u64 0, .int .u64 0, .int .u64 0, .int .i64 0] 54)) ∧ Below w.heap.size w (w1.alloc (.cells #[.int .i64 0, .int .i64 0, .int .i64 0, .int .u64 0, .int .u64 0, .int .u64 0, .int .u64 0, .int .u64 0, .int .i64 0] 54)) ∧ (w1.alloc (.cells #[.int .i64 0, .int .i64 0, .int .i64 0, .int .u64 0, .int .u64 0, .int .u64 0, .int .u64 0, .int .u64 0, .int .i64 0] 54)).heap[w.heap.size]? = some (.cells #[.int .i64 0, .int .i64 0, .int .i64 0, .int .u64 0, .int .u64 0, .int .u64 0, .int .u64 0, .int .u64 0, .int .i64 0] 54 (0, 0)) ∧ Lq w.heap.size (w1.alloc (.cells #[.int .i64 0, .int .i64 0, .int .i64 0, .int .u64 0, .int .u64 0, .int .u64 0, .int .u64 0, .int .u64 0, .int .i64 0] 54))) := hid (by
   obtain ⟨q1, q2, q3, q4, _⟩ := H1.out
   have hb : Below w1.heap.size w1 (w1.alloc (.cells #[.int .i64 0, .int .i64 0, .int .i64 0, .int .u64 0, .int .u64 0, .int .u64 0, .int .u64 0, .int .u64 0, .int .i64 0] 54)) := br.alloc nl _
   have hz : (w1.alloc (.cells #[.int .i64 0, .int .i64 0, .int .i64 0, .int .u64 0, .int .u64 0, .int .u64 0, .int .u64 0, .int .u64 0, .int .i64 0] 54)).heap.size = w1.heap.size + 1 := World.size_alloc _ _
   exact ⟨⟨br, by omega, by omega, heap_alloc_new _ _, World.ownsRow_nil _ _ _ _⟩, q1.trans (hb.mono (by omega)), (hb.block _ (by omega)).trans q3, q4.below (hb.mono (by omega))⟩)
  have k0 : (w1.alloc (.cells #[.int .i64 0, .int .i64 0, .int .i64 0, .int .u64 0, .int .u64 0, .int .u64 0, .int .u64 0, .int .u64 0, .int .i64 0] 54)).cell? ⟨w.heap.size + 1, 0, none⟩ = some (.string L0) := (Below.cell (B := w1.heap.size) (br.alloc nl _) (p := ⟨w.heap.size + 1, 0, none⟩) (by show w.heap.size + 1 < _; have := HS1.out; omega)).trans k0
  have k1 : (w1.alloc (.cells #[.int .i64 0, .int .i64 0, .int .i64 0, .int .u64 0, .int .u64 0, .int .u64 0, .int .u64 0, .int .u64 0, .int .i64 0] 54)).cell? ⟨w.heap.size + 1, 1, none⟩ = some (.string L1) := (Below.cell (B := w1.heap.size) (br.alloc nl _) (p := ⟨w.heap.size + 1, 1, none⟩) (by show w.heap.size + 1 < _; have := HS1.out; omega)).trans k1
  have k2 : (w1.alloc (.cells #[.int .i64 0, .int .i64 0, .int .i64 0, .int .u64 0, .int .u64 0, .int .u64 0, .int .u64 0, .int .u64 0, .int .i64 0] 54)).cell? ⟨w.heap.size + 1, 2, none⟩ = some (.string L2) := (Below.cell (B := w1.heap.size) (br.alloc nl _) (p := ⟨w.heap.size + 1, 2, none⟩) (by show w.heap.size + 1 < _; have := HS1.out; omega)).trans k2
  have k3 : (w1.alloc (.cells #[.int .i64 0, .int .i64 0, .int .i64 0, .int .u64 0, .int .u64 0, .int .u64 0, .int .u64 0, .int .u64 0, .int .i64 0] 54)).cell? ⟨w.heap.size + 1, 3, none⟩ = some (.string L3) := (Below.cell (B := w1.heap.size) (br.alloc nl _) (p := ⟨w.heap.size + 1, 3, none⟩) (by show w.heap.size + 1 < _; have := HS1.out; omega)).trans k3
  have k4 : (w1.alloc (.cells #[.int .i64 0, .int .i64 0, .int .i64 0, .int .u64 0, .int .u64 0, .int .u64 0, .int .u64 0, .int .u64 0, .int .i64 0] 54)).cell? ⟨w.heap.size + 1, 4, none⟩ = some (.string L4) := (Below.cell (B := w1.heap.size) (br.alloc nl _) (p := ⟨w.heap.size + 1, 4, none⟩) (by show w.heap.size + 1 < _; have := HS1.out; omega)).trans k4
  have k5 : (w1.alloc (.cells #[.int .i64 0, .int .i64 0, .int .i64 0, .int .u64 0, .int .u64 0, .int .u64 0, .int .u64 0, .int .u64 0, .int .i64 0] 54)).cell? ⟨w.heap.size + 1, 5, none⟩ = some (.string L5) := (Below.cell (B := w1.heap.size) (br.alloc nl _) (p := ⟨w.heap.size + 1, 5, none⟩) (by show w.heap.size + 1 < _; have := HS1.out; omega)).trans k5
  have k6 : (w1.alloc (.cells #[.int .i64 0, .int .i64 0, .int .i64 0, .int .u64 0, .int .u64 0, .int .u64 0, .int .u64 0, .int .u64 0, .int .i64 0] 54)).cell? ⟨w.heap.size + 1, 6, none⟩ = some (.string L6) := (Below.cell (B := w1.heap.size) (br.alloc nl _) (p := ⟨w.heap.size + 1, 6, none⟩) (by show w.heap.size + 1 < _; have := HS1.out; omega)).trans k6
  generalize (w1.alloc (.cells #[.int .i64 0, .int .i64 0, .int .i64 0, .int .u64 0, .int .u64 0, .int .u64 0, .int .u64 0, .int .u64 0, .int .i64 0] 54)) = W at HW k0 k1 k2 k3 k4 k5 k6 ⊢
  have hlt : w.heap.size + 1 < w1.heap.size := by have := HS1.out; omega
  have HK := hid (And.intro k0 (And.intro k1 (And.intro k2 (And.intro k3 (And.intro k4 (And.intro k5 k6))))))
  have hc0 := hid HW.out.1
  have HLW : Hid (∀ wr, Below w1.heap.size W wr → w1.heap.size < wr.heap.size → Lq wr.heap.size wr) := hid (fun wr h h2 => (HW.out.2.2.2.below (h.mono (by omega))).mono (by omega))
  clear k0 k1 k2 k3 k4 k5 k6 H1
  have y0 := (hc0.out.oldCell (o := 0) hlt).trans HK.out.1
  go_wp2_with fail
  refine (ma L0 W (by omega) (HLW.out W hc0.out.old hc0.out.lt)).mono ?_
  rintro e w2 ⟨ea, ev2, rfl, hv2, hb2⟩
  have HV2 := hid hv2
  have HX2 := hid (hc0.out.below hb2)
  obtain ⟨⟨z0, z1, z2, z3, z4, z5, z6, z7, z8⟩, zf⟩ := HX2.out.cells9
  have zff := zf 0
  clear hv2 hb2 y0 zf
  go_upto_region 6 with fail
  have hc2 := hid (HX2.out.store 0 (.int .i64 ea))
  generalize w2.setCell ⟨w1.heap.size, 0, none⟩ (.int .i64 ea) = w2s at hc2 ⊢
  clear z0 z1 z2 z3 z4 z5 z6 z7 z8 zff HX2
  have hc2 : Hid (CB 54 w1.heap.size (w1.heap.size + 1) #[.int .i64 ea, .int .i64 0, .int .i64 0, .int .u64 0, .int .u64 0, .int .u64 0, .int .u64 0, .int .u64 0, .int .i64 0] 3 1 (.slice none 0 0) 0 [] W w2s) := hc2
  have y0 := (hc2.out.oldCell (o := 2) hlt).trans HK.out.2.2.1
  go_wp2_with fail
  refine (ma L2 w2s (by omega) (HLW.out w2s hc2.out.old hc2.out.lt)).mono ?_
  rintro e w3 ⟨eb, ev3, rfl, hv3, hb3⟩
  have HV3 := hid hv3
  have HX3 := hid (hc2.out.below hb3)
  obtain ⟨⟨z0, z1, z2, z3, z4, z5, z6, z7, z8⟩, zf⟩ := HX3.out.cells9
  have zff := zf 1
  clear hv3 hb3 y0 zf
  go_upto_region 7 with fail
  have hc3 := hid (HX3.out.store 1 (.int .i64 eb))
  generalize w3.setCell ⟨w1.heap.size, 1, none⟩ (.int .i64 eb) = w3s at hc3 ⊢
  clear z0 z1 z2 z3 z4 z5 z6 z7 z8 zff HX3
  have hc3 : Hid (CB 54 w1.heap.size (w1.heap.size + 1) #[.int .i64 ea, .int .i64 eb, .int .i64 0, .int .u64 0, .int .u64 0, .int .u64 0, .int .u64 0, .int .u64 0, .int .i64 0] 3 1 (.slice none 0 0) 0 [] W w3s) := hc3
  have y0 := (hc3.out.oldCell (o := 3) hlt).trans HK.out.2.2.2.1
  go_wp2_with fail
  refine (rD L3 w3s (by omega) (HLW.out w3s hc3.out.old hc3.out.lt)).mono ?_
  rintro e w4 ⟨ex, ev4, rfl, hv4, hb4⟩
  have HV4z := hid hv4
  have HX4 := hid (hc3.out.below hb4)
  obtain ⟨⟨z0, z1, z2, z3, z4, z5, z6, z7, z8⟩, zf⟩ := HX4.out.cells9
  have zff := zf 3
  clear hv4 hb4 y0 zf
  go_upto_region 8 with fail
  have hc4 := hid (HX4.out.store 3 (.int .u64 (ex : Nat)))
  generalize w4.setCell ⟨w1.heap.size, 3, none⟩ (.int .u64 (ex : Nat)) = w4s at hc4 ⊢
  clear z0 z1 z2 z3 z4 z5 z6 z7 z8 zff HX4
  have hc4 : Hid (CB 54 w1.heap.size (w1.heap.size + 1) #[.int .i64 ea, .int .i64 eb, .int .i64 0, .int .u64 (ex : Nat), .int .u64 0, .int .u64 0, .int .u64 0, .int .u64 0, .int .i64 0] 3 1 (.slice none 0 0) 0 [] W w4s) := hc4
  have y0 := (hc4.out.oldCell (o := 6) hlt).trans HK.out.2.2.2.2.2.2
  go_wp2_with fail
  refine (ma L6 w4s (by omega) (HLW.out w4s hc4.out.old hc4.out.lt)).mono ?_
  rintro e w5 ⟨ep, ev5, rfl, hv5, hb5⟩
  have HV5 := hid hv5
  have HX5 := hid (hc4.out.below hb5)
  obtain ⟨⟨z0, z1, z2, z3, z4, z5, z6, z7, z8⟩, zf⟩ := HX5.out.cells9
  have zff := zf 8
  clear hv5 hb5 y0 zf
  go_upto_region 9 with fail
  have hc5 := hid (HX5.out.store 8 (.int .i64 ep))
  generalize w5.setCell ⟨w1.heap.size, 8, none⟩ (.int .i64 ep) = w5s at hc5 ⊢
  clear z0 z1 z2 z3 z4 z5 z6 z7 z8 zff HX5
  have hc5 : Hid (CB 54 w1.heap.size (w1.heap.size + 1) #[.int .i64 ea, .int .i64 eb, .int .i64 0, .int .u64 (ex : Nat), .int .u64 0, .int .u64 0, .int .u64 0, .int .u64 0, .int .i64 ep] 3 1 (.slice none 0 0) 0 [] W w5s) := hc5
  go_upto_region 9 with fail
  refine ak (w0 := w5s) rfl [.eq (.slice (some ⟨w.heap.size + 1, 0, none⟩) 7 7), .eq (.pointer (some ⟨w.heap.size + 1, 4, none⟩)), .eq (.string L4), .of (CZ l4), .eq (.slice (some ⟨w.heap.size + 1, 0, none⟩) 7 7), .eq (.pointer (some ⟨w.heap.size + 1, 5, none⟩)), .eq (.string L5), .of (CZ l5), .eq (.pointer (some ⟨w1.heap.size, 4, none⟩)), .tail, .eq (.pointer (some ⟨w1.heap.size, 6, none⟩)), .tail] 9 [11] [10] (by kernel_rfl) ⟨?_, ?_, ?_, ?_, ?_, ?_, ?_, ?_, ?_, ?_, ?_, ?_, trivial⟩ ⟨?_, trivial⟩ [fun vs w' => ∃ m4 n4 m5 n5 : Nat, oJ l4 m4 n4 ∧ oJ l5 m5 n5 ∧ vs 7 = .agg #[.int .u64 m5, .int .u64 n5] ∧ CB 54 w1.heap.size (w1.heap.size + 1) #[.int .i64 ea, .int .i64 eb, .int .i64 0, .int .u64 (ex : Nat), .int .u64 (m4 : Nat), .int .u64 (n4 : Nat), .int .u64 0, .int .u64 0, .int .i64 ep] 3 1 (.slice none 0 0) 0 [] W w', fun vs w' => ∃ m4 n4 m5 n5 : Nat, oJ l4 m4 n4 ∧ oJ l5 m5 n5 ∧ CB 54 w1.heap.size (w1.heap.size + 1) #[.int .i64 ea, .int .i64 eb, .int .i64 0, .int .u64 (ex : Nat), .int .u64 (m4 : Nat), .int .u64 (n4 : Nat), .int .u64 (m5 : Nat), .int .u64 (n5 : Nat), .int .i64 ep] 3 1 (.slice none 0 0) 0 [] W w'] ⟨?_, ?_, trivial⟩ (fun vs => [(45, (.slice (some ⟨w.heap.size + 1, 0, none⟩) 7 7)), (46, (.pointer (some ⟨w.heap.size + 1, 4, none⟩))), (47, (.string L4)), (48, vs 3), (49, (.slice (some ⟨w.heap.size + 1, 0, none⟩) 7 7)), (50, (.pointer (some ⟨w.heap.size + 1, 5, none⟩))), (51, (.string L5)), (52, vs 7), (53, (.pointer (some ⟨w1.heap.size, 4, none⟩))), (54, (.pointer (some ⟨w1.heap.size, 6, none⟩)))]) (fun _ => rfl) ?_
  ·refine rs fun S a wx K Q hR hK => ?_
   have t4 : a.tmps[4]? = some (.slice (some ⟨w.heap.size + 1, 0, none⟩) 7 7) := hR.o 4
   go_simp
   exact hK _ _ br rfl
  ·refine rs fun S a wx K Q hR hK => ?_
   have t45 := hR.q 0
   go_simp
   exact hK _ _ br rfl
  ·refine rs fun S a wx K Q hR hK => ?_
   have t46 := hR.q 1
   have y0 := ((hc5.out.below hR.bel).oldCell (o := 4) hlt).trans HK.out.2.2.2.2.1
   go_simp
   exact hK _ _ br rfl
  ·exact uG _
  ·refine rs fun S a wx K Q hR hK => ?_
   have t47 := hR.q 2
   go_simp
   go_at_call 79
   refine (oK L4 wx (by omega) (HLW.out wx (hc5.out.below hR.bel).old (hc5.out.below hR.bel).lt)).mono ?_
   rintro e w' ⟨m, n, rfl, hv, hbx⟩
   exact hK _ _ hbx ⟨m, n, rfl, by rw [← HD.out.2.2.2.2.2.2.1]; exact hv⟩
  ·refine rs fun S a wx K Q hR hK => ?_
   have t4 : a.tmps[4]? = some (.slice (some ⟨w.heap.size + 1, 0, none⟩) 7 7) := hR.o 4
   go_simp
   exact hK _ _ br rfl
  ·refine rs fun S a wx K Q hR hK => ?_
   have t49 := hR.q 4
   go_simp
   exact hK _ _ br rfl
  ·refine rs fun S a wx K Q hR hK => ?_
   have t50 := hR.q 5
   have y0 := ((hc5.out.below hR.bel).oldCell (o := 5) hlt).trans HK.out.2.2.2.2.2.1
   go_simp
   exact hK _ _ br rfl
  ·exact uG _
  ·refine rs fun S a wx K Q hR hK => ?_
   have t51 := hR.q 6
   go_simp
   go_at_call 79
   refine (oK L5 wx (by omega) (HLW.out wx (hc5.out.below hR.bel).old (hc5.out.below hR.bel).lt)).mono ?_
   rintro e w' ⟨m, n, rfl, hv, hbx⟩
   exact hK _ _ hbx ⟨m, n, rfl, by rw [← HD.out.2.2.2.2.2.2.2.1]; exact hv⟩
  ·refine rs fun S a wx K Q hR hK => ?_
   have t5 : a.tmps[5]? = some (.pointer (some ⟨w1.heap.size, 0, none⟩)) := hR.o 5
   go_simp
   exact hK _ _ br rfl
  ·refine cK.step rfl (cK.mk rfl rfl (fun a wx K Q hR hK => ?_))
   have t5 : a.tmps[5]? = some (.pointer (some ⟨w1.heap.size, 0, none⟩)) := hR.o 5
   go_simp
   exact hK
  ·refine cK.mk rfl rfl (fun a wx K Q hR hK => ?_)
   have t5 : a.tmps[5]? = some (.pointer (some ⟨w1.heap.size, 0, none⟩)) := hR.o 5
   go_simp
   exact hK
  ·refine ts fun vs a wx K Q hR hZ hK => ?_
   have t53 := hR.d 8 53
   rw [hR.eqs 8 _ rfl] at t53
   have t48 := hR.d 3 48
   obtain ⟨hbel2, S2, hlow, hof⟩ := hZ
   obtain ⟨m4, n4, ev, hv4⟩ := (show CZ l4 S2 (vs 3) wx from hof 3 _ rfl)
   obtain ⟨m5, n5, ev5, hv5⟩ := (show CZ l5 S2 (vs 7) wx from hof 7 _ rfl)
   rw [ev] at t48
   have HQ := hid (hc5.out.below hbel2)
   obtain ⟨⟨z0, z1, z2, z3, z4, z5, z6, z7, z8⟩, zf⟩ := HQ.out.cells9
   have zf4 := zf 4
   have zf5 := zf 5
   have HQ2 := hid ((HQ.out.store 4 (.int .u64 (m4 : Nat))).store 5 (.int .u64 (n4 : Nat)))
   have HV4 := hid (And.intro hv4 (And.intro hv5 ev5))
   clear hv4 hv5 ev5 hof ev zf
   go_simp
   exact hK undef _ ⟨m4, n4, m5, n5, HV4.out.1, HV4.out.2.1, (upd_ne _ _ (by omega)).trans HV4.out.2.2, HQ2.out⟩
  ·refine ts fun vs a wx K Q hR hZ hK => ?_
   have t54 := hR.d 10 54
   rw [hR.eqs 10 _ rfl] at t54
   have t52 := hR.d 7 52
   obtain ⟨m4, n4, m5, n5, hv4, hv5, ev5, hco⟩ := hZ
   rw [ev5] at t52
   obtain ⟨⟨z0, z1, z2, z3, z4, z5, z6, z7, z8⟩, zf⟩ := CB.cells9 hco
   have zf6 := zf 6
   have zf7 := zf 7
   have HQ2 := hid ((hco.store 6 (.int .u64 (m5 : Nat))).store 7 (.int .u64 (n5 : Nat)))
   have HV4 := hid (And.intro hv4 hv5)
   clear hv4 hv5 ev5 hco zf
   go_simp
   exact hK undef _ ⟨m4, n4, m5, n5, HV4.out.1, HV4.out.2, HQ2.out⟩
  intro vs w8 hE hZ
  have HZ := hid hZ
  simp only [aP, List.foldl_cons, List.foldl_nil]
  clear hE hZ
  generalize vs 3 = vt1
  generalize vs 7 = vt2
  go_simp
  obtain ⟨m4, n4, m5, n5, hv4, hv5, hco⟩ := HZ.out
  have HV4 := hid (And.intro hv4 hv5)
  have hc8 := hid hco
  clear hv4 hv5 hco HZ
  go_wp2_with fail
  refine (qD w8).mono ?_
  rintro e w9 ⟨rfl, hb9⟩
  have hc9 := hid (hc8.out.below hb9)
  clear hb9
  go_upto_region 11 with fail
  have hcA : Hid (CB 54 w1.heap.size (w1.heap.size + 1) #[.int .i64 ea, .int .i64 eb, .int .i64 0, .int .u64 (ex : Nat), .int .u64 (m4 : Nat), .int .u64 (n4 : Nat), .int .u64 (m5 : Nat), .int .u64 (n5 : Nat), .int .i64 ep] 3 1 (.slice none 0 0) 0 [] W (w9.alloc (.cells #[.string ⟨#[]⟩, .string ⟨#[119, 119]⟩, .string ⟨#[119, 114]⟩, .string ⟨#[114, 119]⟩, .string ⟨#[112, 119, 114]⟩, .string ⟨#[112, 114, 119]⟩] 119)) ∧ (w9.alloc (.cells #[.string ⟨#[]⟩, .string ⟨#[119, 119]⟩, .string ⟨#[119, 114]⟩, .string ⟨#[114, 119]⟩, .string ⟨#[112, 119, 114]⟩, .string ⟨#[112, 114, 119]⟩] 119)).heap[w9.heap.size]? = some (.cells (strs wO).toArray 119 (0, 0))) := hid ⟨hc9.out.below (br.alloc nl _), heap_alloc_new _ _⟩
  generalize (w9.alloc (.cells #[.string ⟨#[]⟩, .string ⟨#[119, 119]⟩, .string ⟨#[119, 114]⟩, .string ⟨#[114, 119]⟩, .string ⟨#[112, 119, 114]⟩, .string ⟨#[112, 114, 119]⟩] 119)) = wA at hcA ⊢
  have hnl := (Array.getElem?_eq_some_iff.1 hcA.out.2).1
  refine ak (w0 := wA) rfl [.eq (.slice (some ⟨w9.heap.size, 0, none⟩) 6 6), .eq (.slice (some ⟨w.heap.size + 1, 0, none⟩) 7 7), .eq (.pointer (some ⟨w.heap.size + 1, 1, none⟩)), .eq (.string L1), .of (Fj l1), .eq (.int .i64 (bY l1)), .eq (.pointer (some ⟨w1.heap.size, 2, none⟩)), .tail] 7 [] [] (by kernel_rfl) ⟨?_, ?_, ?_, ?_, ?_, ?_, ?_, ?_, trivial⟩ trivial [fun vs w' => CB 54 w1.heap.size (w1.heap.size + 1) #[.int .i64 ea, .int .i64 eb, .int .i64 (bY l1), .int .u64 (ex : Nat), .int .u64 (m4 : Nat), .int .u64 (n4 : Nat), .int .u64 (m5 : Nat), .int .u64 (n5 : Nat), .int .i64 ep] 3 1 (.slice none 0 0) 0 [] W w'] ⟨?_, trivial⟩ (fun vs => [(56, (.slice (some ⟨w9.heap.size, 0, none⟩) 6 6)), (57, (.slice (some ⟨w.heap.size + 1, 0, none⟩) 7 7)), (58, (.pointer (some ⟨w.heap.size + 1, 1, none⟩))), (59, (.string L1)), (60, vs 4), (61, (.int .i64 (bY l1))), (62, (.pointer (some ⟨w1.heap.size, 2, none⟩)))]) (fun _ => rfl) ?_
  ·refine rs fun S a wx K Q hR hK => ?_
   have t6 : a.tmps[6]? = some (.pointer (some ⟨w9.heap.size, 0, none⟩)) := hR.o 6
   go_simp
   exact hK _ _ br rfl
  ·refine rs fun S a wx K Q hR hK => ?_
   have t4 : a.tmps[4]? = some (.slice (some ⟨w.heap.size + 1, 0, none⟩) 7 7) := hR.o 4
   go_simp
   exact hK _ _ br rfl
  ·refine rs fun S a wx K Q hR hK => ?_
   have t57 := hR.q 1
   go_simp
   exact hK _ _ br rfl
  ·refine rs fun S a wx K Q hR hK => ?_
   have t58 := hR.q 2
   have y0 := ((hcA.out.1.below hR.bel).oldCell (o := 1) hlt).trans HK.out.2.1
   go_simp
   exact hK _ _ br rfl
  ·exact Bn _
  ·refine rs fun S a wx K Q hR hK => ?_
   have t56 := hR.q 0
   have t59 := hR.q 3
   go_simp
   go_at_call 41
   refine (oL _ wO _ L1 wx (gV.of_row ((hR.bel.block _ hnl).trans hcA.out.2) (by decide)) (by decide)).mono ?_
   rintro e w' ⟨ki, rfl, hki, rfl⟩
   exact hK _ _ br ⟨ki, rfl, by rw [← HD.out.2.2.2.1]; exact hki⟩
  ·refine rs fun S a wx K Q hR hK => ?_
   obtain ⟨u60, t60, f60⟩ := hR.f 4
   obtain ⟨ki, rfl, hki⟩ := f60
   have hkm := EM hki
   go_simp
   exact hK _ _ br rfl
  ·refine rs fun S a wx K Q hR hK => ?_
   have t5 : a.tmps[5]? = some (.pointer (some ⟨w1.heap.size, 0, none⟩)) := hR.o 5
   go_simp
   exact hK _ _ br rfl
  ·refine ts fun vs a wx K Q hR hZ hK => ?_
   have t62 := hR.d 6 62
   rw [hR.eqs 6 _ rfl] at t62
   have t61 := hR.d 5 61
   rw [hR.eqs 5 _ rfl] at t61
   obtain ⟨hbel2, S2, hlow, hof⟩ := hZ
   have HQ := hid (hcA.out.1.below hbel2)
   obtain ⟨⟨z0, z1, z2, z3, z4, z5, z6, z7, z8⟩, zf⟩ := HQ.out.cells9
   have zf2 := zf 2
   have HQ2 := hid (HQ.out.store 2 (.int .i64 (bY l1)))
   clear zf hof
   go_simp
   exact hK undef _ HQ2.out
  intro vs wB hE hZ
  have hcB := hid hZ
  simp only [aP, List.foldl_cons, List.foldl_nil]
  clear hE hZ
  generalize vs 4 = vt3
  go_simp
  obtain ⟨⟨z0, z1, z2, z3, z4, z5, z6, z7, z8⟩, zf⟩ := hcB.out.cells9
  obtain ⟨c, hc⟩ : ∃ c : Ed, c = ⟨ea, eb, bY l1, ex, m4, n4, m5, n5, ep⟩ := ⟨_, rfl⟩
  have hcand := wD (s := s.data.toList) (c := c) (HD.out.1.trans HD.out.2.1) (by rw [hc, ← HD.out.2.2.1]; exact HV2.out) (by rw [hc]) (by rw [hc, ← HD.out.2.2.2.2.1]; exact HV3.out) (by rw [hc, ← HD.out.2.2.2.2.2.1]; exact HV4z.out) (by rw [hc]; exact HV4.out.1.1) (by rw [hc]; exact HV4.out.1.2) (by rw [hc]; exact HV4.out.2.1) (by rw [hc]; exact HV4.out.2.2) (by rw [hc, ← HD.out.2.2.2.2.2.2.2.2]; exact HV5.out)
  have HCD := hid hcand
  have hTX : Calls Tryz.prog 28 #[.agg #[.int .i64 ea, .int .i64 eb, .int .i64 (bY l1), .int .u64 (ex : Nat), .int .u64 (m4 : Nat), .int .u64 (n4 : Nat), .int .u64 (m5 : Nat), .int .u64 (n5 : Nat), .int .i64 ep]] wB fun r w' => r = .returned (str c.text) ∧ Below wB.heap.size wB w' := by
   have h1 := jB hcand.1 wB (HLW.out wB hcB.out.old hcB.out.lt)
   rw [hc] at h1 ⊢
   exact h1
  have HTX := hid hTX
  have HCE := hid hc
  obtain ⟨CT, hCT⟩ : ∃ CT : ByteArray, CT = ⟨c.text.toArray⟩ := ⟨_, rfl⟩
  have hCd : (CT.toList == s.toList) = decide (c.text = s.data.toList) := by rw [hCT, ByteArray.toList_eq, ByteArray.toList_eq, Bool.eq_iff_iff]; simp
  have hst : str c.text = .string CT := by rw [hCT]; rfl
  rw [hst] at HTX
  clear hcand hTX hc zf hCT hst
  go_wp2_with fail
  refine HTX.out.mono ?_
  rintro e wC ⟨rfl, hbC⟩
  have hcC := hid (hcB.out.below hbC)
  have g9 := (hcC.out.old.block w.heap.size (by omega)).trans HW.out.2.2.1
  obtain ⟨⟨x0, x1, x2, x3, x4, x5, x6, x7, x8⟩, _⟩ := hcC.out.cells9
  clear hbC z0 z1 z2 z3 z4 z5 z6 z7 z8
  by_cases hq : c.text = s.data.toList
  ·have t9 : (CT.toList == s.toList) = true := by rw [hCd]; simpa using hq
   have HE : Hid (edRead s.data.toList = some c) := hid (by rw [HCD.out.2, if_pos hq])
   clear hq hCd
   go_wp2_with (refine wpList_store_row rfl 54 (.tmp 2) (.tmp 68) rfl rfl w.heap.size rfl _ rfl 54 _ g9 (by kernel_rfl) rfl (by simp [Value.oneCell']) ?_)
   refine bodyPost_ret (v := .tuple #[.agg #[.int .i64 ea, .int .i64 eb, .int .i64 (bY l1), .int .u64 (ex : Nat), .int .u64 (m4 : Nat), .int .u64 (n4 : Nat), .int .u64 (m5 : Nat), .int .u64 (n5 : Nat), .int .i64 ep], .int .i64 0]) (aa rfl _ _ w.heap.size 54 _ _ _ _ rfl (setRow_heap _ _ _ _ _ _ g9) Tryz.underlying54 rfl (by kernel_rfl) rfl) rfl ⟨?_, below_setRow (HW.out.2.1.trans (hcC.out.old.mono (by omega))) _ _ nl⟩
   rw [HE.out, HCE.out]; rfl
  ·have t9 : (CT.toList == s.toList) = false := by rw [hCd]; simpa using hq
   have HE : Hid (edRead s.data.toList = none) := hid (by rw [HCD.out.2, if_neg hq])
   clear hq hCd x0 x1 x2 x3 x4 x5 x6 x7 x8
   go_wp2_with (refine wpList_store_row rfl 54 (.tmp 2) (.tmp 67) rfl rfl w.heap.size rfl _ rfl 54 _ g9 (by kernel_rfl) rfl (by simp [Value.oneCell']) ?_)
   refine bodyPost_ret (v := .tuple #[.agg #[.int .i64 0, .int .i64 0, .int .i64 0, .int .u64 0, .int .u64 0, .int .u64 0, .int .u64 0, .int .u64 0, .int .i64 0], .int .i64 230]) (aa rfl _ _ w.heap.size 54 _ _ _ _ rfl (setRow_heap _ _ _ _ _ _ g9) Tryz.underlying54 rfl (by kernel_rfl) rfl) rfl ⟨?_, below_setRow (HW.out.2.1.trans (hcC.out.old.mono (by omega))) _ _ nl⟩
   rw [HE.out]; rfl
 ·have t7 : ((l.length : Int) != 7) = true := by simpa using (by omega : ¬ (l.length : Int) = 7)
  have g9 := H1.out.2.2.1
  have HE : Hid (edRead s.data.toList = none) := hid (mF (by rw [hl]; exact h7))
  clear h7
  go_wp2_with (refine wpList_store_row rfl 54 (.tmp 2) (.tmp 12) rfl rfl w.heap.size rfl _ rfl 54 _ g9 (by kernel_rfl) rfl (by simp [Value.oneCell']) ?_)
  refine bodyPost_ret (v := .tuple #[.agg #[.int .i64 0, .int .i64 0, .int .i64 0, .int .u64 0, .int .u64 0, .int .u64 0, .int .u64 0, .int .u64 0, .int .i64 0], .int .i64 230]) (aa rfl _ _ w.heap.size 54 _ _ _ _ rfl (setRow_heap _ _ _ _ _ _ g9) Tryz.underlying54 rfl (by kernel_rfl) rfl) rfl ⟨?_, below_setRow H1.out.1 _ _ nl⟩
  rw [HE.out]; rfl
theorem uH {w : World} {base : Nat} {T : TypeId} {v : Value} {l : List (List UInt8)} (h : w.ownsRow base T 1 v l.length (strs l)) (hne : l ≠ []) :
  ∃ g cap, v = .slice (some ⟨g, 0, none⟩) l.length cap ∧ base ≤ g ∧ g < w.heap.size ∧ ∀ j x, l[j]? = some x → w.cell? ⟨g, j, none⟩ = some (.string ⟨x.toArray⟩) := by
 obtain ⟨hl, h⟩ := h
 have hn : l.length ≠ 0 := fun e => hne (List.length_eq_zero_iff.1 e)
 rcases h with ⟨h, h2⟩ | ⟨g, cap, cur, hv, hb, hg, hn2, hm, hs, ht⟩
 ·omega
 ·refine ⟨g, cap, hv, hb, (Array.getElem?_eq_some_iff.1 hg).1, fun j x hx => ?_⟩
  have hj := (List.getElem?_eq_some_iff.1 hx).1
  rw [cell_of_row w _ _ _ _ _ hg]
  have h1 : (cur.toList.take (l.length * 1))[j]? = some (.string ⟨x.toArray⟩) := by rw [ht]; simp [strs, hx]
  rw [List.getElem?_take, if_pos (by omega)] at h1
  simpa using h1
def kUp (x : List UInt8) : Nat → Int
 | 0 => 0
 | j + 1 => if x = aV (j : Nat) then (j : Nat) else kUp x j
theorem Ee (x : List UInt8) : kUp x 1 = 0 := by simp [kUp]
theorem Ef (x : List UInt8) : kUp x 6 = bY x := by
 by_cases h1 : x = aV 1
 ·subst h1; decide
 by_cases h2 : x = aV 2
 ·subst h2; decide
 by_cases h3 : x = aV 3
 ·subst h3; decide
 by_cases h4 : x = aV 4
 ·subst h4; decide
 by_cases h5 : x = aV 5
 ·subst h5; decide
 simp only [kUp, bY]
 rw [if_neg (show ¬ x = aV ((5 : Nat) : Int) from h5), if_neg (show ¬ x = aV ((4 : Nat) : Int) from h4), if_neg (show ¬ x = aV ((3 : Nat) : Int) from h3), if_neg (show ¬ x = aV ((2 : Nat) : Int) from h2), if_neg (show ¬ x = aV ((1 : Nat) : Int) from h1), if_neg h1, if_neg h2, if_neg h3, if_neg h4, if_neg h5]
 simp
theorem rE (s : ByteArray) (hs : s.size ≤ 400) (w : World) : Calls Tryz.prog 138 #[.string s] w fun e w' => e = .returned (.agg #[.int .u64 ((jy s.data.toList).1 : Nat), .int .u64 ((jy s.data.toList).2 : Nat)]) ∧ Below w.heap.size w w' := by
 have g0 := heap_alloc_new w (.cells #[.int .u64 0, .int .u64 0] 106)
 have hb0 : Below w.heap.size w (w.alloc (.cells #[.int .u64 0, .int .u64 0] 106)) := br.alloc nl _
 have hs0 : (w.alloc (.cells #[.int .u64 0, .int .u64 0] 106)).heap.size = w.heap.size + 1 := World.size_alloc _ _
 have HC := hid (jZ 46 s (w.alloc (.cells #[.int .u64 0, .int .u64 0] 106)) (by omega))
 obtain ⟨l, hl⟩ : ∃ l, cuts 46 s.data.toList = l := ⟨_, rfl⟩
 have hle : ∀ y ∈ l, y.length ≤ 400 := fun y hy => by rw [← hl] at hy; have := bJ 46 s.data.toList y hy; rw [ay] at this; omega
 rw [hl] at HC
 have H0 := hid (And.intro hb0 (And.intro hs0 g0))
 clear g0 hb0 hs0
 go_enter Tryz.func138, Tryz.ntmps138
 go_wp2_with fail
 refine HC.out.mono ?_
 rintro e w1 ⟨v, rfl, ho, hb1⟩
 have H1 : Hid (Below w.heap.size w w1 ∧ w.heap.size < w1.heap.size ∧ w1.heap[w.heap.size]? = some (.cells #[.int .u64 0, .int .u64 0] 106 (0, 0))) := hid (by
  obtain ⟨q1, q2, q3⟩ := H0.out
  have := hb1.size
  exact ⟨q1.trans (hb1.mono (by omega)), by omega, (hb1.block _ (by omega)).trans q3⟩)
 clear hb1 H0 HC
 by_cases h2 : l.length = 2
 ·obtain ⟨l0, l1, hq⟩ : ∃ x y, l = [x, y] := by match l, h2 with | [x, y], _ => exact ⟨x, y, rfl⟩
  obtain ⟨g, cap, rfl, _, hgl, hcell⟩ := uH ho (by rw [hq]; simp)
  rw [h2]
  clear ho
  rw [hq] at hcell
  obtain ⟨L0, hL0⟩ : ∃ L : ByteArray, L = ⟨l0.toArray⟩ := ⟨_, rfl⟩
  have zL0 : L0.size ≤ 400 := by rw [hL0, ← ay]; exact hle l0 (by rw [hq]; simp)
  have d0 : L0.data.toList = l0 := by rw [hL0]
  have k0 := hcell 0 l0 rfl
  rw [← hL0] at k0
  obtain ⟨L1, hL1⟩ : ∃ L : ByteArray, L = ⟨l1.toArray⟩ := ⟨_, rfl⟩
  have zL1 : L1.size ≤ 400 := by rw [hL1, ← ay]; exact hle l1 (by rw [hq]; simp)
  have d1 : L1.data.toList = l1 := by rw [hL1]
  have k1 := hcell 1 l1 rfl
  rw [← hL1] at k1
  obtain ⟨v0, hv0⟩ : ∃ v, v = fC l0 := ⟨_, rfl⟩
  have HV0 : Hid (∀ w', Calls Tryz.prog 114 #[.string L0] w' fun e w'' => e = .returned (.int .u64 (v0 : Nat)) ∧ w'' = w') := hid (fun w' => by have h := dJ L0 w' (by omega); rw [d0, ← hv0] at h; exact h)
  obtain ⟨v1, hv1⟩ : ∃ v, v = fC l1 := ⟨_, rfl⟩
  have HV1 : Hid (∀ w', Calls Tryz.prog 114 #[.string L1] w' fun e w'' => e = .returned (.int .u64 (v1 : Nat)) ∧ w'' = w') := hid (fun w' => by have h := dJ L1 w' (by omega); rw [d1, ← hv1] at h; exact h)
  have HR : Hid (jy s.data.toList = (v0, v1)) := hid (by simp [jy, hl, hq, hv0, hv1])
  clear hle hcell hL0 d0 hL1 d1 hq hl h2 hv0 hv1
  go_upto_region 4 with fail
  refine ak (w0 := w1) rfl [.eq (.slice (some ⟨g, 0, none⟩) 2 cap), .eq (.pointer (some ⟨g, 0, none⟩)), .eq (.string L0), .eq (.int .u64 (v0 : Nat)), .eq (.slice (some ⟨g, 0, none⟩) 2 cap), .eq (.pointer (some ⟨g, 1, none⟩)), .eq (.string L1), .eq (.int .u64 (v1 : Nat)), .eq (.agg #[.int .u64 (v0 : Nat), .int .u64 (v1 : Nat)]), .tail] 9 [] [] (by kernel_rfl) ⟨?_, ?_, ?_, ?_, ?_, ?_, ?_, ?_, ?_, trivial⟩ trivial [fun vs w' => w'.heap[w.heap.size]? = some (.cells #[.int .u64 (v0 : Nat), .int .u64 (v1 : Nat)] 106 (0, 0)) ∧ Below w.heap.size w w'] ⟨?_, trivial⟩ (fun vs => [(10, (.slice (some ⟨g, 0, none⟩) 2 cap)), (11, (.pointer (some ⟨g, 0, none⟩))), (12, (.string L0)), (13, (.int .u64 (v0 : Nat))), (14, (.slice (some ⟨g, 0, none⟩) 2 cap)), (15, (.pointer (some ⟨g, 1, none⟩))), (16, (.string L1)), (17, (.int .u64 (v1 : Nat))), (18, (.agg #[.int .u64 (v0 : Nat), .int .u64 (v1 : Nat)]))]) (fun _ => rfl) ?_
  ·refine rs fun S a wx K Q hR hK => ?_
   have t3 : a.tmps[3]? = some (.slice (some ⟨g, 0, none⟩) 2 cap) := hR.o 3
   go_simp
   exact hK _ _ br rfl
  ·refine rs fun S a wx K Q hR hK => ?_
   have t10 := hR.q 0
   go_simp
   exact hK _ _ br rfl
  ·refine rs fun S a wx K Q hR hK => ?_
   have t11 := hR.q 1
   have y0 := (hR.bel.cell hgl).trans k0
   go_simp
   exact hK _ _ br rfl
  ·refine rs fun S a wx K Q hR hK => ?_
   have t12 := hR.q 2
   go_simp
   go_at_call 114
   refine (HV0.out wx).mono ?_
   rintro e w' ⟨rfl, rfl⟩
   exact hK _ _ br rfl
  ·refine rs fun S a wx K Q hR hK => ?_
   have t3 : a.tmps[3]? = some (.slice (some ⟨g, 0, none⟩) 2 cap) := hR.o 3
   go_simp
   exact hK _ _ br rfl
  ·refine rs fun S a wx K Q hR hK => ?_
   have t14 := hR.q 4
   go_simp
   exact hK _ _ br rfl
  ·refine rs fun S a wx K Q hR hK => ?_
   have t15 := hR.q 5
   have y0 := (hR.bel.cell hgl).trans k1
   go_simp
   exact hK _ _ br rfl
  ·refine rs fun S a wx K Q hR hK => ?_
   have t16 := hR.q 6
   go_simp
   go_at_call 114
   refine (HV1.out wx).mono ?_
   rintro e w' ⟨rfl, rfl⟩
   exact hK _ _ br rfl
  ·refine rs fun S a wx K Q hR hK => ?_
   have t13 := hR.q 3
   have t17 := hR.q 7
   go_simp
   exact hK _ _ br rfl
  ·refine ts fun vs a wx K Q hR hZ hK => ?_
   have t2 : a.tmps[2]? = some (.pointer (some ⟨w.heap.size, 0, none⟩)) := hR.o 2
   have t18 := hR.d 8 18
   rw [hR.eqs 8 _ rfl] at t18
   obtain ⟨hbel2, S2, hlow, hof⟩ := hZ
   have hg := (hbel2.block _ H1.out.2.1).trans H1.out.2.2
   refine lI 106 (.tmp 2) (.tmp 18) rfl w.heap.size (aI t2) _ (aI t18) 106 _ hg (by kernel_rfl) rfl (by simp [Value.oneCell']) ?_
   exact hK undef _ ⟨setRow_heap _ _ _ _ _ _ hg, below_setRow (H1.out.1.trans (hbel2.mono (by have := H1.out.2.1; omega))) _ _ nl⟩
  intro vs w2 hE hZ
  have HZ := hid hZ
  simp only [aP, List.foldl_cons, List.foldl_nil]
  clear hE hZ
  go_simp
  (try (go_wp2_with fail))
  refine bodyPost_ret (v := .agg #[.int .u64 (v0 : Nat), .int .u64 (v1 : Nat)]) (results_cell_row rfl _ _ w.heap.size 106 _ _ _ rfl HZ.out.1 Tryz.underlying106 rfl (by kernel_rfl)) rfl ⟨by rw [HR.out], HZ.out.2⟩
 ·obtain ⟨ad, cap, rfl⟩ := ag ho
  have t7 : ((l.length : Int) != 2) = true := by simpa using (by omega : ¬ (l.length : Int) = 2)
  have g9 := H1.out.2.2
  have HE : Hid (jy s.data.toList = (0, 0)) := hid (by
   unfold jy
   rw [hl]
   split
   ·simp at h2
   ·rfl)
  clear h2 ho
  go_wp2_with (refine wpList_store_row rfl 106 (.tmp 2) (.tmp 9) rfl rfl w.heap.size rfl _ rfl 106 _ g9 (by kernel_rfl) rfl (by simp [Value.oneCell']) ?_)
  refine bodyPost_ret (v := .agg #[.int .u64 0, .int .u64 0]) (results_cell_row rfl _ _ w.heap.size 106 _ _ _ rfl (setRow_heap _ _ _ _ _ _ g9) Tryz.underlying106 rfl (by kernel_rfl)) rfl ⟨by rw [HE.out]; rfl, below_setRow H1.out.1 _ _ nl⟩
theorem lK (s : ByteArray) (hs : s.size ≤ 400) (w : World) (hL : Lq w.heap.size w) : Calls Tryz.prog 115 #[.string s] w fun e w' => e = .returned (CY (edRead s.data.toList)) ∧ Below w.heap.size w w' := by
 have g0 := heap_alloc_new w (.cells #[.int .i64 0, .int .i64 0, .int .i64 0, .int .u64 0, .int .u64 0, .int .u64 0, .int .u64 0, .int .u64 0, .int .i64 0] 108)
 have hb0 : Below w.heap.size w (w.alloc (.cells #[.int .i64 0, .int .i64 0, .int .i64 0, .int .u64 0, .int .u64 0, .int .u64 0, .int .u64 0, .int .u64 0, .int .i64 0] 108)) := br.alloc nl _
 have hs0 : (w.alloc (.cells #[.int .i64 0, .int .i64 0, .int .i64 0, .int .u64 0, .int .u64 0, .int .u64 0, .int .u64 0, .int .u64 0, .int .i64 0] 108)).heap.size = w.heap.size + 1 := World.size_alloc _ _
 have HC := hid (jZ 32 s (w.alloc (.cells #[.int .i64 0, .int .i64 0, .int .i64 0, .int .u64 0, .int .u64 0, .int .u64 0, .int .u64 0, .int .u64 0, .int .i64 0] 108)) (by omega))
 obtain ⟨l, hl⟩ : ∃ l, cuts 32 s.data.toList = l := ⟨_, rfl⟩
 have hle : ∀ y ∈ l, y.length ≤ 400 := fun y hy => by rw [← hl] at hy; have := bJ 32 s.data.toList y hy; rw [ay] at this; omega
 rw [hl] at HC
 have H0 := hid (And.intro hb0 (And.intro hs0 (And.intro g0 hL)))
 clear g0 hb0 hs0 hL
 go_enter Tryz.func115, Tryz.ntmps115
 go_wp2_with fail
 refine HC.out.mono ?_
 rintro e w1 ⟨v, rfl, ho, hb1⟩
 have H1 : Hid (Below w.heap.size w w1 ∧ w.heap.size < w1.heap.size ∧ w1.heap[w.heap.size]? = some (.cells #[.int .i64 0, .int .i64 0, .int .i64 0, .int .u64 0, .int .u64 0, .int .u64 0, .int .u64 0, .int .u64 0, .int .i64 0] 108 (0, 0)) ∧ Lq w.heap.size w1) := hid (by
  obtain ⟨q1, q2, q3, q4⟩ := H0.out
  have := hb1.size
  exact ⟨q1.trans (hb1.mono (by omega)), by omega, (hb1.block _ (by omega)).trans q3, (q4.below q1).below (hb1.mono (by omega))⟩)
 clear hb1 H0 HC
 by_cases h7 : l.length = 7
 ·obtain ⟨l0, l1, l2, l3, l4, l5, l6, hq⟩ := xH h7
  obtain ⟨g, cap, rfl, _, hgl, hcell⟩ := uH ho (by rw [hq]; simp)
  rw [h7]
  clear ho
  rw [hq] at hcell
  obtain ⟨L0, hL0⟩ : ∃ L : ByteArray, L = ⟨l0.toArray⟩ := ⟨_, rfl⟩
  have zL0 : L0.size ≤ 400 := by rw [hL0, ← ay]; exact hle l0 (by rw [hq]; simp)
  have d0 : L0.data.toList = l0 := by rw [hL0]
  have k0 := hcell 0 l0 rfl
  rw [← hL0] at k0
  obtain ⟨L1, hL1⟩ : ∃ L : ByteArray, L = ⟨l1.toArray⟩ := ⟨_, rfl⟩
  have zL1 : L1.size ≤ 400 := by rw [hL1, ← ay]; exact hle l1 (by rw [hq]; simp)
  have d1 : L1.data.toList = l1 := by rw [hL1]
  have k1 := hcell 1 l1 rfl
  rw [← hL1] at k1
  obtain ⟨L2, hL2⟩ : ∃ L : ByteArray, L = ⟨l2.toArray⟩ := ⟨_, rfl⟩
  have zL2 : L2.size ≤ 400 := by rw [hL2, ← ay]; exact hle l2 (by rw [hq]; simp)
  have d2 : L2.data.toList = l2 := by rw [hL2]
  have k2 := hcell 2 l2 rfl
  rw [← hL2] at k2
  obtain ⟨L3, hL3⟩ : ∃ L : ByteArray, L = ⟨l3.toArray⟩ := ⟨_, rfl⟩
  have zL3 : L3.size ≤ 400 := by rw [hL3, ← ay]; exact hle l3 (by rw [hq]; simp)
  have d3 : L3.data.toList = l3 := by rw [hL3]
  have k3 := hcell 3 l3 rfl
  rw [← hL3] at k3
  obtain ⟨L4, hL4⟩ : ∃ L : ByteArray, L = ⟨l4.toArray⟩ := ⟨_, rfl⟩
  have zL4 : L4.size ≤ 400 := by rw [hL4, ← ay]; exact hle l4 (by rw [hq]; simp)
  have d4 : L4.data.toList = l4 := by rw [hL4]
  have k4 := hcell 4 l4 rfl
  rw [← hL4] at k4
  obtain ⟨L5, hL5⟩ : ∃ L : ByteArray, L = ⟨l5.toArray⟩ := ⟨_, rfl⟩
  have zL5 : L5.size ≤ 400 := by rw [hL5, ← ay]; exact hle l5 (by rw [hq]; simp)
  have d5 : L5.data.toList = l5 := by rw [hL5]
  have k5 := hcell 5 l5 rfl
  rw [← hL5] at k5
  obtain ⟨L6, hL6⟩ : ∃ L : ByteArray, L = ⟨l6.toArray⟩ := ⟨_, rfl⟩
  have zL6 : L6.size ≤ 400 := by rw [hL6, ← ay]; exact hle l6 (by rw [hq]; simp)
  have d6 : L6.data.toList = l6 := by rw [hL6]
  have k6 := hcell 6 l6 rfl
  rw [← hL6] at k6
  obtain ⟨v0, hv0⟩ : ∃ v, v = fC l0 := ⟨_, rfl⟩
  have HV0 : Hid (∀ w', Calls Tryz.prog 114 #[.string L0] w' fun e w'' => e = .returned (.int .u64 (v0 : Nat)) ∧ w'' = w') := hid (fun w' => by have h := dJ L0 w' (by omega); rw [d0, ← hv0] at h; exact h)
  obtain ⟨v2, hv2⟩ : ∃ v, v = fC l2 := ⟨_, rfl⟩
  have HV2 : Hid (∀ w', Calls Tryz.prog 114 #[.string L2] w' fun e w'' => e = .returned (.int .u64 (v2 : Nat)) ∧ w'' = w') := hid (fun w' => by have h := dJ L2 w' (by omega); rw [d2, ← hv2] at h; exact h)
  obtain ⟨v3, hv3⟩ : ∃ v, v = fC l3 := ⟨_, rfl⟩
  have HV3 : Hid (∀ w', Calls Tryz.prog 114 #[.string L3] w' fun e w'' => e = .returned (.int .u64 (v3 : Nat)) ∧ w'' = w') := hid (fun w' => by have h := dJ L3 w' (by omega); rw [d3, ← hv3] at h; exact h)
  obtain ⟨v6, hv6⟩ : ∃ v, v = fC l6 := ⟨_, rfl⟩
  have HV6 : Hid (∀ w', Calls Tryz.prog 114 #[.string L6] w' fun e w'' => e = .returned (.int .u64 (v6 : Nat)) ∧ w'' = w') := hid (fun w' => by have h := dJ L6 w' (by omega); rw [d6, ← hv6] at h; exact h)
  obtain ⟨m4, hm4⟩ : ∃ m, m = (jy l4).1 := ⟨_, rfl⟩
  obtain ⟨n4, hn4⟩ : ∃ m, m = (jy l4).2 := ⟨_, rfl⟩
  have HV4 : Hid (∀ w', Calls Tryz.prog 138 #[.string L4] w' fun e w'' => e = .returned (.agg #[.int .u64 (m4 : Nat), .int .u64 (n4 : Nat)]) ∧ Below w'.heap.size w' w'') := hid (fun w' => by have h := rE L4 zL4 w'; rw [d4, ← hm4, ← hn4] at h; exact h)
  obtain ⟨m5, hm5⟩ : ∃ m, m = (jy l5).1 := ⟨_, rfl⟩
  obtain ⟨n5, hn5⟩ : ∃ m, m = (jy l5).2 := ⟨_, rfl⟩
  have HV5 : Hid (∀ w', Calls Tryz.prog 138 #[.string L5] w' fun e w'' => e = .returned (.agg #[.int .u64 (m5 : Nat), .int .u64 (n5 : Nat)]) ∧ Below w'.heap.size w' w'') := hid (fun w' => by have h := rE L5 zL5 w'; rw [d5, ← hm5, ← hn5] at h; exact h)
  obtain ⟨ea, hea⟩ : ∃ c, IntKind.i64.wrap (v0 : Nat) = c := ⟨_, rfl⟩
  obtain ⟨eb, heb⟩ : ∃ c, IntKind.i64.wrap (v2 : Nat) = c := ⟨_, rfl⟩
  obtain ⟨c6, hc6⟩ : ∃ c, IntKind.i64.wrap (v6 : Nat) = c := ⟨_, rfl⟩
  obtain ⟨ep, hep⟩ : ∃ c, c = (if l6 = [45, 49] then -1 else c6) := ⟨_, rfl⟩
  obtain ⟨c, hcc⟩ : ∃ c : Ed, c = ⟨ea, eb, bY l1, v3, m4, n4, m5, n5, ep⟩ := ⟨_, rfl⟩
  have hce : lU l0 l1 l2 l3 l4 l5 l6 = c := by unfold lU; rw [hcc, hep, ← hc6, ← hea, ← heb, hv0, hv2, hv3, hv6, hm4, hn4, hm5, hn5]
  have hcand := yz (hl.trans hq)
  rw [hce] at hcand
  have HCD := hid hcand
  have hsn : (s.toList == []) = false := by
   rw [ByteArray.toList_eq]
   cases h : s.data.toList with
   | nil => rw [h] at hl; rw [← hl] at hq; simp [cuts] at hq
   | cons _ _ => rfl
  have HD := hid (And.intro d1 (And.intro d6 hep))
  have HCE := hid hcc
  have HSN := hid hsn
  have hinf : (Tryz.prog.info? 108).map (·.size) = some 9 := by kernel_rfl
  clear hle hcell hL0 d0 hL1 d1 hL2 d2 hL3 d3 hL4 d4 hL5 d5 hL6 d6 hq hl h7 hv0 hv2 hv3 hv6 hm4 hm5 hn4 hn5 hcand hce hcc hep hsn
  go_upto_region 4 with fail
  refine aK (w0 := w1) rfl [.eq (.slice (some ⟨g, 0, none⟩) 7 cap), .eq (.pointer (some ⟨g, 0, none⟩)), .eq (.string L0), .eq (.int .u64 (v0 : Nat)), .eq (.int .i64 ea), .eq (.slice (some ⟨g, 0, none⟩) 7 cap), .eq (.pointer (some ⟨g, 2, none⟩)), .eq (.string L2), .eq (.int .u64 (v2 : Nat)), .eq (.int .i64 eb), .eq (.slice (some ⟨g, 0, none⟩) 7 cap), .eq (.pointer (some ⟨g, 3, none⟩)), .eq (.string L3), .eq (.int .u64 (v3 : Nat)), .eq (.slice (some ⟨g, 0, none⟩) 7 cap), .eq (.pointer (some ⟨g, 4, none⟩)), .eq (.string L4), .eq (.agg #[.int .u64 (m4 : Nat), .int .u64 (n4 : Nat)]), .eq (.slice (some ⟨g, 0, none⟩) 7 cap), .eq (.pointer (some ⟨g, 5, none⟩)), .eq (.string L5), .eq (.agg #[.int .u64 (m5 : Nat), .int .u64 (n5 : Nat)]), .eq (.slice (some ⟨g, 0, none⟩) 7 cap), .eq (.pointer (some ⟨g, 6, none⟩)), .eq (.string L6), .eq (.int .u64 (v6 : Nat)), .eq (.int .i64 c6), .eq (.agg #[.int .i64 ea, .int .i64 eb, .int .i64 0, .int .u64 (v3 : Nat), .int .u64 (m4 : Nat), .int .u64 (n4 : Nat), .int .u64 (m5 : Nat), .int .u64 (n5 : Nat), .int .i64 c6]), .box 108 #[.int .i64 0, .int .i64 0, .int .i64 0, .int .u64 0, .int .u64 0, .int .u64 0, .int .u64 0, .int .u64 0, .int .i64 0], .sto 28 27] (by kernel_rfl) ⟨?_, ?_, ?_, ?_, ?_, ?_, ?_, ?_, ?_, ?_, ?_, ?_, ?_, ?_, ?_, ?_, ?_, ?_, ?_, ?_, ?_, ?_, ?_, ?_, ?_, ?_, ?_, ?_, ?_, ?_, trivial⟩ (fun vs => [(13, (.slice (some ⟨g, 0, none⟩) 7 cap)), (14, (.pointer (some ⟨g, 0, none⟩))), (15, (.string L0)), (16, (.int .u64 (v0 : Nat))), (17, (.int .i64 ea)), (18, (.slice (some ⟨g, 0, none⟩) 7 cap)), (19, (.pointer (some ⟨g, 2, none⟩))), (20, (.string L2)), (21, (.int .u64 (v2 : Nat))), (22, (.int .i64 eb)), (23, (.slice (some ⟨g, 0, none⟩) 7 cap)), (24, (.pointer (some ⟨g, 3, none⟩))), (25, (.string L3)), (26, (.int .u64 (v3 : Nat))), (27, (.slice (some ⟨g, 0, none⟩) 7 cap)), (28, (.pointer (some ⟨g, 4, none⟩))), (29, (.string L4)), (30, (.agg #[.int .u64 (m4 : Nat), .int .u64 (n4 : Nat)])), (31, (.slice (some ⟨g, 0, none⟩) 7 cap)), (32, (.pointer (some ⟨g, 5, none⟩))), (33, (.string L5)), (34, (.agg #[.int .u64 (m5 : Nat), .int .u64 (n5 : Nat)])), (35, (.slice (some ⟨g, 0, none⟩) 7 cap)), (36, (.pointer (some ⟨g, 6, none⟩))), (37, (.string L6)), (38, (.int .u64 (v6 : Nat))), (39, (.int .i64 c6)), (40, (.agg #[.int .i64 ea, .int .i64 eb, .int .i64 0, .int .u64 (v3 : Nat), .int .u64 (m4 : Nat), .int .u64 (n4 : Nat), .int .u64 (m5 : Nat), .int .u64 (n5 : Nat), .int .i64 c6])), (5, vs 28)]) (fun _ => rfl) ?_
  ·refine rs fun S a wx K Q hR hK => ?_
   have t4 : a.tmps[4]? = some (.slice (some ⟨g, 0, none⟩) 7 cap) := hR.o 4
   go_simp
   exact hK _ _ br rfl
  ·refine rs fun S a wx K Q hR hK => ?_
   have t13 := hR.q 0
   go_simp
   exact hK _ _ br rfl
  ·refine rs fun S a wx K Q hR hK => ?_
   have t14 := hR.q 1
   have y0 := (hR.bel.cell hgl).trans k0
   go_simp
   exact hK _ _ br rfl
  ·refine rs fun S a wx K Q hR hK => ?_
   have t15 := hR.q 2
   go_simp
   go_at_call 114
   refine (HV0.out wx).mono ?_
   rintro e w' ⟨rfl, rfl⟩
   exact hK _ _ br rfl
  ·refine rs fun S a wx K Q hR hK => ?_
   have t16 := hR.q 3
   go_simp
   (try go_ints)
   exact hK _ _ br rfl
  ·refine rs fun S a wx K Q hR hK => ?_
   have t4 : a.tmps[4]? = some (.slice (some ⟨g, 0, none⟩) 7 cap) := hR.o 4
   go_simp
   exact hK _ _ br rfl
  ·refine rs fun S a wx K Q hR hK => ?_
   have t18 := hR.q 5
   go_simp
   exact hK _ _ br rfl
  ·refine rs fun S a wx K Q hR hK => ?_
   have t19 := hR.q 6
   have y0 := (hR.bel.cell hgl).trans k2
   go_simp
   exact hK _ _ br rfl
  ·refine rs fun S a wx K Q hR hK => ?_
   have t20 := hR.q 7
   go_simp
   go_at_call 114
   refine (HV2.out wx).mono ?_
   rintro e w' ⟨rfl, rfl⟩
   exact hK _ _ br rfl
  ·refine rs fun S a wx K Q hR hK => ?_
   have t21 := hR.q 8
   go_simp
   (try go_ints)
   exact hK _ _ br rfl
  ·refine rs fun S a wx K Q hR hK => ?_
   have t4 : a.tmps[4]? = some (.slice (some ⟨g, 0, none⟩) 7 cap) := hR.o 4
   go_simp
   exact hK _ _ br rfl
  ·refine rs fun S a wx K Q hR hK => ?_
   have t23 := hR.q 10
   go_simp
   exact hK _ _ br rfl
  ·refine rs fun S a wx K Q hR hK => ?_
   have t24 := hR.q 11
   have y0 := (hR.bel.cell hgl).trans k3
   go_simp
   exact hK _ _ br rfl
  ·refine rs fun S a wx K Q hR hK => ?_
   have t25 := hR.q 12
   go_simp
   go_at_call 114
   refine (HV3.out wx).mono ?_
   rintro e w' ⟨rfl, rfl⟩
   exact hK _ _ br rfl
  ·refine rs fun S a wx K Q hR hK => ?_
   have t4 : a.tmps[4]? = some (.slice (some ⟨g, 0, none⟩) 7 cap) := hR.o 4
   go_simp
   exact hK _ _ br rfl
  ·refine rs fun S a wx K Q hR hK => ?_
   have t27 := hR.q 14
   go_simp
   exact hK _ _ br rfl
  ·refine rs fun S a wx K Q hR hK => ?_
   have t28 := hR.q 15
   have y0 := (hR.bel.cell hgl).trans k4
   go_simp
   exact hK _ _ br rfl
  ·refine rs fun S a wx K Q hR hK => ?_
   have t29 := hR.q 16
   go_simp
   go_at_call 138
   refine (HV4.out wx).mono ?_
   rintro e w' ⟨rfl, hbx⟩
   exact hK _ _ hbx rfl
  ·refine rs fun S a wx K Q hR hK => ?_
   have t4 : a.tmps[4]? = some (.slice (some ⟨g, 0, none⟩) 7 cap) := hR.o 4
   go_simp
   exact hK _ _ br rfl
  ·refine rs fun S a wx K Q hR hK => ?_
   have t31 := hR.q 18
   go_simp
   exact hK _ _ br rfl
  ·refine rs fun S a wx K Q hR hK => ?_
   have t32 := hR.q 19
   have y0 := (hR.bel.cell hgl).trans k5
   go_simp
   exact hK _ _ br rfl
  ·refine rs fun S a wx K Q hR hK => ?_
   have t33 := hR.q 20
   go_simp
   go_at_call 138
   refine (HV5.out wx).mono ?_
   rintro e w' ⟨rfl, hbx⟩
   exact hK _ _ hbx rfl
  ·refine rs fun S a wx K Q hR hK => ?_
   have t4 : a.tmps[4]? = some (.slice (some ⟨g, 0, none⟩) 7 cap) := hR.o 4
   go_simp
   exact hK _ _ br rfl
  ·refine rs fun S a wx K Q hR hK => ?_
   have t35 := hR.q 22
   go_simp
   exact hK _ _ br rfl
  ·refine rs fun S a wx K Q hR hK => ?_
   have t36 := hR.q 23
   have y0 := (hR.bel.cell hgl).trans k6
   go_simp
   exact hK _ _ br rfl
  ·refine rs fun S a wx K Q hR hK => ?_
   have t37 := hR.q 24
   go_simp
   go_at_call 114
   refine (HV6.out wx).mono ?_
   rintro e w' ⟨rfl, rfl⟩
   exact hK _ _ br rfl
  ·refine rs fun S a wx K Q hR hK => ?_
   have t38 := hR.q 25
   go_simp
   (try go_ints)
   exact hK _ _ br rfl
  ·refine rs fun S a wx K Q hR hK => ?_
   have t17 := hR.q 4
   have t22 := hR.q 9
   have t26 := hR.q 13
   have t30 := hR.q 17
   have t34 := hR.q 21
   have t39 := hR.q 26
   go_simp
   exact hK _ _ br rfl
  ·intro w; kernel_rfl
  ·exact StoOK.mk rfl rfl rfl hinf (fun S v w h => ⟨_, h, rfl, by simp [Value.oneCell']⟩)
  intro S8 vs wd hD
  obtain ⟨gb, cs, e10, hlg, _, hg, e65, _⟩ := hD.box 29 28 27 _ _ rfl rfl
  have e12 := hD.eqs 27 _ rfl
  rw [e12] at e65
  injection e65 with e65
  subst e65
  have e10' : vs 28 = .pointer (some ⟨gb, 0, none⟩) := e10
  have hgb := (Array.getElem?_eq_some_iff.1 hg).1
  have k1 := (hD.bel.cell (p := ⟨g, 1, none⟩) hgl).trans k1
  have k6 := (hD.bel.cell (p := ⟨g, 6, none⟩) hgl).trans k6
  have hlt : g < gb := by omega
  have HK := hid k1
  have HW : Hid (Below w.heap.size w wd ∧ w.heap.size < gb ∧ wd.heap[w.heap.size]? = some (.cells #[.int .i64 0, .int .i64 0, .int .i64 0, .int .u64 0, .int .u64 0, .int .u64 0, .int .u64 0, .int .u64 0, .int .i64 0] 108 (0, 0)) ∧ Lq w.heap.size wd) := hid (by
   obtain ⟨q1, q2, q3, q4⟩ := H1.out
   exact ⟨q1.trans (hD.bel.mono (by omega)), by omega, (hD.bel.block _ q2).trans q3, q4.below (hD.bel.mono (by omega))⟩)
  have HCB : Hid (CB 108 gb (gb + 1) #[.int .i64 ea, .int .i64 eb, .int .i64 0, .int .u64 (v3 : Nat), .int .u64 (m4 : Nat), .int .u64 (n4 : Nat), .int .u64 (m5 : Nat), .int .u64 (n5 : Nat), .int .i64 c6] 3 1 (.slice none 0 0) 0 [] wd wd) := hid ⟨br, by omega, by omega, hg, World.ownsRow_nil _ _ _ _⟩
  obtain ⟨⟨z0, z1, z2, z3, z4, z5, z6, z7, z8⟩, zf⟩ := HCB.out.cells9
  have zf8 := zf 8
  simp only [e10', aP, List.foldl_cons, List.foldl_nil]
  clear hD e10 e10' e12 hg k0 k1 k2 k3 k4 k5 HV0 HV2 HV3 HV4 HV5 HV6 hinf zf hlg H1 hgb hgl
  go_upto_if 44 with fail
  go_cut [] from 41 to 45 (fun wx => CB 108 gb (gb + 1) #[.int .i64 ea, .int .i64 eb, .int .i64 0, .int .u64 (v3 : Nat), .int .u64 (m4 : Nat), .int .u64 (n4 : Nat), .int .u64 (m5 : Nat), .int .u64 (n5 : Nat), .int .i64 ep] 3 1 (.slice none 0 0) 0 [] wd wx)
  case first =>
   by_cases h6 : l6 = [45, 49]
   ·have t6 : (L6.toList == [45, 49]) = true := by rw [ByteArray.toList_eq, HD.out.2.1, h6]; rfl
    have he : ep = -1 := by rw [HD.out.2.2, if_pos h6]
    have HQ := hid (HCB.out.store 8 (.int .i64 (-1)))
    have HHE := hid he
    clear h6 he
    rw [t6]
    go_wp2_with fail
    go_meet
    case rel => rw [HHE.out]; exact HQ.out
   ·have t6 : (L6.toList == [45, 49]) = false := by rw [ByteArray.toList_eq, HD.out.2.1]; simpa using h6
    have he : ep = c6 := by rw [HD.out.2.2, if_neg h6]
    have HHE := hid he
    clear h6 he
    rw [t6]
    go_wp2_with fail
    go_meet
    case rel => rw [HHE.out]; exact HCB.out
  case rest =>
   have HC1 := hid hcut
   clear hcut HCB z0 z1 z2 z3 z4 z5 z6 z7 z8 zf8
   go_wp2_with fail
   go_loopw [6] (fun iv wr => ∃ j : Nat, 1 ≤ j ∧ j ≤ 6 ∧ iv = .int .i64 j ∧ Hid (CB 108 gb (gb + 1) #[.int .i64 ea, .int .i64 eb, .int .i64 (kUp l1 j), .int .u64 (v3 : Nat), .int .u64 (m4 : Nat), .int .u64 (n4 : Nat), .int .u64 (m5 : Nat), .int .u64 (n5 : Nat), .int .i64 ep] 3 1 (.slice none 0 0) 0 [] wd wr)) (fun iv _ => 6 - (intOf iv).toNat)
   case atStart => exact ⟨1, by omega, by omega, rfl, hid (by rw [Ee]; exact HC1.out)⟩
   case round =>
    clear HC1
    obtain ⟨j, hj1, hj6, rfl, HQ⟩ := hrel
    by_cases hlt6 : j < 6
    ·have HI := hid (Co j ⟨hj1, by omega⟩)
     have y0 := (HQ.out.oldCell (o := 1) hlt).trans HK.out
     obtain ⟨DK, hDK⟩ : ∃ DK : ByteArray, DK = ⟨(aV (j : Nat)).toArray⟩ := ⟨_, rfl⟩
     have hDe : (DK.toList == L1.toList) = decide (l1 = aV (j : Nat)) := by rw [hDK, ByteArray.toList_eq, ByteArray.toList_eq, HD.out.1, Bool.eq_iff_iff, beq_iff_eq, decide_eq_true_iff]; exact ⟨Eq.symm, Eq.symm⟩
     have HDK := hid hDK
     have HKU : Hid (kUp l1 (j + 1) = if l1 = aV (j : Nat) then ((j : Nat) : Int) else kUp l1 j) := hid rfl
     obtain ⟨kj, hkj⟩ : ∃ k, k = kUp l1 j := ⟨_, rfl⟩
     rw [← hkj] at HQ HKU
     have x1 : (0 : Int) ≤ (j : Int) := by omega
     have x2 : (j : Int) < 6 := by omega
     have HJ := hid (And.intro hj1 hlt6)
     have hyl := World.block_lt_of_cell? wr _ y0
     obtain ⟨bq, hbq⟩ : ∃ bq, bq = decide (l1 = aV (j : Nat)) := ⟨_, rfl⟩
     rw [← hbq] at hDe
     have HBQ := hid hbq
     clear hDK hkj hj1 hj6 hbq
     go_upto_region 10 with fail
     refine aK (w0 := wr) rfl [.of (dZ 6 6 #[.string ⟨#[]⟩, .string ⟨#[119, 119]⟩, .string ⟨#[119, 114]⟩, .string ⟨#[114, 119]⟩, .string ⟨#[112, 119, 114]⟩, .string ⟨#[112, 114, 119]⟩]), .eq (.int .i64 (j : Nat)), .of (pAt j #[.string ⟨#[]⟩, .string ⟨#[119, 119]⟩, .string ⟨#[119, 114]⟩, .string ⟨#[114, 119]⟩, .string ⟨#[112, 119, 114]⟩, .string ⟨#[112, 114, 119]⟩]), .eq (.string DK), .eq (.slice (some ⟨g, 0, none⟩) 7 cap), .eq (.pointer (some ⟨g, 1, none⟩)), .eq (.string L1), .eq (.bool bq)] (by kernel_rfl) ⟨?_, ?_, ?_, ?_, ?_, ?_, ?_, ?_, ?_, ?_, trivial⟩ (fun vs => [(50, vs 0), (51, (.int .i64 (j : Nat))), (52, vs 2), (53, (.string DK)), (54, (.slice (some ⟨g, 0, none⟩) 7 cap)), (55, (.pointer (some ⟨g, 1, none⟩))), (56, (.string L1)), (57, (.bool bq))]) (fun _ => rfl) ?_
     ·exact bS _ _ _
     ·refine rs fun S a wx K Q hR hK => ?_
      go_simp
      go_at_call 84
      refine (qE wx).mono ?_
      rintro e w' ⟨g, T, rfl, hg, hgh, hbx⟩
      exact hK _ _ hbx ⟨g, T, rfl, hR.new _ hg, hgh⟩
     ·refine rs fun S a wx K Q hR hK => ?_
      have t6 : a.tmps[6]? = some (.int .i64 (j : Nat)) := hR.o 6
      go_simp
      exact hK _ _ br rfl
     ·exact wP _ _
     ·refine rs fun S a wx K Q hR hK => ?_
      obtain ⟨u50, t50, f50⟩ := hR.f 0
      obtain ⟨g0, T0, rfl, hgS, hgh⟩ := f50
      have t51 := hR.q 1
      go_simp
      exact hK _ _ br ⟨g0, T0, rfl, hgS, hgh⟩
     ·refine rs fun S a wx K Q hR hK => ?_
      obtain ⟨u52, t52, f52⟩ := hR.f 2
      obtain ⟨g1, T1, rfl, hgS, hgh⟩ := f52
      have y0 : wx.cell? ⟨g1, j, none⟩ = some (.string DK) := by rw [cell_of_row wx _ j _ _ _ hgh, HI.out, HDK.out]; rfl
      go_simp
      exact hK _ _ br rfl
     ·refine rs fun S a wx K Q hR hK => ?_
      have t4 : a.tmps[4]? = some (.slice (some ⟨g, 0, none⟩) 7 cap) := hR.o 4
      go_simp
      exact hK _ _ br rfl
     ·refine rs fun S a wx K Q hR hK => ?_
      have t54 := hR.q 4
      go_simp
      exact hK _ _ br rfl
     ·refine rs fun S a wx K Q hR hK => ?_
      have t55 := hR.q 5
      have y0 := (hR.bel.cell hyl).trans y0
      go_simp
      exact hK _ _ br rfl
     ·refine rs fun S a wx K Q hR hK => ?_
      have t53 := hR.q 3
      have t56 := hR.q 6
      go_simp
      (try go_ints)
      exact hK _ _ br rfl
     intro S1 vs wN hD
     have HCN := hid (HQ.out.below hD.bel)
     simp only [aP, List.foldl_cons, List.foldl_nil]
     generalize vs 0 = vt0
     generalize vs 2 = vt2
     clear hD HQ y0 hDe hyl
     go_simp
     cases bq
     ·go_wp2_with fail
      go_roundw
      case rel => obtain ⟨q1, q2⟩ := HJ.out; exact ⟨j + 1, by omega, by omega, by go_num, hid (by rw [HKU.out, if_neg (of_decide_eq_false HBQ.out.symm)]; exact HCN.out)⟩
      case measure => obtain ⟨q1, q2⟩ := HJ.out; simp [intOf]; omega
     ·obtain ⟨⟨z0, z1, z2, z3, z4, z5, z6, z7, z8⟩, zf⟩ := HCN.out.cells9
      have zf2 := zf 2
      have HSX := hid (HCN.out.store 2 (.int .i64 (j : Nat)))
      clear zf
      go_wp2_with fail
      go_roundw
      case rel => obtain ⟨q1, q2⟩ := HJ.out; exact ⟨j + 1, by omega, by omega, by go_num, hid (by rw [HKU.out, if_pos (of_decide_eq_true HBQ.out.symm)]; exact HSX.out)⟩
      case measure => obtain ⟨q1, q2⟩ := HJ.out; simp [intOf]; omega
    ·have hj : j = 6 := by omega
     subst hj
     have hsn := HSN.out
     have HQ : Hid (CB 108 gb (gb + 1) #[.int .i64 ea, .int .i64 eb, .int .i64 (bY l1), .int .u64 (v3 : Nat), .int .u64 (m4 : Nat), .int .u64 (n4 : Nat), .int .u64 (m5 : Nat), .int .u64 (n5 : Nat), .int .i64 ep] 3 1 (.slice none 0 0) 0 [] wd wr) := hid (by rw [← Ef]; exact HQ.out)
     obtain ⟨⟨z0, z1, z2, z3, z4, z5, z6, z7, z8⟩, zf⟩ := HQ.out.cells9
     have hTX : Calls Tryz.prog 52 #[.agg #[.int .i64 ea, .int .i64 eb, .int .i64 (bY l1), .int .u64 (v3 : Nat), .int .u64 (m4 : Nat), .int .u64 (n4 : Nat), .int .u64 (m5 : Nat), .int .u64 (n5 : Nat), .int .i64 ep]] wr fun r w' => r = .returned (str c.text) ∧ Below wr.heap.size wr w' := by
      have h1 := dW HCD.out.1 wr ((HW.out.2.2.2.below (HQ.out.old.mono (by have := HW.out.2.1; omega))).mono (by have := HW.out.2.1; have := HQ.out.lt; omega))
      rw [HCE.out] at h1 ⊢
      exact h1
     have HTX := hid hTX
     obtain ⟨CT, hCT⟩ : ∃ CT : ByteArray, CT = ⟨c.text.toArray⟩ := ⟨_, rfl⟩
     have hCd : (CT.toList == s.toList) = decide (c.text = s.data.toList) := by rw [hCT, ByteArray.toList_eq, ByteArray.toList_eq, Bool.eq_iff_iff]; simp
     have hst : str c.text = .string CT := by rw [hCT]; rfl
     rw [hst] at HTX
     clear hTX zf hCT hst
     go_wp2_with fail
     refine HTX.out.mono ?_
     rintro e wC ⟨rfl, hbC⟩
     have hcC := hid (HQ.out.below hbC)
     have g9 := (hcC.out.old.block w.heap.size HW.out.2.1).trans HW.out.2.2.1
     have HB9 : Hid (Below w.heap.size w wC) := hid (HW.out.1.trans (hcC.out.old.mono (by have := HW.out.2.1; omega)))
     obtain ⟨⟨x0, x1, x2, x3, x4, x5, x6, x7, x8⟩, _⟩ := hcC.out.cells9
     clear hbC z0 z1 z2 z3 z4 z5 z6 z7 z8
     by_cases hq : c.text = s.data.toList
     ·have t9 : (CT.toList == s.toList) = true := by rw [hCd]; simpa using hq
      have HE : Hid (edRead s.data.toList = some c) := hid (by rw [HCD.out.2, if_pos hq])
      clear hq hCd
      go_wp2_with (refine wpList_store_row rfl 108 (.tmp 2) (.tmp 69) rfl rfl w.heap.size rfl _ rfl 108 _ g9 (by kernel_rfl) rfl (by simp [Value.oneCell']) ?_)
      refine bodyPost_ret (v := .tuple #[.agg #[.int .i64 ea, .int .i64 eb, .int .i64 (bY l1), .int .u64 (v3 : Nat), .int .u64 (m4 : Nat), .int .u64 (n4 : Nat), .int .u64 (m5 : Nat), .int .u64 (n5 : Nat), .int .i64 ep], .int .i64 0]) (aa rfl _ _ w.heap.size 108 _ _ _ _ rfl (setRow_heap _ _ _ _ _ _ g9) Tryz.underlying108 rfl (by kernel_rfl) rfl) rfl ⟨?_, below_setRow HB9.out _ _ nl⟩
      rw [HE.out, HCE.out]; rfl
     ·have t9 : (CT.toList == s.toList) = false := by rw [hCd]; simpa using hq
      have HE : Hid (edRead s.data.toList = none) := hid (by rw [HCD.out.2, if_neg hq])
      clear hq hCd x0 x1 x2 x3 x4 x5 x6 x7 x8
      go_wp2_with (refine wpList_store_row rfl 108 (.tmp 2) (.tmp 68) rfl rfl w.heap.size rfl _ rfl 108 _ g9 (by kernel_rfl) rfl (by simp [Value.oneCell']) ?_)
      refine bodyPost_ret (v := .tuple #[.agg #[.int .i64 0, .int .i64 0, .int .i64 0, .int .u64 0, .int .u64 0, .int .u64 0, .int .u64 0, .int .u64 0, .int .i64 0], .int .i64 230]) (aa rfl _ _ w.heap.size 108 _ _ _ _ rfl (setRow_heap _ _ _ _ _ _ g9) Tryz.underlying108 rfl (by kernel_rfl) rfl) rfl ⟨?_, below_setRow HB9.out _ _ nl⟩
      rw [HE.out]; rfl
 ·obtain ⟨ad, cap, rfl⟩ := ag ho
  have t7 : ((l.length : Int) != 7) = true := by simpa using (by omega : ¬ (l.length : Int) = 7)
  have g9 := H1.out.2.2.1
  have HE : Hid (edRead s.data.toList = none) := hid (mF (by rw [hl]; exact h7))
  clear h7 ho
  go_wp2_with (refine wpList_store_row rfl 108 (.tmp 2) (.tmp 12) rfl rfl w.heap.size rfl _ rfl 108 _ g9 (by kernel_rfl) rfl (by simp [Value.oneCell']) ?_)
  refine bodyPost_ret (v := .tuple #[.agg #[.int .i64 0, .int .i64 0, .int .i64 0, .int .u64 0, .int .u64 0, .int .u64 0, .int .u64 0, .int .u64 0, .int .i64 0], .int .i64 230]) (aa rfl _ _ w.heap.size 108 _ _ _ _ rfl (setRow_heap _ _ _ _ _ _ g9) Tryz.underlying108 rfl (by kernel_rfl) rfl) rfl ⟨?_, below_setRow H1.out.1 _ _ nl⟩
  rw [HE.out]; rfl
end Go.Proofs.YtagnalfkmdjajaaGreatDoor
