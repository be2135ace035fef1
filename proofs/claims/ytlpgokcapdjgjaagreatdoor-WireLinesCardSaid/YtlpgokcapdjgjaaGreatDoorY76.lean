/- Walks. -/
import Derived.Test.YtlpgokcapdjgjaaGreatDoorY74
import Derived.Test.YtlpgokcapdjgjaaGreatDoorY34
import Derived.RangeFuncBox
import Derived.Shelf.Abstract
import Derived.Shelf.RegionOpen
import Derived.TacticsInMore
import Derived.LoopNIn
import Derived.LoopIn
set_option maxHeartbeats 8000000
set_option maxRecDepth 100000
namespace Go.Proofs.YtlpgokcapdjgjaaGreatDoor
open Go.RowKit Go Go.Shelf
set_option linter.unusedVariables false
set_option linter.unusedSimpArgs false
attribute [local go_sem] Oper.semAt_some
def cB (x : List UInt8) : List UInt8 := if x.getLast? = some 10 then x.dropLast else x
theorem qP (x : List UInt8) : cB (x ++ [10]) = x := by unfold cB; simp
theorem AV {x : List UInt8} (h : (10 : UInt8) ∉ x) : cB x = x := by
 unfold cB
 rw [if_neg]
 intro e
 exact h (List.mem_of_getLast? e)
abbrev Pc := { x : ByteArray // x.size ≤ 50000 }
def pcl (pre : List Pc) : List (List UInt8) := pre.map fun x => cB x.1.data.toList
def mK (c : Nat) (w : World) : Nat := match w.cell? ⟨c, 0, none⟩ with
 | some (.string r) => r.size
 | _ => 0
theorem CB (l : List UInt8) : (∃ x t, l = x ++ 10 :: t ∧ (10 : UInt8) ∉ x ∧ Lib.indexByte l 10 = (x.length : Int)) ∨ ((10 : UInt8) ∉ l ∧ Lib.indexByte l 10 = -1) := by
 rw [← Lib.index_one l 10]
 by_cases h : (10 : UInt8) ∈ l
 ·obtain ⟨x, t, h1, h2, h3⟩ := fe h
  exact .inl ⟨x, t, h1, h2, h3⟩
 ·refine .inr ⟨h, ?_⟩
  have := index_one 10 l
  rw [if_neg h] at this
  exact this
theorem wT (s : ByteArray) (w : World) : Calls Tryz.prog 30 #[.string s] w fun e w' => e = .returned (.func (.func 56) #[] #[.pointer (some ⟨w.heap.size, 0, none⟩)]) ∧ w' = w.alloc (.cells #[.string s] 9) := by
 go_enter Tryz.func30, Tryz.ntmps30
 go_wp2_with fail
 go_ret
 exact ⟨rfl, rfl⟩
theorem AX (n : Nat) (hn : 1 ≤ n) (s : ByteArray) (hs : s.size ≤ 50000) (c : Nat) (w : World) (hc : w.heap[c]? = some (.cells #[.string s] 9 (0, 0))) :
  EC Fence.wide n Tryz.prog 56 #[.pointer (some ⟨c, 0, none⟩)] (fun x : Pc => #[Value.string x.1]) (fun _ _ _ => True) (fun _ W W' => W'.heap[c]? = W.heap[c]?) (fun xs => pcl xs = lns s.data.toList) (fun pre => ∃ t, pcl pre ++ t = lns s.data.toList) s.size (fun _ => c) w := by
 intro l J Jx W hW hJ hJx hY h0
 have hcW : W.heap[c]? = some (.cells #[.string s] 9 (0, 0)) := (hW.block c (Array.getElem?_eq_some_iff.1 hc).1).trans hc
 have HY := hid hY
 have HJ := hid (And.intro hJ hJx)
 clear hY hJ hJx hc hW
 refine callsIn_of_wp Tryz.func56 rfl trivial ?_ rfl
 simp only [Tryz.ntmps56, List.size_toArray, List.length_cons, List.length_nil, Nat.reduceAdd, Nat.reduceSub, Array.replicate_succ, Array.replicate_zero, List.push_toArray, List.append_toArray, List.nil_append, List.cons_append]
 gi_wp2
 gi_loopw [] (fun wr => ∃ (pre : List Pc) (r : ByteArray), wr.heap[c]? = some (.cells #[.string r] 9 (0, 0)) ∧ r.size ≤ 50000 ∧ pcl pre ++ lns r.data.toList = lns s.data.toList ∧ pre.length + r.size ≤ s.size ∧ J pre wr) (fun wr => mK c wr)
 case atStart => exact ⟨[], s, hcW, hs, rfl, by simp, h0⟩
 case round =>
  obtain ⟨pre, r, hr, hrs, hl, hle, hj⟩ := hrel
  have cl : wr.cell? ⟨c, 0, none⟩ = some (.string r) := by rw [cell_of_row wr _ 0 _ _ _ hr]; rfl
  have fl : wr.frozen? ⟨c, 0, none⟩ = false := by rw [frozen_of_row wr _ 0 _ _ hr]
  by_cases h0r : r.size = 0
  ·have hn0 : r.data.toList = [] := List.eq_nil_of_length_eq_zero (by rw [← Lib.size_eq]; exact h0r)
   have t1 : ¬ (0 : Int) < (r.size : Int) := by omega
   rw [hn0, zo, List.append_nil] at hl
   gi_wp2
   go_end0
   exact ⟨⟨_, rfl⟩, .inl ⟨pre, hl, hj⟩⟩
  ·have t1 : (0 : Int) < (r.size : Int) := by omega
   rcases CB r.data.toList with ⟨x, t, hx, hnx, hi⟩ | ⟨hno, hi⟩
   ·have hi' : Lib.indexByte r.data.toList ((10 : Int).toNat.toUInt8) = (x.length : Int) := hi
    have hxl : x.length + 1 + t.length = r.size := by rw [Lib.size_eq, hx]; simp; omega
    have t2 : (0 : Int) ≤ (x.length : Int) := by omega
    gi_wp2
    refine ⟨trivial, (callsIn_wide.2 (Tryz.strings_IndexByte r 10 _)).mono ?_⟩
    rintro e w' ⟨rfl, rfl⟩
    rw [hi']
    gi_wp2
    have b1 : (x.length : Int) + 1 ≤ (r.size : Int) := by omega
    have b0 : (0 : Int) ≤ (x.length : Int) + 1 := by omega
    gi_region
    have e1 : (r.extract 0 (x.length + 1)).data.toList = x ++ [10] := by
     rw [ByteArray.data_extract, Array.toList_extract, hx, List.extract_eq_take_drop, List.drop_zero, Nat.sub_zero]
     simp [List.take_append]
     exact List.take_of_length_le (by omega)
    have e2 : (r.extract (x.length + 1) r.size).data.toList = t := by
     rw [ByteArray.data_extract, Array.toList_extract, hx]
     have hd : (x ++ 10 :: t).drop (x.length + 1) = t := by simp
     rw [List.extract_eq_take_drop, hd, List.take_of_length_le (by omega)]
    have s1 : (r.extract 0 (x.length + 1)).size = x.length + 1 := by rw [Lib.size_eq, e1]; simp
    have s2 : (r.extract (x.length + 1) r.size).size = t.length := by rw [Lib.size_eq, e2]
    generalize r.extract 0 (x.length + 1) = P1 at e1 s1 ⊢
    generalize r.extract (x.length + 1) r.size = R2 at e2 s2 ⊢
    have hp1 : P1.size ≤ 50000 := by omega
    have h2 : Hid ((w'.setCell ⟨c, 0, none⟩ (.string R2)).drew.heap[c]? = some (.cells #[.string R2] 9 (0, 0)) ∧ Tc c w' (w'.setCell ⟨c, 0, none⟩ (.string R2)).drew) := hid ⟨heap_setCell_same w' c 0 _ _ _ hr, (Tc.set c 0 w' (.string R2)).trans (Tc.of_below br.drew)⟩
    generalize (w'.setCell ⟨c, 0, none⟩ (.string R2)).drew = W2 at h2 ⊢
    have hl2 : pcl (pre ++ [⟨P1, hp1⟩]) ++ lns R2.data.toList = lns s.data.toList := by
     rw [← hl, hx, BN t hnx, e2]
     simp [pcl, e1, qP]
    obtain ⟨fn, tmps, assign, body, hy, hR⟩ := HY.out pre ⟨P1, hp1⟩ W2 (HJ.out.1 _ _ _ hj h2.out.2) (by omega) (Array.getElem?_eq_some_iff.1 h2.out.1).1 trivial
    have hle2 : (pre ++ [(⟨P1, hp1⟩ : Pc)]).length + R2.size ≤ s.size := by rw [List.length_append]; simp only [List.length_cons, List.length_nil]; omega
    have hms : mK c w' = r.size := by unfold mK; rw [cl]
    clear hi hi' b0 b1 t1 t2
    gi_wp2
    refine hR.mono ?_
    rintro e W3 (⟨rfl, hJ3, hk3⟩ | ⟨rfl, hJx3⟩)
    ·have h3 : W3.heap[c]? = some (.cells #[.string R2] 9 (0, 0)) := hk3.trans h2.out.1
     have hm3 : mK c W3 = R2.size := by unfold mK; rw [cell_of_row W3 _ 0 _ _ _ h3]; rfl
     gi_wp2
     go_roundw
     case rel => exact ⟨_, R2, h3, by omega, hl2, hle2, hJ3⟩
     case measure => rw [hm3, hms]; omega
    ·gi_wp2
     refine bodyPost_ret (results_none rfl _ _ _) rfl ?_
     exact ⟨⟨_, rfl⟩, .inr ⟨_, ⟨_, hl2⟩, hJx3⟩⟩
   ·have hi' : Lib.indexByte r.data.toList ((10 : Int).toNat.toUInt8) = -1 := hi
    gi_wp2
    refine ⟨trivial, (callsIn_wide.2 (Tryz.strings_IndexByte r 10 _)).mono ?_⟩
    rintro e w' ⟨rfl, rfl⟩
    rw [hi']
    have h2 : Hid ((w'.setCell ⟨c, 0, none⟩ (.string ⟨#[]⟩)).heap[c]? = some (.cells #[.string ⟨#[]⟩] 9 (0, 0)) ∧ Tc c w' (w'.setCell ⟨c, 0, none⟩ (.string ⟨#[]⟩))) := hid ⟨heap_setCell_same w' c 0 _ _ _ hr, Tc.set c 0 w' (.string ⟨#[]⟩)⟩
    have hne : r.data.toList ≠ [] := fun e => h0r (by rw [Lib.size_eq, e]; rfl)
    have hl2 : pcl (pre ++ [⟨r, hrs⟩]) ++ lns (⟨#[]⟩ : ByteArray).data.toList = lns s.data.toList := by
     rw [← hl, CZ hno hne]
     simp [pcl, AV hno, zo]
    obtain ⟨fn, tmps, assign, body, hy, hR⟩ := HY.out pre ⟨r, hrs⟩ _ (HJ.out.1 _ _ _ hj h2.out.2) (by omega) (Array.getElem?_eq_some_iff.1 h2.out.1).1 trivial
    have hle2 : (pre ++ [(⟨r, hrs⟩ : Pc)]).length + (⟨#[]⟩ : ByteArray).size ≤ s.size := by rw [List.length_append, show (ByteArray.mk #[]).size = 0 from rfl]; simp only [List.length_cons, List.length_nil]; omega
    have hms : mK c w' = r.size := by unfold mK; rw [cl]
    clear hi hi'
    gi_wp2
    refine hR.mono ?_
    rintro e W3 (⟨rfl, hJ3, hk3⟩ | ⟨rfl, hJx3⟩)
    ·have h3 : W3.heap[c]? = some (.cells #[.string ⟨#[]⟩] 9 (0, 0)) := hk3.trans h2.out.1
     have hm3 : mK c W3 = 0 := by unfold mK; rw [cell_of_row W3 _ 0 _ _ _ h3]; rfl
     gi_wp2
     go_roundw
     case rel => exact ⟨_, ⟨#[]⟩, h3, by decide, hl2, hle2, hJ3⟩
     case measure => rw [hm3, hms]; omega
    ·gi_wp2
     refine bodyPost_ret (results_none rfl _ _ _) rfl ?_
     exact ⟨⟨_, rfl⟩, .inr ⟨_, ⟨_, hl2⟩, hJx3⟩⟩
theorem wU (x : ByteArray) (y : List UInt8) (c : UInt8) (h : x.data.toList = y ++ [c]) : (x.extract (x.size - 1) x.size).data.toList = [c] ∧ (x.extract 0 (x.size - 1)).data.toList = y := by
 have hs : x.size = y.length + 1 := by rw [Lib.size_eq, h]; simp
 constructor
 ·rw [ByteArray.data_extract, Array.toList_extract, h, List.extract_eq_take_drop, hs]
  simp
 ·rw [ByteArray.data_extract, Array.toList_extract, h, List.extract_eq_take_drop, hs]
  simp
theorem jv {x y : ByteArray} (h : x.data.toList = y.data.toList) : x = y := by
 cases x; cases y
 simp only [ByteArray.mk.injEq]
 exact Array.toList_inj.1 h
theorem tJ (x : ByteArray) (w : World) (hx : x.size ≤ 100000) : Calls Tryz.prog 96 #[.string x, .string ⟨#[10]⟩] w fun e w' => e = .returned (.bool (decide (x.data.toList.getLast? = some 10))) ∧ w' = w := by
 rcases List.eq_nil_or_concat x.data.toList with h | ⟨y, c, h⟩
 ·have h0 : x.size = 0 := by rw [Lib.size_eq, h]; rfl
  rw [h]
  obtain rfl : x = ⟨#[]⟩ := jv h
  go_enter Tryz.func96, Tryz.ntmps96
  go_wp2_with fail
  go_ret
  exact ⟨rfl, rfl⟩
 ·rw [List.concat_eq_append] at h
  have hs : x.size = y.length + 1 := by rw [Lib.size_eq, h]; simp
  obtain ⟨h1, _⟩ := wU x y c h
  have t0 : (1 : Int) ≤ (x.size : Int) := by omega
  have t1 : (0 : Int) ≤ (x.size : Int) - 1 := by omega
  have t2 : ((x.size : Int) - 1) ≤ (x.size : Int) := by omega
  have t3 : ((x.size : Int) - 1).toNat = x.size - 1 := by omega
  have hd : ((x.extract (x.size - 1) x.size).toList == [10]) = decide (x.data.toList.getLast? = some 10) := by
   rw [ByteArray.toList_eq, h1, h, Bool.eq_iff_iff]
   simp
  have HD := hid hd
  clear hd h1 h hs
  go_enter Tryz.func96, Tryz.ntmps96
  go_wp2_with fail
  go_ret
  refine ⟨?_, rfl⟩
  rw [← HD.out]
  rfl
theorem wV (x : ByteArray) (w : World) (hx : x.size ≤ 100000) : Calls Tryz.prog 58 #[.string x, .string ⟨#[10]⟩] w fun e w' => e = .returned (.string ⟨(cB x.data.toList).toArray⟩) ∧ w' = w := by
 by_cases h : x.data.toList.getLast? = some 10
 ·obtain ⟨y, hy⟩ : ∃ y, x.data.toList = y ++ [10] := by
   rcases List.eq_nil_or_concat x.data.toList with e | ⟨y, c, e⟩
   ·rw [e] at h; cases h
   ·rw [List.concat_eq_append] at e
    rw [e] at h
    simp only [List.getLast?_append, List.getLast?_singleton, Option.some_or, Option.some.injEq] at h
    subst h
    exact ⟨y, e⟩
  have hs : x.size = y.length + 1 := by rw [Lib.size_eq, hy]; simp
  obtain ⟨_, h2⟩ := wU x y 10 hy
  have HL : Hid (cB x.data.toList = (x.extract 0 (x.size - 1)).data.toList) := hid (by rw [h2, hy, qP])
  have HD := hid h
  have t0 : (1 : Int) ≤ (x.size : Int) := by omega
  have t1 : (0 : Int) ≤ (x.size : Int) - 1 := by omega
  have t2 : ((x.size : Int) - 1) ≤ (x.size : Int) := by omega
  have t3 : ((x.size : Int) - 1).toNat = x.size - 1 := by omega
  clear h hy hs h2
  go_enter Tryz.func58, Tryz.ntmps58
  go_wp2_with fail
  refine (tJ x w hx).mono ?_
  rintro e w1 ⟨rfl, rfl⟩
  rw [decide_eq_true HD.out]
  go_wp2_with fail
  go_ret
  refine ⟨?_, rfl⟩
  rw [HL.out]
  rfl
 ·have HL : Hid (cB x.data.toList = x.data.toList) := hid (by unfold cB; rw [if_neg h])
  have HD := hid h
  clear h
  go_enter Tryz.func58, Tryz.ntmps58
  go_wp2_with fail
  refine (tJ x w hx).mono ?_
  rintro e w1 ⟨rfl, rfl⟩
  rw [decide_eq_false HD.out]
  go_wp2_with fail
  go_ret
  refine ⟨?_, rfl⟩
  rw [HL.out]
  rfl
theorem yZ (x : ByteArray) (w : World) (hx : x.size ≤ 100000) : Calls Tryz.prog 31 #[.string x, .string ⟨#[10]⟩] w fun e w' => e = .returned (.string ⟨(cB x.data.toList).toArray⟩) ∧ w' = w := by
 go_enter Tryz.func31, Tryz.ntmps31
 go_wp2_with fail
 refine (wV x w hx).mono ?_
 rintro e w1 ⟨rfl, rfl⟩
 go_wp2_with fail
 go_ret
 exact ⟨rfl, rfl⟩
attribute [local go_sem] Oper.semAt_some
structure WL (w : World) (T : TypeId) (pre : List Pc) (sv : Value) (rs : List Rec) (W : World) : Prop where
 bel : Below w.heap.size w W
 l : W.heap[w.heap.size]? = some (.cells #[sv] 27 (0, 0))
 n : W.heap[w.heap.size + 1]? = some (.cells #[.int .i64 (pre.length : Nat)] 3 (0, 0))
 e : W.heap[w.heap.size + 2]? = some (.cells #[.int .i64 0] 24 (0, 0))
 acc : iI (pcl pre) = some rs
 row : (sv = .slice none 0 0 ∧ rs = []) ∨ aS W (w.heap.size + 6) T sv rs
theorem WL.tc {w : World} {T : TypeId} {pre : List Pc} {sv : Value} {rs : List Rec} {W W' : World} {b : Nat} (h : WL w T pre sv rs W) (ht : Tc b W W') (h1 : w.heap.size + 3 ≤ b) (h2 : b < w.heap.size + 6) : WL w T pre sv rs W' := by
 have l2 := (Array.getElem?_eq_some_iff.1 h.e).1
 exact ⟨gK h.bel ht (by omega) h.bel.size, (ht.keep _ (by omega) (by omega)).trans h.l, (ht.keep _ (by omega) (by omega)).trans h.n, (ht.keep _ l2 (by omega)).trans h.e, h.acc, h.row.imp id (fun m => m.tc ht h2)⟩
theorem WL.skip {w : World} {T : TypeId} {pre : List Pc} {sv : Value} {rs : List Rec} {W : World} (h : WL w T pre sv rs W) (x : Pc) (hm : mute (cB x.1.data.toList)) : WL w T (pre ++ [x]) sv rs (W.setCell ⟨w.heap.size + 1, 0, none⟩ (.int .i64 ((pre.length : Nat) + 1))) := by
 have hn := ae (o := 0) (v := .int .i64 ((pre.length : Nat) + 1)) h.n rfl
 refine ⟨h.bel.setCell (by simp) _, (Below.heap_setCell _ _ _ _ (by show w.heap.size ≠ w.heap.size + 1; omega)).trans h.l, ?_, (Below.heap_setCell _ _ _ _ (by show w.heap.size + 2 ≠ w.heap.size + 1; omega)).trans h.e, ?_, h.row.imp id (fun m => m.tc (Tc.set _ 0 _ _) (by omega))⟩
 ·rw [hn]
  simp
 ·have : pcl (pre ++ [x]) = pcl pre ++ [cB x.1.data.toList] := by simp [pcl]
  rw [this]
  exact cz hm h.acc
theorem Kr.set {b c : Nat} {W : World} {v : Value} (h : c < b) : Kr b W (W.setCell ⟨c, 0, none⟩ v) := ⟨Below.heap_setCell _ _ _ _ (by show b ≠ c; omega), Below.heap_setCell _ _ _ _ (by show b + 1 ≠ c; omega)⟩
structure WX (w : World) (pre : List Pc) (W : World) : Prop where
 bel : Below w.heap.size w W
 l : W.heap[w.heap.size]? = some (.cells #[.slice none 0 0] 27 (0, 0))
 n : W.heap[w.heap.size + 1]? = some (.cells #[.int .i64 (pre.length : Nat)] 3 (0, 0))
 e : W.heap[w.heap.size + 2]? = some (.cells #[.int .i64 50] 24 (0, 0))
 bad : ∃ a x rs, pcl pre = a ++ [x] ∧ iI a = some rs ∧ ¬ mute x ∧ aM x = none
theorem WX.tc {w : World} {pre : List Pc} {W W' : World} {b : Nat} (h : WX w pre W) (ht : Tc b W W') (h1 : w.heap.size + 3 ≤ b) : WX w pre W' := by
 have l2 := (Array.getElem?_eq_some_iff.1 h.e).1
 exact ⟨gK h.bel ht (by omega) h.bel.size, (ht.keep _ (by omega) (by omega)).trans h.l, (ht.keep _ (by omega) (by omega)).trans h.n, (ht.keep _ l2 (by omega)).trans h.e, h.bad⟩
theorem CE : (Tryz.prog.info? 73).map (fun i => (i.zero, i.size, i.bytes)) = some (some (.agg #[.int .i64 0, .int .u64 0, .int .u64 0, .int .u64 0, .int .u64 0, .int .u64 0, .int .i64 0, .int .u64 0, .int .u64 0, .slice none 0 0, .slice none 0 0]), 11, 120) := by kernel_rfl
def tK (T : TypeId) (base : Nat) (s : ByteArray) (w : World) (e : Ending) (w' : World) : Prop :=
 ∃ (sv : Value) (n : Nat) (err : Int) (rs : List Rec), e = .returned (.tuple #[sv, .int .i64 (n : Nat), .int .i64 err]) ∧ dK (lns s.data.toList) 0 [] = (rs, n, err) ∧ ((sv = .slice none 0 0 ∧ rs = []) ∨ aS w' base T sv rs) ∧ Below w.heap.size w w'
theorem CF {W : World} {a b c : Nat} {x y z : Value} {k : Nat} (h : k ≠ a ∧ k ≠ b ∧ k ≠ c) : ((((W.setCell ⟨a, 0, none⟩ x).setCell ⟨b, 0, none⟩ y).setCell ⟨c, 0, none⟩ z).drew).heap[k]? = W.heap[k]? :=
 (Below.heap_setCell _ _ _ _ h.2.2).trans ((Below.heap_setCell _ _ _ _ h.2.1).trans (Below.heap_setCell _ _ _ _ h.1))
theorem kW (s : ByteArray) (w : World) (hs : s.size ≤ 50000) (hq : Lq w.heap.size w) : Calls Tryz.prog 9 #[.string s] w (tK 73 (w.heap.size + 6) s w) := by
 have HQ := hid hq
 clear hq
 refine (callsIn_wide (n := 6)).1 ?_
 refine callsIn_of_wp_marks Tryz.func9 rfl trivial ?_ rfl
 simp only [Tryz.ntmps9, List.size_toArray, List.length_cons, List.length_nil, Nat.reduceAdd, Nat.reduceSub, Array.replicate_succ, Array.replicate_zero, List.push_toArray, List.append_toArray, List.nil_append, List.cons_append]
 gi_wp2
 refine ⟨trivial, (callsIn_wide.2 (wT s _)).mono ?_⟩
 rintro e w' ⟨rfl, rfl⟩
 have hX0 : Below w.heap.size w ((((w.alloc (.cells #[.slice none 0 0] 27)).alloc (.cells #[.int .i64 0] 3)).alloc (.cells #[.int .i64 0] 24)).alloc (.cells #[.string s] 9)) := ((((br.alloc nl _).alloc (by simp) _).alloc (by simp; omega) _).alloc (by simp; omega) _)
 have hXl : ((((w.alloc (.cells #[.slice none 0 0] 27)).alloc (.cells #[.int .i64 0] 3)).alloc (.cells #[.int .i64 0] 24)).alloc (.cells #[.string s] 9)).heap[w.heap.size]? = some (.cells #[.slice none 0 0] 27 (0, 0)) := (Below.heap_alloc _ _ _ (by simp <;> omega)).trans ((Below.heap_alloc _ _ _ (by simp <;> omega)).trans ((Below.heap_alloc _ _ _ (by simp <;> omega)).trans (aa _ _ _ rfl)))
 have hXn : ((((w.alloc (.cells #[.slice none 0 0] 27)).alloc (.cells #[.int .i64 0] 3)).alloc (.cells #[.int .i64 0] 24)).alloc (.cells #[.string s] 9)).heap[w.heap.size + 1]? = some (.cells #[.int .i64 0] 3 (0, 0)) := (Below.heap_alloc _ _ _ (by simp <;> omega)).trans ((Below.heap_alloc _ _ _ (by simp <;> omega)).trans (aa _ _ _ (by simp)))
 have hXe : ((((w.alloc (.cells #[.slice none 0 0] 27)).alloc (.cells #[.int .i64 0] 3)).alloc (.cells #[.int .i64 0] 24)).alloc (.cells #[.string s] 9)).heap[w.heap.size + 2]? = some (.cells #[.int .i64 0] 24 (0, 0)) := (Below.heap_alloc _ _ _ (by simp <;> omega)).trans (aa _ _ _ (by simp))
 have hXc : ((((w.alloc (.cells #[.slice none 0 0] 27)).alloc (.cells #[.int .i64 0] 3)).alloc (.cells #[.int .i64 0] 24)).alloc (.cells #[.string s] 9)).heap[w.heap.size + 3]? = some (.cells #[.string s] 9 (0, 0)) := aa _ _ _ (by simp)
 have hXs : ((((w.alloc (.cells #[.slice none 0 0] 27)).alloc (.cells #[.int .i64 0] 3)).alloc (.cells #[.int .i64 0] 24)).alloc (.cells #[.string s] 9)).heap.size = w.heap.size + 4 := by simp
 have hce : (((w.alloc (.cells #[.slice none 0 0] 27)).alloc (.cells #[.int .i64 0] 3)).alloc (.cells #[.int .i64 0] 24)).heap.size = w.heap.size + 3 := by simp
 rw [hce]
 generalize ((((w.alloc (.cells #[.slice none 0 0] 27)).alloc (.cells #[.int .i64 0] 3)).alloc (.cells #[.int .i64 0] 24)).alloc (.cells #[.string s] 9)) = X at hX0 hXl hXn hXe hXc hXs ⊢
 gi_wp2
 refine zF rfl (by omega) (gf := 56) (lb := #[.pointer (some ⟨w.heap.size + 3, 0, none⟩)]) rfl trivial (enters_of Tryz.func56 (by kernel_rfl) rfl)
  (AX (6 - 1) (by omega) s hs (w.heap.size + 3) X hXc) ⟨by omega, by omega⟩ (fun h k => k.trans h) (fun W o => World.putObj_heap_other (by omega)) br (fun _ => rfl)
  (fun pre W => ∃ sv rs, WL w 73 pre sv rs W) (fun cd pre W => cd = .ret ∧ WX w pre W) ?hI ?hIx ?h0 (fun x a' W => a' = { tmps := #[.string s, undef, .pointer (some ⟨w.heap.size, 0, none⟩), .pointer (some ⟨w.heap.size + 1, 0, none⟩), .pointer (some ⟨w.heap.size + 1 + 1, 0, none⟩), .string x.1, undef, undef, .string s, .func (.func 56) #[] #[.pointer (some ⟨w.heap.size + 3, 0, none⟩)], .string x.1, undef, undef, undef, undef, undef, undef, undef, undef, undef, undef, undef, undef, undef, undef, undef, undef, undef, undef, undef, undef, undef, undef, undef, undef, undef, undef, undef, undef, undef, undef, undef, undef, undef], defers := [] }) ?hAx ?assign ?body ?done ?stop
 case hI =>
  rintro b hb pre W W' ⟨sv, rs, h⟩ ht
  exact ⟨sv, rs, h.tc ht (by omega) (by omega)⟩
 case hIx =>
  rintro b cd hb pre W W' ⟨h1, h2⟩ ht
  exact ⟨h1, h2.tc ht (by omega)⟩
 case hAx =>
  rintro x a' ⟨⟩ W W' h _
  exact h
 case h0 => exact ⟨_, [], hX0, hXl, hXn, hXe, rfl, .inl ⟨rfl, rfl⟩⟩
 case assign =>
  rintro l pre x W K hi _ _ hK
  gi_wp2
  exact hK _ _ (Kr.refl _ _) rfl hi rfl
 case done =>
  rintro xs W hS ⟨sv, rs, h⟩ hK
  have c2 : W.cell? ⟨w.heap.size, 0, none⟩ = some sv := by rw [cell_of_row W _ 0 _ _ _ h.l]; rfl
  have c3 : W.cell? ⟨w.heap.size + 1, 0, none⟩ = some (.int .i64 (xs.length : Nat)) := by rw [cell_of_row W _ 0 _ _ _ h.n]; rfl
  have c4 : W.cell? ⟨w.heap.size + 1 + 1, 0, none⟩ = some (.int .i64 0) := by rw [cell_of_row W _ 0 _ _ _ h.e]; rfl
  have f2 : W.frozen? ⟨w.heap.size, 0, none⟩ = false := by rw [frozen_of_row W _ 0 _ _ h.l]
  have f3 : W.frozen? ⟨w.heap.size + 1, 0, none⟩ = false := by rw [frozen_of_row W _ 0 _ _ h.n]
  have f4 : W.frozen? ⟨w.heap.size + 1 + 1, 0, none⟩ = false := by rw [frozen_of_row W _ 0 _ _ h.e]
  obtain ⟨a1, a2, a3, rfl⟩ : ∃ a1 a2 a3, sv = .slice a1 a2 a3 := by
   rcases h.row with ⟨e, _⟩ | ⟨ys, hi, _, ho, _⟩
   ·exact ⟨_, _, _, e⟩
   ·obtain ⟨ad, cp, e⟩ := au ho
    exact ⟨_, _, _, e⟩
  gi_wp2
  gi_region
  all_goals gi_wp2
  have hk2 : ((((W.setCell ⟨w.heap.size, 0, none⟩ (.slice a1 a2 a3)).setCell ⟨w.heap.size + 1, 0, none⟩ (.int .i64 (xs.length : Nat))).setCell ⟨w.heap.size + 1 + 1, 0, none⟩ (.int .i64 0)).drew).heap[X.heap.size]? = some (.deferred (some [])) := (CF ⟨by omega, by omega, by omega⟩).trans hK
  refine ⟨by simp, .inl ⟨_, _, rfl, run_takeDeferred hk2, ?_⟩⟩
  have hl := (Array.getElem?_eq_some_iff.1 h.e).1
  have z2 : ((((W.setCell ⟨w.heap.size, 0, none⟩ (.slice a1 a2 a3)).setCell ⟨w.heap.size + 1, 0, none⟩ (.int .i64 (xs.length : Nat))).setCell ⟨w.heap.size + 1 + 1, 0, none⟩ (.int .i64 0)).drew.putObj X.heap.size (.deferred none)).heap[w.heap.size]? = some (.cells #[.slice a1 a2 a3] 27 (0, 0)) :=
   (World.putObj_heap_other (by omega)).trans ((Below.heap_setCell _ _ _ _ (by show w.heap.size ≠ w.heap.size + 1 + 1; omega)).trans ((Below.heap_setCell _ _ _ _ (by show w.heap.size ≠ w.heap.size + 1; omega)).trans (ae h.l rfl)))
  have z3 : ((((W.setCell ⟨w.heap.size, 0, none⟩ (.slice a1 a2 a3)).setCell ⟨w.heap.size + 1, 0, none⟩ (.int .i64 (xs.length : Nat))).setCell ⟨w.heap.size + 1 + 1, 0, none⟩ (.int .i64 0)).drew.putObj X.heap.size (.deferred none)).heap[w.heap.size + 1]? = some (.cells #[.int .i64 (xs.length : Nat)] 3 (0, 0)) :=
   (World.putObj_heap_other (by omega)).trans ((Below.heap_setCell _ _ _ _ (by show w.heap.size + 1 ≠ w.heap.size + 1 + 1; omega)).trans (ae ((Below.heap_setCell _ _ _ _ (by show w.heap.size + 1 ≠ w.heap.size; omega)).trans h.n) rfl))
  have z4 : ((((W.setCell ⟨w.heap.size, 0, none⟩ (.slice a1 a2 a3)).setCell ⟨w.heap.size + 1, 0, none⟩ (.int .i64 (xs.length : Nat))).setCell ⟨w.heap.size + 1 + 1, 0, none⟩ (.int .i64 0)).drew.putObj X.heap.size (.deferred none)).heap[w.heap.size + 2]? = some (.cells #[.int .i64 0] 24 (0, 0)) :=
   (World.putObj_heap_other (by omega)).trans (ae ((Below.heap_setCell _ _ _ _ (by show w.heap.size + 2 ≠ w.heap.size + 1; omega)).trans ((Below.heap_setCell _ _ _ _ (by show w.heap.size + 2 ≠ w.heap.size; omega)).trans h.e)) rfl)
  have hbz : Below w.heap.size w ((((W.setCell ⟨w.heap.size, 0, none⟩ (.slice a1 a2 a3)).setCell ⟨w.heap.size + 1, 0, none⟩ (.int .i64 (xs.length : Nat))).setCell ⟨w.heap.size + 1 + 1, 0, none⟩ (.int .i64 0)).drew.putObj X.heap.size (.deferred none)) :=
   gK ((((h.bel.setCell nl _).setCell (by simp) _).setCell (by simp; omega) _).drew) (Tc.put _ _) (by omega) (by have := h.bel.size; simpa using this)
  have hmz : (Value.slice a1 a2 a3 = .slice none 0 0 ∧ rs = []) ∨ aS ((((W.setCell ⟨w.heap.size, 0, none⟩ (.slice a1 a2 a3)).setCell ⟨w.heap.size + 1, 0, none⟩ (.int .i64 (xs.length : Nat))).setCell ⟨w.heap.size + 1 + 1, 0, none⟩ (.int .i64 0)).drew.putObj X.heap.size (.deferred none)) (w.heap.size + 6) 73 (.slice a1 a2 a3) rs :=
   h.row.imp id (fun m => ((((m.tc (Tc.set _ 0 _ _) (by omega)).tc (Tc.set _ 0 _ _) (by omega)).tc (Tc.set _ 0 _ _) (by omega)).tc (Tc.of_below (c := w.heap.size) br.drew) (by omega)).tc (Tc.put _ _) (by omega))
  have hpl : (pcl xs).length = xs.length := by simp [pcl]
  have hts : dK (lns s.data.toList) 0 [] = (rs, xs.length, 0) := by rw [← hS, ← hpl]; exact mV h.acc
  generalize ((((W.setCell ⟨w.heap.size, 0, none⟩ (.slice a1 a2 a3)).setCell ⟨w.heap.size + 1, 0, none⟩ (.int .i64 (xs.length : Nat))).setCell ⟨w.heap.size + 1 + 1, 0, none⟩ (.int .i64 0)).drew.putObj X.heap.size (.deferred none)) = Z at z2 z3 z4 hbz hmz ⊢
  have y2 : Z.cell? ⟨w.heap.size, 0, none⟩ = some (.slice a1 a2 a3) := by rw [cell_of_row Z _ 0 _ _ _ z2]; rfl
  have y3 : Z.cell? ⟨w.heap.size + 1, 0, none⟩ = some (.int .i64 (xs.length : Nat)) := by rw [cell_of_row Z _ 0 _ _ _ z3]; rfl
  have y4 : Z.cell? ⟨w.heap.size + 1 + 1, 0, none⟩ = some (.int .i64 0) := by rw [cell_of_row Z _ 0 _ _ _ z4]; rfl
  exact ⟨.tuple #[.slice a1 a2 a3, .int .i64 (xs.length : Nat), .int .i64 0], by simp [results, Tryz.results9, go_sem, y2, y3, y4], _, _, _, rs, rfl, hts, hmz, hbz⟩
 case stop =>
  rintro cd pre W ⟨t, ht⟩ ⟨rfl, h⟩ hK
  gi_wp2
  refine ⟨by simp, .inl ⟨_, _, rfl, run_takeDeferred hK, ?_⟩⟩
  have z2 : (W.putObj X.heap.size (.deferred none)).heap[w.heap.size]? = some (.cells #[.slice none 0 0] 27 (0, 0)) := (World.putObj_heap_other (by omega)).trans h.l
  have z3 : (W.putObj X.heap.size (.deferred none)).heap[w.heap.size + 1]? = some (.cells #[.int .i64 (pre.length : Nat)] 3 (0, 0)) := (World.putObj_heap_other (by omega)).trans h.n
  have z4 : (W.putObj X.heap.size (.deferred none)).heap[w.heap.size + 2]? = some (.cells #[.int .i64 50] 24 (0, 0)) := (World.putObj_heap_other (by omega)).trans h.e
  have hbz : Below w.heap.size w (W.putObj X.heap.size (.deferred none)) := gK h.bel (Tc.put _ _) (by omega) h.bel.size
  obtain ⟨a, x, rs, e1, e2, e3, e4⟩ := h.bad
  have hpl : pre.length = a.length + 1 := by
   have : (pcl pre).length = pre.length := by simp [pcl]
   rw [← this, e1]
   simp
  have hts : dK (lns s.data.toList) 0 [] = ([], pre.length, 50) := by
   rw [← ht, e1, List.append_assoc, List.singleton_append, lq e2 e3 e4, hpl]
  generalize W.putObj X.heap.size (.deferred none) = Z at z2 z3 z4 hbz ⊢
  have y2 : Z.cell? ⟨w.heap.size, 0, none⟩ = some (.slice none 0 0) := by rw [cell_of_row Z _ 0 _ _ _ z2]; rfl
  have y3 : Z.cell? ⟨w.heap.size + 1, 0, none⟩ = some (.int .i64 (pre.length : Nat)) := by rw [cell_of_row Z _ 0 _ _ _ z3]; rfl
  have y4 : Z.cell? ⟨w.heap.size + 1 + 1, 0, none⟩ = some (.int .i64 50) := by rw [cell_of_row Z _ 0 _ _ _ z4]; rfl
  exact ⟨.tuple #[.slice none 0 0, .int .i64 (pre.length : Nat), .int .i64 50], by simp [results, Tryz.results9, go_sem, y2, y3, y4], _, _, _, [], rfl, hts, .inl ⟨rfl, rfl⟩, hbz⟩
 case body =>
  rintro l pre x a' W hW ⟨sv, rs, h⟩ rfl hlen
  have c3 : W.cell? ⟨w.heap.size + 1, 0, none⟩ = some (.int .i64 (pre.length : Nat)) := by rw [cell_of_row W _ 0 _ _ _ h.n]; rfl
  have f3 : W.frozen? ⟨w.heap.size + 1, 0, none⟩ = false := by rw [frozen_of_row W _ 0 _ _ h.n]
  gi_wp2
  refine ⟨trivial, (CallsIn.inRound l (callsIn_wide.2 (yZ x.1 _ (by have := x.2; omega)))).mono ?_⟩
  rintro e w' ⟨rfl, rfl⟩
  obtain ⟨L, hL⟩ : ∃ L : ByteArray, L = ⟨(cB x.1.data.toList).toArray⟩ := ⟨_, rfl⟩
  have hLl : L.data.toList = cB x.1.data.toList := by rw [hL]
  rw [← hL]
  have HL := hid hLl
  clear hL hLl
  by_cases h0 : L.size = 0
  ·obtain rfl : L = ⟨#[]⟩ := jv (List.eq_nil_of_length_eq_zero (by rw [← Lib.size_eq]; exact h0))
   have hm : mute (cB x.1.data.toList) := .inl (by rw [← HL.out])
   gi_wp2
   exact ⟨Kr.set (by omega), Below.heap_setCell _ _ _ _ (by show w.heap.size + 3 ≠ w.heap.size + 1; omega), sv, rs, h.skip x hm⟩
  ·have t0 : (0 : Int) < (L.size : Int) := by omega
   have hne : (L.toList == ([] : List UInt8)) = false := by
    rw [ByteArray.toList_eq, beq_eq_false_iff_ne]
    intro e
    exact h0 (by rw [Lib.size_eq, e]; rfl)
   gi_wp2
   ·rename_i h35
    have hm : mute (cB x.1.data.toList) := .inr (by
     have e : L.data.toList.head? = some L[0] := by
      rw [List.head?_eq_getElem?, List.getElem?_eq_getElem (by rw [← Lib.size_eq]; omega)]
      rfl
     rw [← HL.out, e]
     congr 1
     have h3 : ((L[0].toNat : Nat) : Int) = 35 := by simpa using h35
     exact UInt8.toNat_inj.1 (show L[0].toNat = 35 by omega))
    exact ⟨Kr.set (by omega), Below.heap_setCell _ _ _ _ (by show w.heap.size + 3 ≠ w.heap.size + 1; omega), sv, rs, h.skip x hm⟩
   ·have h35 : ¬ ((L[0].toNat : Nat) : Int) = 35 := by first | assumption | (intro e; simp_all)
    have hm : ¬ mute (cB x.1.data.toList) := by
     rw [← HL.out]
     rintro (e | e)
     ·exact h0 (by rw [Lib.size_eq, e]; rfl)
     ·have e2 : L.data.toList.head? = some L[0] := by
       rw [List.head?_eq_getElem?, List.getElem?_eq_getElem (by rw [← Lib.size_eq]; omega)]
       rfl
      rw [e2] at e
      injection e with e
      apply h35
      rw [e]
      rfl
    have hLs : L.size ≤ 50000 := by
     have h1 : L.size = (cB x.1.data.toList).length := by rw [Lib.size_eq, HL.out]
     have h2 : (cB x.1.data.toList).length ≤ x.1.data.toList.length := by unfold cB; split <;> simp
     have := x.2
     rw [← Lib.size_eq] at h2
     omega
    have HM := hid hm
    clear hm t0 hne h35
    have hb1 : Below w.heap.size w (W.setCell ⟨w.heap.size + 1, 0, none⟩ (.int .i64 ((pre.length : Nat) + 1))) := h.bel.setCell (by simp) _
    refine ⟨trivial, (CallsIn.inRound l (callsIn_wide.2 (wK L _ hLs ((HQ.out.below hb1).mono hb1.size)))).mono ?_⟩
    rintro e w2 ⟨v, rfl, hv, hb2⟩
    obtain ⟨k0, k1, k2, k3, k4, k5, k6, k7, rfl, _⟩ := hv.conc
    rw [HL.out] at hv ⊢
    cases hq : aM (cB x.1.data.toList) with
    | none =>
     rw [show qB none = 50 from rfl]
     have hne3 : w.heap.size + 2 < W.heap.size := by have := (Array.getElem?_eq_some_iff.1 h.e).1; exact this
     have hs1 : (W.setCell ⟨w.heap.size + 1, 0, none⟩ (.int .i64 ((pre.length : Nat) + 1))).heap.size = W.heap.size := by simp
     have g3 : w2.heap[w.heap.size + 1]? = some (.cells #[.int .i64 ((pre.length : Nat) + 1)] 3 (0, 0)) := (hb2.block _ (by omega)).trans (ae h.n rfl)
     have g2 : w2.heap[w.heap.size]? = some (.cells #[sv] 27 (0, 0)) := (hb2.block _ (by omega)).trans ((Below.heap_setCell _ _ _ _ (by show w.heap.size ≠ w.heap.size + 1; omega)).trans h.l)
     have g4 : w2.heap[w.heap.size + 2]? = some (.cells #[.int .i64 0] 24 (0, 0)) := (hb2.block _ (by omega)).trans ((Below.heap_setCell _ _ _ _ (by show w.heap.size + 2 ≠ w.heap.size + 1; omega)).trans h.e)
     have d2 : w2.cell? ⟨w.heap.size, 0, none⟩ = some sv := by rw [cell_of_row w2 _ 0 _ _ _ g2]; rfl
     have d3 : w2.cell? ⟨w.heap.size + 1, 0, none⟩ = some (.int .i64 ((pre.length : Nat) + 1)) := by rw [cell_of_row w2 _ 0 _ _ _ g3]; rfl
     have d4 : w2.cell? ⟨w.heap.size + 1 + 1, 0, none⟩ = some (.int .i64 0) := by rw [cell_of_row w2 _ 0 _ _ _ g4]; rfl
     have r2 : w2.frozen? ⟨w.heap.size, 0, none⟩ = false := by rw [frozen_of_row w2 _ 0 _ _ g2]
     have r3 : w2.frozen? ⟨w.heap.size + 1, 0, none⟩ = false := by rw [frozen_of_row w2 _ 0 _ _ g3]
     have r4 : w2.frozen? ⟨w.heap.size + 1 + 1, 0, none⟩ = false := by rw [frozen_of_row w2 _ 0 _ _ g4]
     have hs2 := hb2.size
     have l2 : w.heap.size < w2.heap.size := by omega
     have l3 : w.heap.size + 1 < w2.heap.size := by omega
     have l4 : w.heap.size + 1 + 1 < w2.heap.size := by omega
     have hY : ∀ o : Obj, Kr X.heap.size W ((((w2.setCell ⟨w.heap.size, 0, none⟩ (.slice none 0 0)).setCell ⟨w.heap.size + 1, 0, none⟩ (.int .i64 ((pre.length : Nat) + 1))).setCell ⟨w.heap.size + 1 + 1, 0, none⟩ (.int .i64 50)).alloc o) ∧ WX w (pre ++ [x]) ((((w2.setCell ⟨w.heap.size, 0, none⟩ (.slice none 0 0)).setCell ⟨w.heap.size + 1, 0, none⟩ (.int .i64 ((pre.length : Nat) + 1))).setCell ⟨w.heap.size + 1 + 1, 0, none⟩ (.int .i64 50)).alloc o) := by
      intro o
      have hfar : ∀ k, k < W.heap.size → w.heap.size + 3 ≤ k → ((((w2.setCell ⟨w.heap.size, 0, none⟩ (.slice none 0 0)).setCell ⟨w.heap.size + 1, 0, none⟩ (.int .i64 ((pre.length : Nat) + 1))).setCell ⟨w.heap.size + 1 + 1, 0, none⟩ (.int .i64 50)).alloc o).heap[k]? = W.heap[k]? := fun k h1 h2 =>
       (Below.heap_alloc _ _ _ (by simp; omega)).trans ((Below.heap_setCell _ _ _ _ (by show k ≠ w.heap.size + 1 + 1; omega)).trans ((Below.heap_setCell _ _ _ _ (by show k ≠ w.heap.size + 1; omega)).trans ((Below.heap_setCell _ _ _ _ (by show k ≠ w.heap.size; omega)).trans ((hb2.block _ (by omega)).trans (Below.heap_setCell _ _ _ _ (by show k ≠ w.heap.size + 1; omega))))))
      have hB2 : Below w.heap.size w w2 := hb1.trans (hb2.mono (by simp; omega))
      refine ⟨⟨hfar _ (by omega) (by omega), hfar _ (by omega) (by omega)⟩, (((hB2.setCell nl _).setCell (by simp) _).setCell (by simp; omega) _).alloc (by simp; omega) _, ?_, ?_, ?_, ?_⟩
      ·exact (Below.heap_alloc _ _ _ (by simp; omega)).trans ((Below.heap_setCell _ _ _ _ (by show w.heap.size ≠ w.heap.size + 1 + 1; omega)).trans ((Below.heap_setCell _ _ _ _ (by show w.heap.size ≠ w.heap.size + 1; omega)).trans (ae g2 rfl)))
      ·rw [show ((pre ++ [x]).length : Int) = (pre.length : Nat) + 1 by simp]
       exact (Below.heap_alloc _ _ _ (by simp; omega)).trans ((Below.heap_setCell _ _ _ _ (by show w.heap.size + 1 ≠ w.heap.size + 1 + 1; omega)).trans (ae ((Below.heap_setCell _ _ _ _ (by show w.heap.size + 1 ≠ w.heap.size; omega)).trans g3) rfl))
      ·exact (Below.heap_alloc _ _ _ (by simp; omega)).trans (ae ((Below.heap_setCell _ _ _ _ (by show w.heap.size + 2 ≠ w.heap.size + 1; omega)).trans ((Below.heap_setCell _ _ _ _ (by show w.heap.size + 2 ≠ w.heap.size; omega)).trans g4)) rfl)
      ·exact ⟨pcl pre, cB x.1.data.toList, rs, by simp [pcl], h.acc, HM.out, hq⟩
     have HY := hid hY
     have HBAD := hid (hY (.deferred none)).2.bad
     clear hY
     gi_wp2
     gi_region
     all_goals gi_wp2
     all_goals first | exact ⟨(HY.out _).1, rfl, (HY.out _).2⟩ | exact ⟨(HY.out _).1, rfl, (HY.out _).2.bel.drew, (HY.out _).2.l, (HY.out _).2.n, (HY.out _).2.e, HBAD.out⟩
    | some q =>
     rw [show qB (some q) = 0 from rfl]
     rw [hq] at hv
     have hv : aI w2 (fun b => (W.setCell ⟨w.heap.size + 1, 0, none⟩ (.int .i64 ((pre.length : Nat) + 1))).heap.size ≤ b) true q _ := hv
     have hne3 : w.heap.size + 2 < W.heap.size := by have := (Array.getElem?_eq_some_iff.1 h.e).1; exact this
     have hs1 : (W.setCell ⟨w.heap.size + 1, 0, none⟩ (.int .i64 ((pre.length : Nat) + 1))).heap.size = W.heap.size := by simp
     rw [hs1] at hv
     have hv : aI w2 (fun b => W.heap.size ≤ b) true q (.agg #[.int .i64 q.k, .int .u64 q.t, .int .u64 q.x, .int .u64 q.w, .int .u64 q.n, .int .u64 q.v, .int .i64 k0, .int .u64 k1, .int .u64 k2, .slice k3 k4 k5, .slice k6 q.es.length k7]) := hv
     have HQL := hid hq
     clear hq
     have g3 : w2.heap[w.heap.size + 1]? = some (.cells #[.int .i64 ((pre.length : Nat) + 1)] 3 (0, 0)) := (hb2.block _ (by omega)).trans (ae h.n rfl)
     have g2 : w2.heap[w.heap.size]? = some (.cells #[sv] 27 (0, 0)) := (hb2.block _ (by omega)).trans ((Below.heap_setCell _ _ _ _ (by show w.heap.size ≠ w.heap.size + 1; omega)).trans h.l)
     have g4 : w2.heap[w.heap.size + 2]? = some (.cells #[.int .i64 0] 24 (0, 0)) := (hb2.block _ (by omega)).trans ((Below.heap_setCell _ _ _ _ (by show w.heap.size + 2 ≠ w.heap.size + 1; omega)).trans h.e)
     have hsv := aS.form h.row
     obtain ⟨sa, sc, rfl⟩ := hsv
     have d2 : w2.cell? ⟨w.heap.size, 0, none⟩ = some (.slice sa rs.length sc) := by rw [cell_of_row w2 _ 0 _ _ _ g2]; rfl
     have r2 : w2.frozen? ⟨w.heap.size, 0, none⟩ = false := by rw [frozen_of_row w2 _ 0 _ _ g2]
     have hs2 := hb2.size
     have l2 : w.heap.size < w2.heap.size := by omega
     have hpl : (pcl pre).length = pre.length := by simp [pcl]
     have hal := kr h.acc
     have hrl : rs.length < 65536 := by omega
     have e65 : ¬ ((rs.length : Nat) : Int) = 65536 := by omega
     have hWs : w.heap.size + 6 ≤ W.heap.size := by omega
     obtain ⟨ys, hi, hh, hown, hrs⟩ := (aS.mk' h.row hWs).tc (Tc.set (w.heap.size + 1) 0 W (.int .i64 ((pre.length : Nat) + 1))) (by omega)
     obtain ⟨i0, hi0, hz0, hz1, hz2⟩ := info_parts CE
     have hob := hown.lt
     have hne : ∀ k, k < w.heap.size + 6 → some k ≠ (Value.slice sa rs.length sc).ownBlock := fun k hk e => by have := hob _ e.symm; omega
     have hown' := ownsRow_below hown hb2 nl
     have HH := hid hh
     have HOW := hid hown
     have HB := hid hb2
     have hbel2 : Below w.heap.size w w2 := hb1.trans (hb2.mono (by omega))
     have q6 : w.heap.size + 6 ≤ w2.heap.size := by omega
     have q65 : rs.length + 1 ≤ 65536 := by omega
     have HS1 := hid hs1
     clear hown hh hb1 hb2 hs1
     gi_wp2_with (gi_at_builtin; go_loud (refine ko _ rfl (.tmp 38) (.tmp 40) 27 rfl (w.heap.size + 6) 73 i0 _ 11 120 Tryz.underlying27 hi0 hz0 hz1 hz2 rfl (by omega) (.slice sa rs.length sc) rs.length ys rfl ((hown'.alloc _).alloc _) ⟨w2.heap.size + 1, 0, none⟩ 1 1 [.int .i64 q.k, .int .u64 q.t, .int .u64 q.x, .int .u64 q.w, .int .u64 q.n, .int .u64 q.v, .int .i64 k0, .int .u64 k1, .int .u64 k2, .slice k3 k4 k5, .slice k6 q.es.length k7] rfl rfl (World.news_of_block (cs := #[.int .i64 q.k, .int .u64 q.t, .int .u64 q.x, .int .u64 q.w, .int .u64 q.n, .int .u64 q.v, .int .i64 k0, .int .u64 k1, .int .u64 k2, .slice k3 k4 k5, .slice k6 q.es.length k7]) (t := 73) (fr := (0, 0)) (aa _ _ _ (by simp))) (by simp [Value.oneCell']) (by omega) (by unfold maxLen; omega) (by omega) (by rw [World.size_alloc, World.size_alloc]; omega) (w2.heap.size + 1 + 1) (by simp) ?_); intro gg gcap w4 hown2 hgrow hat hlt2; go_loud (have d5 : w4.cell? ⟨w.heap.size, 0, none⟩ = some (.slice sa rs.length sc) := (by rw [hgrow.cell_far _ (by simp; omega) (hne _ (by show w.heap.size < w.heap.size + 6; omega)), World.cell?_alloc_past _ _ _ (by simp; omega), World.cell?_alloc_past _ _ _ l2]; exact d2)); go_loud (have r5 : w4.frozen? ⟨w.heap.size, 0, none⟩ = false := (by rw [hgrow.frozen_far _ (by simp; omega) (hne _ (by show w.heap.size < w.heap.size + 6; omega)), World.frozen?_alloc_past _ _ _ (by simp; omega), World.frozen?_alloc_past _ _ _ l2]; exact r2)))
     have hbz := HB.out
     have hs4 := hgrow.size
     simp only [World.size_alloc] at hs4
     have far : ∀ k, k < w.heap.size + 6 → w4.heap[k]? = w2.heap[k]? := fun k h1 => (hgrow.block k (by simp; omega) (hne k h1)).trans ((Below.heap_alloc _ _ _ (by simp; omega)).trans (Below.heap_alloc _ _ _ (by omega)))
     have hmk : aS w4 (w.heap.size + 6) 73 (.slice (some ⟨gg, 0, none⟩) (rs.length + 1) gcap) (rs ++ [q]) :=
      aS.push' HH.out HOW.out hrs hbz nl (by rw [HS1.out]; exact hv) ((br.alloc nl _).alloc (by simp) _) hgrow hown2 (hat.imp id (by omega))
     have hS1 := HS1.out
     have hW2 : ∀ k, k < W.heap.size → k ≠ w.heap.size + 1 → w2.heap[k]? = W.heap[k]? := fun k h1 h2 => (hbz.block k (by omega)).trans (Below.heap_setCell _ _ _ _ (by show k ≠ w.heap.size + 1; exact h2))
     have hfin : ∀ (V : Value) k, k < w.heap.size + 6 → k ≠ w.heap.size → (w4.setCell ⟨w.heap.size, 0, none⟩ V).heap[k]? = w2.heap[k]? := fun V k h1 h2 => (Below.heap_setCell _ _ _ _ (by show k ≠ w.heap.size; exact h2)).trans (far k h1)
     refine ⟨⟨(hfin _ _ (by omega) (by omega)).trans (hW2 _ (by omega) (by omega)), (hfin _ _ (by omega) (by omega)).trans (hW2 _ (by omega) (by omega))⟩, (hfin _ _ (by omega) (by omega)).trans (hW2 _ (by omega) (by omega)), _, rs ++ [q], ⟨?_, ae ((far _ (by omega)).trans g2) rfl, ?_, (hfin _ _ (by omega) (by omega)).trans g4, ?_, .inr (hmk.tc (Tc.set _ 0 _ _) (by omega))⟩⟩
     ·exact ((((hbel2.alloc (by omega) _).alloc (by simp; omega) _).grown hgrow (by simp; omega) (fun k hk => by have := (hob k hk).1; omega))).setCell nl _
     ·rw [show ((pre ++ [x]).length : Int) = (pre.length : Nat) + 1 by simp]
      exact (hfin _ _ (by omega) (by omega)).trans g3
     ·have : pcl (pre ++ [x]) = pcl pre ++ [cB x.1.data.toList] := by simp [pcl]
      rw [this]
      exact iT HM.out HQL.out h.acc
theorem wW : (Tryz.prog.info? 65).map (fun i => (i.zero, i.size, i.bytes)) = some (some (.agg #[.int .i64 0, .int .u64 0, .int .u64 0, .int .u64 0, .int .u64 0, .int .u64 0, .int .i64 0, .int .u64 0, .int .u64 0, .slice none 0 0, .slice none 0 0]), 11, 120) := by kernel_rfl
theorem CG {s x : List UInt8} {r : List (List UInt8)} (h : cuts 10 s = r ++ [x]) : lns s = if x = [] then r else r ++ [x] := by
 unfold lns
 rw [h]
 simp
theorem kC {X : ByteArray} : X.size = 0 ↔ X.data.toList = [] := by
 rw [Lib.size_eq]
 exact List.length_eq_zero_iff
theorem DJ {L : ByteArray} (h0 : ¬ L.size = 0) : L.data.toList.head? = some (L[0]'(by omega)) := by
 rw [List.head?_eq_getElem?, List.getElem?_eq_getElem (by rw [← Lib.size_eq]; omega)]
 rfl
theorem wX {L : ByteArray} (h0 : ¬ L.size = 0) : mute L.data.toList ↔ ((L[0]'(by omega)).toNat : Int) = 35 := by
 unfold mute
 rw [DJ h0]
 constructor
 ·rintro (e | e)
  ·exact absurd (kC.2 e) h0
  ·injection e with e
   rw [e]; rfl
 ·intro h
  right
  congr 1
  exact UInt8.toNat_inj.1 (show (L[0]'(by omega)).toNat = 35 by omega)
theorem vg (s : ByteArray) (w : World) (hs : s.size ≤ 699) : Calls Tryz.prog 8 #[.string s] w (tK 65 w.heap.size s w) := by
 have HCU := hid (dn 10 s w (by omega))
 obtain ⟨r, x, hrx⟩ := zI (dR 10 s.data.toList)
 have hMem := aV 10 s.data.toList
 have hLen := bJ 10 s.data.toList
 rw [hrx] at hMem hLen
 rw [af] at hMem hLen
 rw [List.length_append, List.length_singleton] at hLen
 have hLs := CG hrx
 obtain ⟨M, hM⟩ : ∃ M, M = r.length := ⟨_, rfl⟩
 have HR := hid (And.intro hrx (And.intro hMem (And.intro hLs hM)))
 have hM7 : M ≤ 699 := by omega
 clear hrx hMem hLen hLs hM
 go_enter Tryz.func8, Tryz.ntmps8
 go_wp2_with fail
 refine HCU.out.mono ?_
 rintro e W1 ⟨v, rfl, hown, hb1⟩
 rw [HR.out.1] at hown
 obtain ⟨gg, gc, rfl, hgb, hgl, hcell⟩ := dI hown (by simp)
 rw [show (r ++ [x]).length = M + 1 by rw [HR.out.2.2.2]; simp]
 have hcp : M + 1 ≤ gc := by
  rcases hown.2 with ⟨e, _⟩ | ⟨g', cap', cur, e, _, _, h1, _⟩
  ·cases e
  ·simp only [Value.slice.injEq] at e
   have := HR.out.2.2.2
   have h2 : (r ++ [x]).length = r.length + 1 := by simp
   omega
 obtain ⟨X0, hX0⟩ : ∃ X : ByteArray, X = ⟨x.toArray⟩ := ⟨_, rfl⟩
 have c0 : W1.cell? ⟨gg, M, none⟩ = some (.string X0) := hcell M _ (by rw [HR.out.2.2.2, hX0]; simp [strs])
 have hcl : ∀ i (h : i < (r ++ [x]).length), W1.cell? ⟨gg, i, none⟩ = some (.string ⟨((r ++ [x])[i]).toArray⟩) := fun i h => hcell i _ (by simp only [strs, List.getElem?_map, List.getElem?_eq_getElem h]; rfl)
 have hz1 := hb1.size
 have i0 : (0 : Int) ≤ (M : Int) := by omega
 have i1 : (M : Int) < ((M + 1 : Nat) : Int) := by omega
 have i2 : (M : Int) ≤ ((M + 1 : Nat) : Int) := by omega
 have e0 : IntKind.i64.wrap (((M + 1 : Nat) : Int) - 1) = (M : Int) := by rw [IntKind.wrap_i64]; omega
 have HX0 := hid (And.intro hX0 (And.intro hcl hb1))
 clear hown hcell hX0 hcl hb1
 by_cases hx : x = []
 ·obtain rfl : X0 = ⟨#[]⟩ := by rw [HX0.out.1, hx]
  obtain ⟨L, hL⟩ : ∃ L, L = r := ⟨_, rfl⟩
  obtain ⟨N, hN⟩ : ∃ N, N = M := ⟨_, rfl⟩
  have HN : Hid (L.length = N) := hid (by rw [hL, hN, HR.out.2.2.2])
  have HL : Hid (L = lns s.data.toList ∧ (∀ i (h : i < L.length), W1.cell? ⟨gg, i, none⟩ = some (.string ⟨(L[i]).toArray⟩)) ∧ (∀ y ∈ L, y.length ≤ 700) ∧ Below w.heap.size w W1 ∧ True) := hid ⟨by rw [HR.out.2.2.1, if_pos hx, hL], fun i h => by
   have h1 := HX0.out.2.1 i (by rw [← hL]; simp; omega)
   have e : (r ++ [x])[i]'(by rw [← hL]; simp; omega) = L[i] := by subst hL; exact List.getElem_append_left h
   rw [e] at h1
   exact h1, fun y hy => by have := HR.out.2.1 y (by rw [← hL]; simp [hy]); omega, HX0.out.2.2, trivial⟩
  have HNM := hid hN
  have hN7 : N ≤ 700 := by omega
  clear hx hL hN
  go_upto_region 4 with fail
  rw [← HNM.out]
  have hL' := HN.out
  go_wp2_with fail
  go_loopw [6, 7] (fun sv i wr => ∃ (j : Nat) (rs : List Rec), i = .int .i64 (j : Nat) ∧ j ≤ N ∧ iI (L.take j) = some rs ∧ aS wr W1.heap.size 65 sv rs ∧ Below W1.heap.size W1 wr) (fun _ i _ => N - (intOf i).toNat)
  case atStart => exact ⟨0, [], rfl, by omega, rfl, aS.nil _ _ _ (by omega), br⟩
  case round =>
   obtain ⟨j, rs, rfl, hj, hacc, hmk, hb⟩ := hrel
   have hzw := hb.size
   have hbw : Below w.heap.size w wr := HL.out.2.2.2.1.trans (hb.mono (by omega))
   by_cases hlt : j < N
   ·obtain ⟨X, hX⟩ : ∃ X : ByteArray, X = ⟨(L[j]'(by omega)).toArray⟩ := ⟨_, rfl⟩
    have hXl : X.data.toList = L[j]'(by omega) := by rw [hX]
    have cX : wr.cell? ⟨gg, j, none⟩ = some (.string X) := (hb.cell (p := ⟨gg, j, none⟩) hgl).trans (by rw [hX]; exact HL.out.2.1 j (by omega))
    have hXs : X.size ≤ 700 := by rw [Lib.size_eq, hXl]; exact HL.out.2.2.1 _ (List.getElem_mem _)
    have i1 : (j : Int) < (N : Int) := by omega
    have i0 : (0 : Int) ≤ (j : Int) := by omega
    have htk : L.take (j + 1) = L.take j ++ [L[j]'(by omega)] := List.take_succ_eq_append_getElem (by omega)
    have HLT := hid hlt
    have HJ := hid (And.intro htk (And.intro hXl (And.intro hacc (And.intro hmk (And.intro hb hbw)))))
    clear hX hXl htk hacc hmk hb hbw
    by_cases h0 : X.size = 0
    ·obtain rfl : X = ⟨#[]⟩ := jv (kC.1 h0)
     have hm : mute (L[j]'(by omega)) := by rw [← HJ.out.2.1]; exact .inl rfl
     have HM := hid hm
     clear hm
     go_wp2_with fail
     go_roundw
     case rel => exact ⟨j + 1, rs, by go_num, by have := HLT.out; omega, by rw [HJ.out.1]; exact cz HM.out HJ.out.2.2.1, HJ.out.2.2.2.1, HJ.out.2.2.2.2.1⟩
     case measure => have := HLT.out; simp [intOf]; omega
    ·have t0 : (0 : Int) < (X.size : Int) := by omega
     have hne : (X.toList == ([] : List UInt8)) = false := by
      rw [ByteArray.toList_eq, beq_eq_false_iff_ne]
      intro e
      exact h0 (kC.2 e)
     have HMI := hid (wX h0)
     go_wp2_with fail
     ·rename_i h35
      have HM : Hid (mute (L[j]'(by omega))) := hid (by rw [← HJ.out.2.1]; exact HMI.out.2 (by simpa using h35))
      go_roundw
      case rel => exact ⟨j + 1, rs, by go_num, by have := HLT.out; omega, by rw [HJ.out.1]; exact cz HM.out HJ.out.2.2.1, HJ.out.2.2.2.1, HJ.out.2.2.2.2.1⟩
      case measure => have := HLT.out; simp [intOf]; omega
     ·have h35 : ¬ ((X[0].toNat : Nat) : Int) = 35 := by first | assumption | (intro e; simp_all)
      have HM : Hid (¬ mute (L[j]'(by omega))) := hid (by rw [← HJ.out.2.1]; exact fun e => h35 (HMI.out.1 e))
      have HLN := hid (oq X wr (by omega))
      rw [HJ.out.2.1] at HLN
      refine HLN.out.mono ?_
      rintro e w2 ⟨v, rfl, hv, hb2⟩
      obtain ⟨k0, k1, k2, k3, k4, k5, k6, k7, rfl, _⟩ := hv.conc
      have hz2 := hb2.size
      cases hq : aM (L[j]'(by omega)) with
      | none =>
       rw [show qB none = 50 from rfl]
       have HQ := hid hq
       have HB2 := hid hb2
       clear hq hb2 hv t0 hne h35
       go_wp2_with fail
       go_ret3
       refine ⟨.slice none 0 0, j + 1, 50, [], by simp, ?_, .inl ⟨rfl, rfl⟩, (HJ.out.2.2.2.2.2.trans (HB2.out.mono (by omega))).alloc (by omega) _⟩
       have hL : L = L.take j ++ (L[j]'(by omega)) :: L.drop (j + 1) := by rw [List.getElem_cons_drop, List.take_append_drop]
       rw [← HL.out.1, hL, lq HJ.out.2.2.1 HM.out HQ.out, List.length_take, Nat.min_eq_left (by omega)]
      | some q =>
       rw [show qB (some q) = 0 from rfl]
       rw [hq] at hv
       have hv : aI w2 (fun b => wr.heap.size ≤ b) true q _ := hv
       obtain ⟨ys, hi, hh, hown, hrs⟩ := HJ.out.2.2.2.1
       obtain ⟨sa, sc, rfl⟩ := au hown
       obtain ⟨i0', hi0, hz0, hz1, hz2'⟩ := info_parts wW
       have hrl := kr HJ.out.2.2.1
       rw [List.length_take, Nat.min_eq_left (by omega)] at hrl
       have hown' := ownsRow_below hown hb2 nl
       have q7 : W1.heap.size ≤ w2.heap.size := by omega
       have q65 : rs.length + 1 ≤ 1000 := by omega
       have HH := hid (And.intro hh (And.intro hown hrs))
       have HB2 := hid hb2
       have HV := hid (And.intro hv hq)
       clear hown hh hrs hb2 hv hq t0 hne h35 cX
       go_wp2_with (at_builtin; go_loud (refine wpList_append_lies _ rfl (.tmp 56) (.tmp 58) 23 rfl W1.heap.size 65 i0' _ 11 120 Tryz.underlying23 hi0 hz0 hz1 hz2' rfl (by omega) (.slice sa rs.length sc) rs.length ys rfl ((hown'.alloc _).alloc _) ⟨w2.heap.size + 1, 0, none⟩ 1 1 [.int .i64 q.k, .int .u64 q.t, .int .u64 q.x, .int .u64 q.w, .int .u64 q.n, .int .u64 q.v, .int .i64 k0, .int .u64 k1, .int .u64 k2, .slice k3 k4 k5, .slice k6 q.es.length k7] rfl rfl (World.news_of_block (cs := #[.int .i64 q.k, .int .u64 q.t, .int .u64 q.x, .int .u64 q.w, .int .u64 q.n, .int .u64 q.v, .int .i64 k0, .int .u64 k1, .int .u64 k2, .slice k3 k4 k5, .slice k6 q.es.length k7]) (t := 65) (fr := (0, 0)) (aa _ _ _ (by simp))) (by simp [Value.oneCell']) (by omega) (by unfold maxLen; omega) (by omega) (by rw [World.size_alloc, World.size_alloc]; omega) (w2.heap.size + 1 + 1) (by simp) ?_); intro gg' gcap w4 hown2 hgrow hat hlt2)
       have hob := HH.out.2.1.lt
       have HG := hid (And.intro hown2 (And.intro hgrow hat))
       clear hown2 hgrow hat hown'
       go_wp2_with fail
       go_roundw
       case rel =>
        refine ⟨j + 1, rs ++ [q], by go_num, by have := HLT.out; omega, by rw [HJ.out.1]; exact iT HM.out HV.out.2 HJ.out.2.2.1, aS.push' HH.out.1 HH.out.2.1 HH.out.2.2 HB2.out nl HV.out.1 ((br.alloc nl _).alloc (by simp) _) HG.out.2.1 HG.out.1 (HG.out.2.2.imp id (by omega)), ?_⟩
        have hz3 := HG.out.2.1.size
        simp only [World.size_alloc] at hz3
        exact HJ.out.2.2.2.2.1.trans (((((HB2.out.mono hzw).alloc (by omega) _).alloc (by simp; omega) _)).grown HG.out.2.1 (by simp; omega) (fun k hk => by have := hob k hk; omega))
       case measure => have := HLT.out; simp [intOf]; omega
   ·have hj2 : j = N := by omega
    subst hj2
    obtain ⟨sa, sc, rfl⟩ := au hmk.choose_spec.choose_spec.2.1
    have HE := hid (And.intro hacc (And.intro hmk hbw))
    clear hacc hmk hb hbw
    go_wp2_with fail
    go_ret3
    refine ⟨_, j, 0, rs, rfl, ?_, .inr (HE.out.2.1.less (by omega)), HE.out.2.2⟩
    have h1 := HE.out.1
    rw [List.take_of_length_le (by omega)] at h1
    rw [← HL.out.1, mV h1, HN.out]
 ·have hne0 : (X0.toList == ([] : List UInt8)) = false := by
   rw [ByteArray.toList_eq, beq_eq_false_iff_ne, HX0.out.1]
   exact hx
  obtain ⟨L, hL⟩ : ∃ L, L = r ++ [x] := ⟨_, rfl⟩
  obtain ⟨N, hN⟩ : ∃ N, N = M + 1 := ⟨_, rfl⟩
  have HN : Hid (L.length = N) := hid (by rw [hL, hN, HR.out.2.2.2]; simp)
  have HL : Hid (L = lns s.data.toList ∧ (∀ i (h : i < L.length), W1.cell? ⟨gg, i, none⟩ = some (.string ⟨(L[i]).toArray⟩)) ∧ (∀ y ∈ L, y.length ≤ 700) ∧ Below w.heap.size w W1 ∧ True) := hid ⟨by rw [HR.out.2.2.1, if_neg hx, hL], fun i h => by
   have h1 := HX0.out.2.1 i (by rw [← hL]; exact h)
   subst hL
   exact h1, fun y hy => by have := HR.out.2.1 y (by rw [← hL]; exact hy); omega, HX0.out.2.2, trivial⟩
  have HNM := hid hN
  have hN7 : N ≤ 700 := by omega
  clear hx hL hN
  go_upto_region 4 with fail
  rw [← HNM.out]
  have hL' := HN.out
  go_wp2_with fail
  go_loopw [6, 7] (fun sv i wr => ∃ (j : Nat) (rs : List Rec), i = .int .i64 (j : Nat) ∧ j ≤ N ∧ iI (L.take j) = some rs ∧ aS wr W1.heap.size 65 sv rs ∧ Below W1.heap.size W1 wr) (fun _ i _ => N - (intOf i).toNat)
  case atStart => exact ⟨0, [], rfl, by omega, rfl, aS.nil _ _ _ (by omega), br⟩
  case round =>
   obtain ⟨j, rs, rfl, hj, hacc, hmk, hb⟩ := hrel
   have hzw := hb.size
   have hbw : Below w.heap.size w wr := HL.out.2.2.2.1.trans (hb.mono (by omega))
   by_cases hlt : j < N
   ·obtain ⟨X, hX⟩ : ∃ X : ByteArray, X = ⟨(L[j]'(by omega)).toArray⟩ := ⟨_, rfl⟩
    have hXl : X.data.toList = L[j]'(by omega) := by rw [hX]
    have cX : wr.cell? ⟨gg, j, none⟩ = some (.string X) := (hb.cell (p := ⟨gg, j, none⟩) hgl).trans (by rw [hX]; exact HL.out.2.1 j (by omega))
    have hXs : X.size ≤ 700 := by rw [Lib.size_eq, hXl]; exact HL.out.2.2.1 _ (List.getElem_mem _)
    have i1 : (j : Int) < (N : Int) := by omega
    have i0 : (0 : Int) ≤ (j : Int) := by omega
    have htk : L.take (j + 1) = L.take j ++ [L[j]'(by omega)] := List.take_succ_eq_append_getElem (by omega)
    have HLT := hid hlt
    have HJ := hid (And.intro htk (And.intro hXl (And.intro hacc (And.intro hmk (And.intro hb hbw)))))
    clear hX hXl htk hacc hmk hb hbw
    by_cases h0 : X.size = 0
    ·obtain rfl : X = ⟨#[]⟩ := jv (kC.1 h0)
     have hm : mute (L[j]'(by omega)) := by rw [← HJ.out.2.1]; exact .inl rfl
     have HM := hid hm
     clear hm
     go_wp2_with fail
     go_roundw
     case rel => exact ⟨j + 1, rs, by go_num, by have := HLT.out; omega, by rw [HJ.out.1]; exact cz HM.out HJ.out.2.2.1, HJ.out.2.2.2.1, HJ.out.2.2.2.2.1⟩
     case measure => have := HLT.out; simp [intOf]; omega
    ·have t0 : (0 : Int) < (X.size : Int) := by omega
     have hne : (X.toList == ([] : List UInt8)) = false := by
      rw [ByteArray.toList_eq, beq_eq_false_iff_ne]
      intro e
      exact h0 (kC.2 e)
     have HMI := hid (wX h0)
     go_wp2_with fail
     ·rename_i h35
      have HM : Hid (mute (L[j]'(by omega))) := hid (by rw [← HJ.out.2.1]; exact HMI.out.2 (by simpa using h35))
      go_roundw
      case rel => exact ⟨j + 1, rs, by go_num, by have := HLT.out; omega, by rw [HJ.out.1]; exact cz HM.out HJ.out.2.2.1, HJ.out.2.2.2.1, HJ.out.2.2.2.2.1⟩
      case measure => have := HLT.out; simp [intOf]; omega
     ·have h35 : ¬ ((X[0].toNat : Nat) : Int) = 35 := by first | assumption | (intro e; simp_all)
      have HM : Hid (¬ mute (L[j]'(by omega))) := hid (by rw [← HJ.out.2.1]; exact fun e => h35 (HMI.out.1 e))
      have HLN := hid (oq X wr (by omega))
      rw [HJ.out.2.1] at HLN
      refine HLN.out.mono ?_
      rintro e w2 ⟨v, rfl, hv, hb2⟩
      obtain ⟨k0, k1, k2, k3, k4, k5, k6, k7, rfl, _⟩ := hv.conc
      have hz2 := hb2.size
      cases hq : aM (L[j]'(by omega)) with
      | none =>
       rw [show qB none = 50 from rfl]
       have HQ := hid hq
       have HB2 := hid hb2
       clear hq hb2 hv t0 hne h35
       go_wp2_with fail
       go_ret3
       refine ⟨.slice none 0 0, j + 1, 50, [], by simp, ?_, .inl ⟨rfl, rfl⟩, (HJ.out.2.2.2.2.2.trans (HB2.out.mono (by omega))).alloc (by omega) _⟩
       have hL : L = L.take j ++ (L[j]'(by omega)) :: L.drop (j + 1) := by rw [List.getElem_cons_drop, List.take_append_drop]
       rw [← HL.out.1, hL, lq HJ.out.2.2.1 HM.out HQ.out, List.length_take, Nat.min_eq_left (by omega)]
      | some q =>
       rw [show qB (some q) = 0 from rfl]
       rw [hq] at hv
       have hv : aI w2 (fun b => wr.heap.size ≤ b) true q _ := hv
       obtain ⟨ys, hi, hh, hown, hrs⟩ := HJ.out.2.2.2.1
       obtain ⟨sa, sc, rfl⟩ := au hown
       obtain ⟨i0', hi0, hz0, hz1, hz2'⟩ := info_parts wW
       have hrl := kr HJ.out.2.2.1
       rw [List.length_take, Nat.min_eq_left (by omega)] at hrl
       have hown' := ownsRow_below hown hb2 nl
       have q7 : W1.heap.size ≤ w2.heap.size := by omega
       have q65 : rs.length + 1 ≤ 1000 := by omega
       have HH := hid (And.intro hh (And.intro hown hrs))
       have HB2 := hid hb2
       have HV := hid (And.intro hv hq)
       clear hown hh hrs hb2 hv hq t0 hne h35 cX
       go_wp2_with (at_builtin; go_loud (refine wpList_append_lies _ rfl (.tmp 56) (.tmp 58) 23 rfl W1.heap.size 65 i0' _ 11 120 Tryz.underlying23 hi0 hz0 hz1 hz2' rfl (by omega) (.slice sa rs.length sc) rs.length ys rfl ((hown'.alloc _).alloc _) ⟨w2.heap.size + 1, 0, none⟩ 1 1 [.int .i64 q.k, .int .u64 q.t, .int .u64 q.x, .int .u64 q.w, .int .u64 q.n, .int .u64 q.v, .int .i64 k0, .int .u64 k1, .int .u64 k2, .slice k3 k4 k5, .slice k6 q.es.length k7] rfl rfl (World.news_of_block (cs := #[.int .i64 q.k, .int .u64 q.t, .int .u64 q.x, .int .u64 q.w, .int .u64 q.n, .int .u64 q.v, .int .i64 k0, .int .u64 k1, .int .u64 k2, .slice k3 k4 k5, .slice k6 q.es.length k7]) (t := 65) (fr := (0, 0)) (aa _ _ _ (by simp))) (by simp [Value.oneCell']) (by omega) (by unfold maxLen; omega) (by omega) (by rw [World.size_alloc, World.size_alloc]; omega) (w2.heap.size + 1 + 1) (by simp) ?_); intro gg' gcap w4 hown2 hgrow hat hlt2)
       have hob := HH.out.2.1.lt
       have HG := hid (And.intro hown2 (And.intro hgrow hat))
       clear hown2 hgrow hat hown'
       go_wp2_with fail
       go_roundw
       case rel =>
        refine ⟨j + 1, rs ++ [q], by go_num, by have := HLT.out; omega, by rw [HJ.out.1]; exact iT HM.out HV.out.2 HJ.out.2.2.1, aS.push' HH.out.1 HH.out.2.1 HH.out.2.2 HB2.out nl HV.out.1 ((br.alloc nl _).alloc (by simp) _) HG.out.2.1 HG.out.1 (HG.out.2.2.imp id (by omega)), ?_⟩
        have hz3 := HG.out.2.1.size
        simp only [World.size_alloc] at hz3
        exact HJ.out.2.2.2.2.1.trans (((((HB2.out.mono hzw).alloc (by omega) _).alloc (by simp; omega) _)).grown HG.out.2.1 (by simp; omega) (fun k hk => by have := hob k hk; omega))
       case measure => have := HLT.out; simp [intOf]; omega
   ·have hj2 : j = N := by omega
    subst hj2
    obtain ⟨sa, sc, rfl⟩ := au hmk.choose_spec.choose_spec.2.1
    have HE := hid (And.intro hacc (And.intro hmk hbw))
    clear hacc hmk hb hbw
    go_wp2_with fail
    go_ret3
    refine ⟨_, j, 0, rs, rfl, ?_, .inr (HE.out.2.1.less (by omega)), HE.out.2.2⟩
    have h1 := HE.out.1
    rw [List.take_of_length_le (by omega)] at h1
    rw [← HL.out.1, mV h1, HN.out]
end Go.Proofs.YtlpgokcapdjgjaaGreatDoor
