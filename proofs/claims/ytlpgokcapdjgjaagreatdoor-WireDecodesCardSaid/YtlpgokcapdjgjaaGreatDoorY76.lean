/- Walks. -/
import Derived.Test.YtlpgokcapdjgjaaGreatDoorY74
import Derived.Test.YtlpgokcapdjgjaaGreatDoorY34
import Derived.RangeFuncBox
import Derived.Shelf.Abstract
import Derived.Shelf.RegionOpen
import Derived.TacticsInMore
import Derived.LoopNIn
import Derived.LoopIn
set_option maxHeartbeats 4000000
set_option maxRecDepth 100000
namespace Go.Proofs.YtlpgokcapdjgjaaGreatDoor
open Go.RowKit Go Go.Shelf
set_option linter.unusedVariables false
set_option linter.unusedSimpArgs false
attribute [local go_sem] Oper.semAt_some
def dz (x : List UInt8) : List UInt8 := if x.getLast? = some 10 then x.dropLast else x
theorem tJ (x : List UInt8) : dz (x ++ [10]) = x := by unfold dz; simp
theorem Da {x : List UInt8} (h : (10 : UInt8) ∉ x) : dz x = x := by
 unfold dz;rw [if_neg];intro e;exact h (List.mem_of_getLast? e)
abbrev Pc := { x : ByteArray // x.size ≤ 50000 }
def pcl (pre : List Pc) : List (List UInt8) := pre.map fun x => dz x.1.data.toList
def oC (c : Nat) (w : World) : Nat := match w.cell? ⟨c, 0, none⟩ with
 | some (.string r) => r.size
 | _ => 0
theorem EA (l : List UInt8) : (∃ x t, l = x ++ 10 :: t ∧ (10 : UInt8) ∉ x ∧ Lib.indexByte l 10 = (x.length : Int)) ∨ ((10 : UInt8) ∉ l ∧ Lib.indexByte l 10 = -1) := by
 rw [← Lib.index_one l 10];by_cases h : (10 : UInt8) ∈ l
 ·obtain ⟨x, t, h1, h2, h3⟩ := iy h
  exact .inl ⟨x, t, h1, h2, h3⟩
 ·refine .inr ⟨h, ?_⟩
  have := index_one 10 l;rw [if_neg h] at this;exact this
theorem zb (s : ByteArray) (w : World) : Calls Tryz.prog 30 #[.string s] w fun e w' => e = .returned (.func (.func 56) #[] #[.pointer (some ⟨w.1.size, 0, none⟩)]) ∧ w' = w.alloc (.cells #[.string s] 9) := by
 go_enter Tryz.func30, Tryz.ntmps30
 go_wp2_with fail;go_ret
 exact ⟨rfl, rfl⟩
theorem Db (n : Nat) (hn : 1 ≤ n) (s : ByteArray) (hs : s.size ≤ 50000) (c : Nat) (w : World) (hc : w.1[c]? = some (.cells #[.string s] 9 (0, 0))) :
  GH Fence.wide n Tryz.prog 56 #[.pointer (some ⟨c, 0, none⟩)] (fun x : Pc => #[Value.string x.1]) (fun _ x _ => dz x.1.data.toList ∈ lns s.data.toList) (fun _ W W' => W'.1[c]? = W.1[c]?) (fun xs => pcl xs = lns s.data.toList) (fun pre => ∃ t, pcl pre ++ t = lns s.data.toList) s.size (fun _ => c) w := by
 intro l J Jx W hW hJ hJx hY h0;have hcW : W.1[c]? = some (.cells #[.string s] 9 (0, 0)) := (hW.block c (ak hc).1).trans hc;have HY := hid hY;have HJ := hid (au hJ hJx);clear hY hJ hJx hc hW;refine callsIn_of_wp Tryz.func56 rfl trivial ?_ rfl;simp only [Tryz.ntmps56, List.size_toArray, aJ, List.length_nil, Nat.reduceAdd, Nat.reduceSub, Array.replicate_succ, Array.replicate_zero, List.push_toArray, List.append_toArray, List.nil_append, List.cons_append]
 gi_wp2
 gi_loopw [] (fun wr => ∃ (pre : List Pc) (r : ByteArray), wr.1[c]? = some (.cells #[.string r] 9 (0, 0)) ∧ r.size ≤ 50000 ∧ pcl pre ++ lns r.data.toList = lns s.data.toList ∧ pre.length + r.size ≤ s.size ∧ J pre wr) (fun wr => oC c wr)
 case atStart => exact ⟨[], s, hcW, hs, rfl, by simp, h0⟩
 case round =>
  obtain ⟨pre, r, hr, hrs, hl, hle, hj⟩ := hrel;have cl : wr.cell? ⟨c, 0, none⟩ = some (.string r) := by rw [ax wr _ 0 _ _ _ hr]; rfl
  have fl : wr.frozen? ⟨c, 0, none⟩ = false := by rw [aA wr _ 0 _ _ hr]
  by_cases h0r : r.size = 0
  ·have hn0 : r.data.toList = [] := List.eq_nil_of_length_eq_zero (by rw [← Lib.size_eq]; exact h0r)
   have t1 : ¬ (0 : Int) < (r.size : Int) := (by omega);rw [hn0, Bp, List.append_nil] at hl
   gi_wp2
   go_end0
   exact ⟨⟨_, rfl⟩, .inl ⟨pre, hl, hj⟩⟩
  ·have t1 : (0 : Int) < (r.size : Int) := by omega
   rcases EA r.data.toList with ⟨x, t, hx, hnx, hi⟩ | ⟨hno, hi⟩
   ·have hi' : Lib.indexByte r.data.toList ((10 : Int).toNat.toUInt8) = (x.length : Int) := hi
    have hxl : x.length + 1 + t.length = r.size := (by rw [Lib.size_eq, hx]; simp; omega);have t2 : (0 : Int) ≤ (x.length : Int) := by omega
    gi_wp2
    refine ⟨trivial, (callsIn_wide.2 (Tryz.strings_IndexByte r 10 _)).mono ?_⟩;rintro e w' ⟨rfl, rfl⟩;rw [hi']
    gi_wp2
    have b1 : (x.length : Int) + 1 ≤ (r.size : Int) := (by omega);have b0 : (0 : Int) ≤ (x.length : Int) + 1 := by omega
    gi_region
    have e1 : (r.extract 0 (x.length + 1)).data.toList = x ++ [10] := by
     rw [ByteArray.data_extract, Array.toList_extract, hx, List.extract_eq_take_drop, List.drop_zero, Nat.sub_zero];simp [List.take_append];exact ah (by omega)
    have e2 : (r.extract (x.length + 1) r.size).data.toList = t := by
     rw [ByteArray.data_extract, Array.toList_extract, hx];have hd : (x ++ 10 :: t).drop (x.length + 1) = t := (by simp);rw [List.extract_eq_take_drop, hd, ah (by omega)]
    have s1 : (r.extract 0 (x.length + 1)).size = x.length + 1 := (by rw [Lib.size_eq, e1]; simp);have s2 : (r.extract (x.length + 1) r.size).size = t.length := (by rw [Lib.size_eq, e2]);generalize r.extract 0 (x.length + 1) = P1 at e1 s1 ⊢;generalize r.extract (x.length + 1) r.size = R2 at e2 s2 ⊢;have hp1 : P1.size ≤ 50000 := (by omega);have h2 : Hid ((w'.setCell ⟨c, 0, none⟩ (.string R2)).drew.1[c]? = some (.cells #[.string R2] 9 (0, 0)) ∧ Tc c w' (w'.setCell ⟨c, 0, none⟩ (.string R2)).drew) := hid ⟨heap_setCell_same w' c 0 _ _ _ hr, (Tc.set c 0 w' (.string R2)).trans (Tc.of_below br.drew)⟩;generalize (w'.setCell ⟨c, 0, none⟩ (.string R2)).drew = W2 at h2 ⊢;have hl2 : pcl (pre ++ [⟨P1, hp1⟩]) ++ lns R2.data.toList = lns s.data.toList := by
     rw [← hl, hx, DI t hnx, e2];simp [pcl, e1, tJ]
    obtain ⟨fn, tmps, assign, body, hy, hR⟩ := HY.out pre ⟨P1, hp1⟩ W2 (HJ.out.1 _ _ _ hj h2.out.2) (by omega) (ak h2.out.1).1 (by rw [← hl2]; simp [pcl]);have hle2 : (pre ++ [(⟨P1, hp1⟩ : Pc)]).length + R2.size ≤ s.size := (by rw [aI]; simp only [aJ, List.length_nil]; omega);have hms : oC c w' = r.size := (by unfold oC; rw [cl]);clear hi hi' b0 b1 t1 t2
    gi_wp2
    refine hR.mono ?_;rintro e W3 (⟨rfl, hJ3, hk3⟩ | ⟨rfl, hJx3⟩)
    ·have h3 : W3.1[c]? = some (.cells #[.string R2] 9 (0, 0)) := hk3.trans h2.out.1
     have hm3 : oC c W3 = R2.size := by unfold oC; rw [ax W3 _ 0 _ _ _ h3]; rfl
     gi_wp2
     go_roundw
     case rel => exact ⟨_, R2, h3, by omega, hl2, hle2, hJ3⟩
     case measure => rw [hm3, hms]; omega
    ·gi_wp2
     refine aC (results_none rfl _ _ _) rfl ?_;exact ⟨⟨_, rfl⟩, .inr ⟨_, ⟨_, hl2⟩, hJx3⟩⟩
   ·have hi' : Lib.indexByte r.data.toList ((10 : Int).toNat.toUInt8) = -1 := hi
    gi_wp2
    refine ⟨trivial, (callsIn_wide.2 (Tryz.strings_IndexByte r 10 _)).mono ?_⟩;rintro e w' ⟨rfl, rfl⟩;rw [hi'];have h2 : Hid ((w'.setCell ⟨c, 0, none⟩ (.string ⟨#[]⟩)).1[c]? = some (.cells #[.string ⟨#[]⟩] 9 (0, 0)) ∧ Tc c w' (w'.setCell ⟨c, 0, none⟩ (.string ⟨#[]⟩))) := hid ⟨heap_setCell_same w' c 0 _ _ _ hr, Tc.set c 0 w' (.string ⟨#[]⟩)⟩;have hne : r.data.toList ≠ [] := fun e => h0r (by rw [Lib.size_eq, e]; rfl)
    have hl2 : pcl (pre ++ [⟨r, hrs⟩]) ++ lns (⟨#[]⟩ : ByteArray).data.toList = lns s.data.toList := by
     rw [← hl, Fp hno hne];simp [pcl, Da hno, Bp]
    obtain ⟨fn, tmps, assign, body, hy, hR⟩ := HY.out pre ⟨r, hrs⟩ _ (HJ.out.1 _ _ _ hj h2.out.2) (by omega) (ak h2.out.1).1 (by rw [← hl2]; simp [pcl]);have hle2 : (pre ++ [(⟨r, hrs⟩ : Pc)]).length + (⟨#[]⟩ : ByteArray).size ≤ s.size := (by rw [aI, show (ByteArray.mk #[]).size = 0 from rfl]; simp only [aJ, List.length_nil]; omega);have hms : oC c w' = r.size := (by unfold oC; rw [cl]);clear hi hi'
    gi_wp2
    refine hR.mono ?_;rintro e W3 (⟨rfl, hJ3, hk3⟩ | ⟨rfl, hJx3⟩)
    ·have h3 : W3.1[c]? = some (.cells #[.string ⟨#[]⟩] 9 (0, 0)) := hk3.trans h2.out.1
     have hm3 : oC c W3 = 0 := by unfold oC; rw [ax W3 _ 0 _ _ _ h3]; rfl
     gi_wp2
     go_roundw
     case rel => exact ⟨_, ⟨#[]⟩, h3, by decide, hl2, hle2, hJ3⟩
     case measure => rw [hm3, hms]; omega
    ·gi_wp2
     refine aC (results_none rfl _ _ _) rfl ?_;exact ⟨⟨_, rfl⟩, .inr ⟨_, ⟨_, hl2⟩, hJx3⟩⟩
theorem ze (x : ByteArray) (y : List UInt8) (c : UInt8) (h : x.data.toList = y ++ [c]) : (x.extract (x.size - 1) x.size).data.toList = [c] ∧ (x.extract 0 (x.size - 1)).data.toList = y := by
 have hs : x.size = y.length + 1 := by rw [Lib.size_eq, h]; simp
 constructor
 ·rw [ByteArray.data_extract, Array.toList_extract, h, List.extract_eq_take_drop, hs]
  simp
 ·rw [ByteArray.data_extract, Array.toList_extract, h, List.extract_eq_take_drop, hs]
  simp
theorem tK {x y : ByteArray} (h : x.data.toList = y.data.toList) : x = y := by
 cases x; cases y
 simp only [ByteArray.mk.injEq];exact Array.toList_inj.1 h
theorem vN (x : ByteArray) (w : World) (hx : x.size ≤ 100000) : Calls Tryz.prog 96 #[.string x, .string ⟨#[10]⟩] w fun e w' => e = .returned (.bool (decide (x.data.toList.getLast? = some 10))) ∧ w' = w := by
 rcases List.eq_nil_or_concat x.data.toList with h | ⟨y, c, h⟩
 ·have h0 : x.size = 0 := by rw [Lib.size_eq, h]; rfl
  rw [h];obtain rfl : x = ⟨#[]⟩ := tK h
  go_enter Tryz.func96, Tryz.ntmps96
  go_wp2_with fail;go_ret
  exact ⟨rfl, rfl⟩
 ·rw [List.concat_eq_append] at h
  have hs : x.size = y.length + 1 := by rw [Lib.size_eq, h]; simp
  obtain ⟨h1, _⟩ := ze x y c h;have t0 : (1 : Int) ≤ (x.size : Int) := by omega
  have t1 : (0 : Int) ≤ (x.size : Int) - 1 := by omega
  have t2 : ((x.size : Int) - 1) ≤ (x.size : Int) := by omega
  have t3 : ((x.size : Int) - 1).toNat = x.size - 1 := by omega
  have hd : ((x.extract (x.size - 1) x.size).toList == [10]) = decide (x.data.toList.getLast? = some 10) := by
   rw [ByteArray.toList_eq, h1, h, Bool.eq_iff_iff];simp
  have HD := hid hd;clear hd h1 h hs
  go_enter Tryz.func96, Tryz.ntmps96
  go_wp2_with fail;go_ret
  refine ⟨?_, rfl⟩;rw [← HD.out];rfl
theorem zg (x : ByteArray) (w : World) (hx : x.size ≤ 100000) : Calls Tryz.prog 58 #[.string x, .string ⟨#[10]⟩] w fun e w' => e = .returned (.string ⟨(dz x.data.toList).toArray⟩) ∧ w' = w := by
 by_cases h : x.data.toList.getLast? = some 10
 ·obtain ⟨y, hy⟩ : ∃ y, x.data.toList = y ++ [10] := by
   rcases List.eq_nil_or_concat x.data.toList with e | ⟨y, c, e⟩
   ·rw [e] at h; cases h
   ·rw [List.concat_eq_append] at e
    rw [e] at h;simp only [List.getLast?_append, List.getLast?_singleton, Option.some_or, Option.some.injEq] at h;subst h;exact ⟨y, e⟩
  have hs : x.size = y.length + 1 := by rw [Lib.size_eq, hy]; simp
  obtain ⟨_, h2⟩ := ze x y 10 hy;have HL : Hid (dz x.data.toList = (x.extract 0 (x.size - 1)).data.toList) := hid (by rw [h2, hy, tJ]);have HD := hid h;have t0 : (1 : Int) ≤ (x.size : Int) := by omega
  have t1 : (0 : Int) ≤ (x.size : Int) - 1 := by omega
  have t2 : ((x.size : Int) - 1) ≤ (x.size : Int) := by omega
  have t3 : ((x.size : Int) - 1).toNat = x.size - 1 := by omega
  clear h hy hs h2
  go_enter Tryz.func58, Tryz.ntmps58
  go_wp2_with fail;refine (vN x w hx).mono ?_;rintro e w1 ⟨rfl, rfl⟩;rw [decide_eq_true HD.out];go_wp2_with fail;go_ret
  refine ⟨?_, rfl⟩;rw [HL.out];rfl
 ·have HL : Hid (dz x.data.toList = x.data.toList) := hid (by unfold dz; rw [if_neg h])
  have HD := hid h;clear h
  go_enter Tryz.func58, Tryz.ntmps58
  go_wp2_with fail;refine (vN x w hx).mono ?_;rintro e w1 ⟨rfl, rfl⟩;rw [decide_eq_false HD.out];go_wp2_with fail;go_ret
  refine ⟨?_, rfl⟩;rw [HL.out];rfl
theorem AU (x : ByteArray) (w : World) (hx : x.size ≤ 100000) : Calls Tryz.prog 31 #[.string x, .string ⟨#[10]⟩] w fun e w' => e = .returned (.string ⟨(dz x.data.toList).toArray⟩) ∧ w' = w := by
 go_enter Tryz.func31, Tryz.ntmps31
 go_wp2_with fail;refine (zg x w hx).mono ?_;rintro e w1 ⟨rfl, rfl⟩;go_wp2_with fail;go_ret
 exact ⟨rfl, rfl⟩
attribute [local go_sem] Oper.semAt_some
structure WL (w : World) (T : TypeId) (pre : List Pc) (sv : Value) (rs : List Rec) (W : World) : Prop where
 bel : Below w.1.size w W
 l : W.1[w.1.size]? = some (.cells #[sv] 27 (0, 0))
 n : W.1[w.1.size + 1]? = some (.cells #[.int .i64 (pre.length : Nat)] 3 (0, 0))
 e : W.1[w.1.size + 2]? = some (.cells #[.int .i64 0] 24 (0, 0))
 acc : jD (pcl pre) = some rs
 row : (sv = .slice none 0 0 ∧ rs = []) ∨ bE W (w.1.size + 6) T sv rs
theorem WL.tc {w : World} {T : TypeId} {pre : List Pc} {sv : Value} {rs : List Rec} {W W' : World} {b : Nat} (h : WL w T pre sv rs W) (ht : Tc b W W') (h1 : w.1.size + 3 ≤ b) (h2 : b < w.1.size + 6) : WL w T pre sv rs W' := by
 have l2 := (ak h.e).1;exact ⟨ik h.bel ht (by omega) h.bel.size, (ht.keep _ (by omega) (by omega)).trans h.l, (ht.keep _ (by omega) (by omega)).trans h.n, (ht.keep _ l2 (by omega)).trans h.e, h.acc, h.row.imp id (fun m => m.tc ht h2)⟩
theorem WL.skip {w : World} {T : TypeId} {pre : List Pc} {sv : Value} {rs : List Rec} {W : World} (h : WL w T pre sv rs W) (x : Pc) (hm : mute (dz x.1.data.toList)) : WL w T (pre ++ [x]) sv rs (W.setCell ⟨w.1.size + 1, 0, none⟩ (.int .i64 ((pre.length : Nat) + 1))) := by
 have hn := aM (o := 0) (v := .int .i64 ((pre.length : Nat) + 1)) h.n rfl;refine ⟨h.bel.setCell (by simp) _, (ay _ _ _ _ (by show w.1.size ≠ w.1.size + 1; omega)).trans h.l, ?_, (ay _ _ _ _ (by show w.1.size + 2 ≠ w.1.size + 1; omega)).trans h.e, ?_, h.row.imp id (fun m => m.tc (Tc.set _ 0 _ _) (by omega))⟩
 ·rw [hn]
  simp
 ·have : pcl (pre ++ [x]) = pcl pre ++ [dz x.1.data.toList] := by simp [pcl]
  rw [this];exact iY hm h.acc
theorem Kr.set {b c : Nat} {W : World} {v : Value} (h : c < b) : Kr b W (W.setCell ⟨c, 0, none⟩ v) := ⟨ay _ _ _ _ (by show b ≠ c; omega), ay _ _ _ _ (by show b + 1 ≠ c; omega)⟩
structure WX (w : World) (pre : List Pc) (W : World) : Prop where
 bel : Below w.1.size w W
 l : W.1[w.1.size]? = some (.cells #[.slice none 0 0] 27 (0, 0))
 n : W.1[w.1.size + 1]? = some (.cells #[.int .i64 (pre.length : Nat)] 3 (0, 0))
 e : W.1[w.1.size + 2]? = some (.cells #[.int .i64 50] 24 (0, 0))
 bad : ∃ a x rs, pcl pre = a ++ [x] ∧ jD a = some rs ∧ ¬ mute x ∧ eT x = none
theorem WX.tc {w : World} {pre : List Pc} {W W' : World} {b : Nat} (h : WX w pre W) (ht : Tc b W W') (h1 : w.1.size + 3 ≤ b) : WX w pre W' := by
 have l2 := (ak h.e).1;exact ⟨ik h.bel ht (by omega) h.bel.size, (ht.keep _ (by omega) (by omega)).trans h.l, (ht.keep _ (by omega) (by omega)).trans h.n, (ht.keep _ l2 (by omega)).trans h.e, h.bad⟩
theorem zh : (Tryz.prog.info? 73).map (fun i => (i.zero, i.size, i.bytes)) = some (some (.agg #[.int .i64 0, .int .u64 0, .int .u64 0, .int .u64 0, .int .u64 0, .int .u64 0, .int .i64 0, .int .u64 0, .int .u64 0, .slice none 0 0, .slice none 0 0]), 11, 120) := by kernel_rfl
def Dc (T : TypeId) (base : Nat) (s : ByteArray) (w : World) (e : Ending) (w' : World) : Prop :=
 ∃ (sv : Value) (n : Nat) (err : Int) (rs : List Rec), e = .returned (.tuple #[sv, .int .i64 (n : Nat), .int .i64 err]) ∧ gy (lns s.data.toList) 0 [] = (rs, n, err) ∧ ((sv = .slice none 0 0 ∧ rs = []) ∨ bE w' base T sv rs) ∧ Below w.1.size w w'
theorem EC {W : World} {a b c : Nat} {x y z : Value} {k : Nat} (h : k ≠ a ∧ k ≠ b ∧ k ≠ c) : ((((W.setCell ⟨a, 0, none⟩ x).setCell ⟨b, 0, none⟩ y).setCell ⟨c, 0, none⟩ z).drew).1[k]? = W.1[k]? :=
 (ay _ _ _ _ h.2.2).trans ((ay _ _ _ _ h.2.1).trans (ay _ _ _ _ h.1))
theorem uO (s : ByteArray) (hLine : ∀ L : ByteArray, L.data.toList ∈ lns s.data.toList → ¬ mute L.data.toList → L.size ≤ 50000 → ∀ w : World, Lq w.1.size w → Calls Tryz.prog 32 #[.string L] w (lC (eT L.data.toList) w)) (w : World) (hs : s.size ≤ 50000) (hq : Lq w.1.size w) : Calls Tryz.prog 9 #[.string s] w (Dc 73 (w.1.size + 6) s w) := by
 have HLP := hid hLine;clear hLine;have HQ := hid hq;clear hq;refine (callsIn_wide (n := 6)).1 ?_;refine callsIn_of_wp_marks Tryz.func9 rfl trivial ?_ rfl;simp only [Tryz.ntmps9, List.size_toArray, aJ, List.length_nil, Nat.reduceAdd, Nat.reduceSub, Array.replicate_succ, Array.replicate_zero, List.push_toArray, List.append_toArray, List.nil_append, List.cons_append]
 gi_wp2
 refine ⟨trivial, (callsIn_wide.2 (zb s _)).mono ?_⟩;rintro e w' ⟨rfl, rfl⟩;have hX0 : Below w.1.size w ((((w.alloc (.cells #[.slice none 0 0] 27)).alloc (.cells #[.int .i64 0] 3)).alloc (.cells #[.int .i64 0] 24)).alloc (.cells #[.string s] 9)) := ((((br.alloc nl _).alloc (by simp) _).alloc (by simp; omega) _).alloc (by simp; omega) _);have hXl : ((((w.alloc (.cells #[.slice none 0 0] 27)).alloc (.cells #[.int .i64 0] 3)).alloc (.cells #[.int .i64 0] 24)).alloc (.cells #[.string s] 9)).1[w.1.size]? = some (.cells #[.slice none 0 0] 27 (0, 0)) := (az _ _ _ (by simp <;> omega)).trans ((az _ _ _ (by simp <;> omega)).trans ((az _ _ _ (by simp <;> omega)).trans (aK _ _ _ rfl)));have hXn : ((((w.alloc (.cells #[.slice none 0 0] 27)).alloc (.cells #[.int .i64 0] 3)).alloc (.cells #[.int .i64 0] 24)).alloc (.cells #[.string s] 9)).1[w.1.size + 1]? = some (.cells #[.int .i64 0] 3 (0, 0)) := (az _ _ _ (by simp <;> omega)).trans ((az _ _ _ (by simp <;> omega)).trans (aK _ _ _ (by simp)));have hXe : ((((w.alloc (.cells #[.slice none 0 0] 27)).alloc (.cells #[.int .i64 0] 3)).alloc (.cells #[.int .i64 0] 24)).alloc (.cells #[.string s] 9)).1[w.1.size + 2]? = some (.cells #[.int .i64 0] 24 (0, 0)) := (az _ _ _ (by simp <;> omega)).trans (aK _ _ _ (by simp));have hXc : ((((w.alloc (.cells #[.slice none 0 0] 27)).alloc (.cells #[.int .i64 0] 3)).alloc (.cells #[.int .i64 0] 24)).alloc (.cells #[.string s] 9)).1[w.1.size + 3]? = some (.cells #[.string s] 9 (0, 0)) := aK _ _ _ (by simp);have hXs : ((((w.alloc (.cells #[.slice none 0 0] 27)).alloc (.cells #[.int .i64 0] 3)).alloc (.cells #[.int .i64 0] 24)).alloc (.cells #[.string s] 9)).1.size = w.1.size + 4 := by simp
 have hce : (((w.alloc (.cells #[.slice none 0 0] 27)).alloc (.cells #[.int .i64 0] 3)).alloc (.cells #[.int .i64 0] 24)).1.size = w.1.size + 3 := by simp
 rw [hce];generalize ((((w.alloc (.cells #[.slice none 0 0] 27)).alloc (.cells #[.int .i64 0] 3)).alloc (.cells #[.int .i64 0] 24)).alloc (.cells #[.string s] 9)) = X at hX0 hXl hXn hXe hXc hXs ⊢
 gi_wp2
 refine BG rfl (by omega) (gf := 56) (lb := #[.pointer (some ⟨w.1.size + 3, 0, none⟩)]) rfl trivial (enters_of Tryz.func56 (by kernel_rfl) rfl)
  (Db (6 - 1) (by omega) s hs (w.1.size + 3) X hXc) ⟨by omega, by omega⟩ (fun h k => k.trans h) (fun W o => World.putObj_heap_other (by omega)) br (fun _ => rfl)
  (fun pre W => ∃ sv rs, WL w 73 pre sv rs W) (fun cd pre W => cd = .ret ∧ WX w pre W) ?hI ?hIx ?h0 (fun x a' W => a' = { tmps := #[.string s, undef, .pointer (some ⟨w.1.size, 0, none⟩), .pointer (some ⟨w.1.size + 1, 0, none⟩), .pointer (some ⟨w.1.size + 1 + 1, 0, none⟩), .string x.1, undef, undef, .string s, .func (.func 56) #[] #[.pointer (some ⟨w.1.size + 3, 0, none⟩)], .string x.1, undef, undef, undef, undef, undef, undef, undef, undef, undef, undef, undef, undef, undef, undef, undef, undef, undef, undef, undef, undef, undef, undef, undef, undef, undef, undef, undef, undef, undef, undef, undef, undef, undef], defers := [] } ∧ dz x.1.data.toList ∈ lns s.data.toList) ?hAx ?assign ?body ?done ?stop
 case hI =>
  rintro b hb pre W W' ⟨sv, rs, h⟩ ht;exact ⟨sv, rs, h.tc ht (by omega) (by omega)⟩
 case hIx =>
  rintro b cd hb pre W W' ⟨h1, h2⟩ ht;exact ⟨h1, h2.tc ht (by omega)⟩
 case hAx =>
  rintro x a' ⟨⟩ W W' h _;exact h
 case h0 => exact ⟨_, [], hX0, hXl, hXn, hXe, rfl, .inl ⟨rfl, rfl⟩⟩
 case assign =>
  rintro l pre x W K hi _ hx hK
  gi_wp2
  exact hK _ _ (Kr.refl _ _) rfl hi ⟨rfl, hx⟩
 case done =>
  rintro xs W hS ⟨sv, rs, h⟩ hK;have c2 : W.cell? ⟨w.1.size, 0, none⟩ = some sv := by rw [ax W _ 0 _ _ _ h.l]; rfl
  have c3 : W.cell? ⟨w.1.size + 1, 0, none⟩ = some (.int .i64 (xs.length : Nat)) := by rw [ax W _ 0 _ _ _ h.n]; rfl
  have c4 : W.cell? ⟨w.1.size + 1 + 1, 0, none⟩ = some (.int .i64 0) := by rw [ax W _ 0 _ _ _ h.e]; rfl
  have f2 : W.frozen? ⟨w.1.size, 0, none⟩ = false := by rw [aA W _ 0 _ _ h.l]
  have f3 : W.frozen? ⟨w.1.size + 1, 0, none⟩ = false := by rw [aA W _ 0 _ _ h.n]
  have f4 : W.frozen? ⟨w.1.size + 1 + 1, 0, none⟩ = false := by rw [aA W _ 0 _ _ h.e]
  obtain ⟨a1, a2, a3, rfl⟩ : ∃ a1 a2 a3, sv = .slice a1 a2 a3 := by
   rcases h.row with ⟨e, _⟩ | ⟨ys, hi, _, ho, _⟩
   ·exact ⟨_, _, _, e⟩
   ·obtain ⟨ad, cp, e⟩ := aQ ho
    exact ⟨_, _, _, e⟩
  gi_wp2
  gi_region
  all_goals gi_wp2
  have hk2 : ((((W.setCell ⟨w.1.size, 0, none⟩ (.slice a1 a2 a3)).setCell ⟨w.1.size + 1, 0, none⟩ (.int .i64 (xs.length : Nat))).setCell ⟨w.1.size + 1 + 1, 0, none⟩ (.int .i64 0)).drew).1[X.1.size]? = some (.deferred (some [])) := (EC ⟨by omega, by omega, by omega⟩).trans hK;refine ⟨by simp, .inl ⟨_, _, rfl, run_takeDeferred hk2, ?_⟩⟩;have hl := (ak h.e).1;have z2 : ((((W.setCell ⟨w.1.size, 0, none⟩ (.slice a1 a2 a3)).setCell ⟨w.1.size + 1, 0, none⟩ (.int .i64 (xs.length : Nat))).setCell ⟨w.1.size + 1 + 1, 0, none⟩ (.int .i64 0)).drew.putObj X.1.size (.deferred none)).1[w.1.size]? = some (.cells #[.slice a1 a2 a3] 27 (0, 0)) :=
   (World.putObj_heap_other (by omega)).trans ((ay _ _ _ _ (by show w.1.size ≠ w.1.size + 1 + 1; omega)).trans ((ay _ _ _ _ (by show w.1.size ≠ w.1.size + 1; omega)).trans (aM h.l rfl)))
  have z3 : ((((W.setCell ⟨w.1.size, 0, none⟩ (.slice a1 a2 a3)).setCell ⟨w.1.size + 1, 0, none⟩ (.int .i64 (xs.length : Nat))).setCell ⟨w.1.size + 1 + 1, 0, none⟩ (.int .i64 0)).drew.putObj X.1.size (.deferred none)).1[w.1.size + 1]? = some (.cells #[.int .i64 (xs.length : Nat)] 3 (0, 0)) :=
   (World.putObj_heap_other (by omega)).trans ((ay _ _ _ _ (by show w.1.size + 1 ≠ w.1.size + 1 + 1; omega)).trans (aM ((ay _ _ _ _ (by show w.1.size + 1 ≠ w.1.size; omega)).trans h.n) rfl))
  have z4 : ((((W.setCell ⟨w.1.size, 0, none⟩ (.slice a1 a2 a3)).setCell ⟨w.1.size + 1, 0, none⟩ (.int .i64 (xs.length : Nat))).setCell ⟨w.1.size + 1 + 1, 0, none⟩ (.int .i64 0)).drew.putObj X.1.size (.deferred none)).1[w.1.size + 2]? = some (.cells #[.int .i64 0] 24 (0, 0)) :=
   (World.putObj_heap_other (by omega)).trans (aM ((ay _ _ _ _ (by show w.1.size + 2 ≠ w.1.size + 1; omega)).trans ((ay _ _ _ _ (by show w.1.size + 2 ≠ w.1.size; omega)).trans h.e)) rfl)
  have hbz : Below w.1.size w ((((W.setCell ⟨w.1.size, 0, none⟩ (.slice a1 a2 a3)).setCell ⟨w.1.size + 1, 0, none⟩ (.int .i64 (xs.length : Nat))).setCell ⟨w.1.size + 1 + 1, 0, none⟩ (.int .i64 0)).drew.putObj X.1.size (.deferred none)) :=
   ik ((((h.bel.setCell nl _).setCell (by simp) _).setCell (by simp; omega) _).drew) (Tc.put _ _) (by omega) (by have := h.bel.size; simpa using this)
  have hmz : (Value.slice a1 a2 a3 = .slice none 0 0 ∧ rs = []) ∨ bE ((((W.setCell ⟨w.1.size, 0, none⟩ (.slice a1 a2 a3)).setCell ⟨w.1.size + 1, 0, none⟩ (.int .i64 (xs.length : Nat))).setCell ⟨w.1.size + 1 + 1, 0, none⟩ (.int .i64 0)).drew.putObj X.1.size (.deferred none)) (w.1.size + 6) 73 (.slice a1 a2 a3) rs :=
   h.row.imp id (fun m => ((((m.tc (Tc.set _ 0 _ _) (by omega)).tc (Tc.set _ 0 _ _) (by omega)).tc (Tc.set _ 0 _ _) (by omega)).tc (Tc.of_below (c := w.1.size) br.drew) (by omega)).tc (Tc.put _ _) (by omega))
  have hpl : (pcl xs).length = xs.length := by simp [pcl]
  have hts : gy (lns s.data.toList) 0 [] = (rs, xs.length, 0) := by rw [← hS, ← hpl]; exact Ck h.acc
  generalize ((((W.setCell ⟨w.1.size, 0, none⟩ (.slice a1 a2 a3)).setCell ⟨w.1.size + 1, 0, none⟩ (.int .i64 (xs.length : Nat))).setCell ⟨w.1.size + 1 + 1, 0, none⟩ (.int .i64 0)).drew.putObj X.1.size (.deferred none)) = Z at z2 z3 z4 hbz hmz ⊢;have y2 : Z.cell? ⟨w.1.size, 0, none⟩ = some (.slice a1 a2 a3) := by rw [ax Z _ 0 _ _ _ z2]; rfl
  have y3 : Z.cell? ⟨w.1.size + 1, 0, none⟩ = some (.int .i64 (xs.length : Nat)) := by rw [ax Z _ 0 _ _ _ z3]; rfl
  have y4 : Z.cell? ⟨w.1.size + 1 + 1, 0, none⟩ = some (.int .i64 0) := by rw [ax Z _ 0 _ _ _ z4]; rfl
  exact ⟨.tuple #[.slice a1 a2 a3, .int .i64 (xs.length : Nat), .int .i64 0], by simp [results, Tryz.results9, go_sem, y2, y3, y4], _, _, _, rs, rfl, hts, hmz, hbz⟩
 case stop =>
  rintro cd pre W ⟨t, ht⟩ ⟨rfl, h⟩ hK
  gi_wp2
  refine ⟨by simp, .inl ⟨_, _, rfl, run_takeDeferred hK, ?_⟩⟩;have z2 : (W.putObj X.1.size (.deferred none)).1[w.1.size]? = some (.cells #[.slice none 0 0] 27 (0, 0)) := (World.putObj_heap_other (by omega)).trans h.l;have z3 : (W.putObj X.1.size (.deferred none)).1[w.1.size + 1]? = some (.cells #[.int .i64 (pre.length : Nat)] 3 (0, 0)) := (World.putObj_heap_other (by omega)).trans h.n;have z4 : (W.putObj X.1.size (.deferred none)).1[w.1.size + 2]? = some (.cells #[.int .i64 50] 24 (0, 0)) := (World.putObj_heap_other (by omega)).trans h.e;have hbz : Below w.1.size w (W.putObj X.1.size (.deferred none)) := ik h.bel (Tc.put _ _) (by omega) h.bel.size;obtain ⟨a, x, rs, e1, e2, e3, e4⟩ := h.bad;have hpl : pre.length = a.length + 1 := by
   have : (pcl pre).length = pre.length := (by simp [pcl]);rw [← this, e1];simp
  have hts : gy (lns s.data.toList) 0 [] = ([], pre.length, 50) := by
   rw [← ht, e1, List.append_assoc, List.singleton_append, Aa e2 e3 e4, hpl]
  generalize W.putObj X.1.size (.deferred none) = Z at z2 z3 z4 hbz ⊢;have y2 : Z.cell? ⟨w.1.size, 0, none⟩ = some (.slice none 0 0) := by rw [ax Z _ 0 _ _ _ z2]; rfl
  have y3 : Z.cell? ⟨w.1.size + 1, 0, none⟩ = some (.int .i64 (pre.length : Nat)) := by rw [ax Z _ 0 _ _ _ z3]; rfl
  have y4 : Z.cell? ⟨w.1.size + 1 + 1, 0, none⟩ = some (.int .i64 50) := by rw [ax Z _ 0 _ _ _ z4]; rfl
  exact ⟨.tuple #[.slice none 0 0, .int .i64 (pre.length : Nat), .int .i64 50], by simp [results, Tryz.results9, go_sem, y2, y3, y4], _, _, _, [], rfl, hts, .inl ⟨rfl, rfl⟩, hbz⟩
 case body =>
  rintro l pre x a' W hW ⟨sv, rs, h⟩ ⟨rfl, hmem⟩ hlen;have HMEM := hid hmem;clear hmem;have c3 : W.cell? ⟨w.1.size + 1, 0, none⟩ = some (.int .i64 (pre.length : Nat)) := by rw [ax W _ 0 _ _ _ h.n]; rfl
  have f3 : W.frozen? ⟨w.1.size + 1, 0, none⟩ = false := by rw [aA W _ 0 _ _ h.n]
  gi_wp2
  refine ⟨trivial, (CallsIn.inRound l (callsIn_wide.2 (AU x.1 _ (by have := x.2; omega)))).mono ?_⟩;rintro e w' ⟨rfl, rfl⟩;obtain ⟨L, hL⟩ : ∃ L : ByteArray, L = ⟨(dz x.1.data.toList).toArray⟩ := ⟨_, rfl⟩;have hLl : L.data.toList = dz x.1.data.toList := by rw [hL]
  rw [← hL];have HL := hid hLl;clear hL hLl;by_cases h0 : L.size = 0
  ·obtain rfl : L = ⟨#[]⟩ := tK (List.eq_nil_of_length_eq_zero (by rw [← Lib.size_eq]; exact h0))
   have hm : mute (dz x.1.data.toList) := .inl (by rw [← HL.out])
   gi_wp2
   exact ⟨Kr.set (by omega), ay _ _ _ _ (by show w.1.size + 3 ≠ w.1.size + 1; omega), sv, rs, h.skip x hm⟩
  ·have t0 : (0 : Int) < (L.size : Int) := by omega
   have hne : (L.toList == ([] : List UInt8)) = false := by
    rw [ByteArray.toList_eq, beq_eq_false_iff_ne];intro e;exact h0 (by rw [Lib.size_eq, e]; rfl)
   gi_wp2
   ·rename_i h35
    have hm : mute (dz x.1.data.toList) := .inr (by
     have e : L.data.toList.head? = some L[0] := by
      rw [List.head?_eq_getElem?, af (by rw [← Lib.size_eq]; omega)];rfl
     rw [← HL.out, e]
     congr 1
     have h3 : ((L[0].toNat : Nat) : Int) = 35 := (by simpa using h35);exact UInt8.toNat_inj.1 (show L[0].toNat = 35 by omega))
    exact ⟨Kr.set (by omega), ay _ _ _ _ (by show w.1.size + 3 ≠ w.1.size + 1; omega), sv, rs, h.skip x hm⟩
   ·have h35 : ¬ ((L[0].toNat : Nat) : Int) = 35 := by first | assumption | (intro e; simp_all)
    have hm : ¬ mute (dz x.1.data.toList) := by
     rw [← HL.out];rintro (e | e)
     ·exact h0 (by rw [Lib.size_eq, e]; rfl)
     ·have e2 : L.data.toList.head? = some L[0] := by
       rw [List.head?_eq_getElem?, af (by rw [← Lib.size_eq]; omega)];rfl
      rw [e2] at e;injection e with e
      apply h35;rw [e];rfl
    have hLs : L.size ≤ 50000 := by
     have h1 : L.size = (dz x.1.data.toList).length := (by rw [Lib.size_eq, HL.out]);have h2 : (dz x.1.data.toList).length ≤ x.1.data.toList.length := (by unfold dz; split <;> simp);have := x.2;rw [← Lib.size_eq] at h2;omega
    have HM := hid hm;clear hm t0 hne h35;have hb1 : Below w.1.size w (W.setCell ⟨w.1.size + 1, 0, none⟩ (.int .i64 ((pre.length : Nat) + 1))) := h.bel.setCell (by simp) _;refine ⟨trivial, (CallsIn.inRound l (callsIn_wide.2 (HLP.out L (by rw [HL.out]; exact HMEM.out) (by rw [HL.out]; exact HM.out) hLs _ ((HQ.out.below hb1).mono hb1.size)))).mono ?_⟩;rintro e w2 ⟨v, rfl, hv, hb2⟩;obtain ⟨k0, k1, k2, k3, k4, k5, k6, k7, rfl, _⟩ := hv.conc;rw [HL.out] at hv ⊢;cases hq : eT (dz x.1.data.toList) with
    | none =>
     rw [show Ee none = 50 from rfl];have hne3 : w.1.size + 2 < W.1.size := (by have := (ak h.e).1; exact this);have hs1 : (W.setCell ⟨w.1.size + 1, 0, none⟩ (.int .i64 ((pre.length : Nat) + 1))).1.size = W.1.size := (by simp);have g3 : w2.1[w.1.size + 1]? = some (.cells #[.int .i64 ((pre.length : Nat) + 1)] 3 (0, 0)) := (hb2.block _ (by omega)).trans (aM h.n rfl);have g2 : w2.1[w.1.size]? = some (.cells #[sv] 27 (0, 0)) := (hb2.block _ (by omega)).trans ((ay _ _ _ _ (by show w.1.size ≠ w.1.size + 1; omega)).trans h.l);have g4 : w2.1[w.1.size + 2]? = some (.cells #[.int .i64 0] 24 (0, 0)) := (hb2.block _ (by omega)).trans ((ay _ _ _ _ (by show w.1.size + 2 ≠ w.1.size + 1; omega)).trans h.e);have d2 : w2.cell? ⟨w.1.size, 0, none⟩ = some sv := (by rw [ax w2 _ 0 _ _ _ g2]; rfl);have d3 : w2.cell? ⟨w.1.size + 1, 0, none⟩ = some (.int .i64 ((pre.length : Nat) + 1)) := (by rw [ax w2 _ 0 _ _ _ g3]; rfl);have d4 : w2.cell? ⟨w.1.size + 1 + 1, 0, none⟩ = some (.int .i64 0) := (by rw [ax w2 _ 0 _ _ _ g4]; rfl);have r2 : w2.frozen? ⟨w.1.size, 0, none⟩ = false := (by rw [aA w2 _ 0 _ _ g2]);have r3 : w2.frozen? ⟨w.1.size + 1, 0, none⟩ = false := (by rw [aA w2 _ 0 _ _ g3]);have r4 : w2.frozen? ⟨w.1.size + 1 + 1, 0, none⟩ = false := (by rw [aA w2 _ 0 _ _ g4]);have hs2 := hb2.size;have l2 : w.1.size < w2.1.size := (by omega);have l3 : w.1.size + 1 < w2.1.size := (by omega);have l4 : w.1.size + 1 + 1 < w2.1.size := (by omega);have hY : ∀ o : Obj, Kr X.1.size W ((((w2.setCell ⟨w.1.size, 0, none⟩ (.slice none 0 0)).setCell ⟨w.1.size + 1, 0, none⟩ (.int .i64 ((pre.length : Nat) + 1))).setCell ⟨w.1.size + 1 + 1, 0, none⟩ (.int .i64 50)).alloc o) ∧ WX w (pre ++ [x]) ((((w2.setCell ⟨w.1.size, 0, none⟩ (.slice none 0 0)).setCell ⟨w.1.size + 1, 0, none⟩ (.int .i64 ((pre.length : Nat) + 1))).setCell ⟨w.1.size + 1 + 1, 0, none⟩ (.int .i64 50)).alloc o) := by
      intro o;have hfar : ∀ k, k < W.1.size → w.1.size + 3 ≤ k → ((((w2.setCell ⟨w.1.size, 0, none⟩ (.slice none 0 0)).setCell ⟨w.1.size + 1, 0, none⟩ (.int .i64 ((pre.length : Nat) + 1))).setCell ⟨w.1.size + 1 + 1, 0, none⟩ (.int .i64 50)).alloc o).1[k]? = W.1[k]? := fun k h1 h2 =>
       (az _ _ _ (by simp; omega)).trans ((ay _ _ _ _ (by show k ≠ w.1.size + 1 + 1; omega)).trans ((ay _ _ _ _ (by show k ≠ w.1.size + 1; omega)).trans ((ay _ _ _ _ (by show k ≠ w.1.size; omega)).trans ((hb2.block _ (by omega)).trans (ay _ _ _ _ (by show k ≠ w.1.size + 1; omega))))))
      have hB2 : Below w.1.size w w2 := hb1.trans (hb2.mono (by simp; omega));refine ⟨⟨hfar _ (by omega) (by omega), hfar _ (by omega) (by omega)⟩, (((hB2.setCell nl _).setCell (by simp) _).setCell (by simp; omega) _).alloc (by simp; omega) _, ?_, ?_, ?_, ?_⟩
      ·exact (az _ _ _ (by simp; omega)).trans ((ay _ _ _ _ (by show w.1.size ≠ w.1.size + 1 + 1; omega)).trans ((ay _ _ _ _ (by show w.1.size ≠ w.1.size + 1; omega)).trans (aM g2 rfl)))
      ·rw [show ((pre ++ [x]).length : Int) = (pre.length : Nat) + 1 by simp]
       exact (az _ _ _ (by simp; omega)).trans ((ay _ _ _ _ (by show w.1.size + 1 ≠ w.1.size + 1 + 1; omega)).trans (aM ((ay _ _ _ _ (by show w.1.size + 1 ≠ w.1.size; omega)).trans g3) rfl))
      ·exact (az _ _ _ (by simp; omega)).trans (aM ((ay _ _ _ _ (by show w.1.size + 2 ≠ w.1.size + 1; omega)).trans ((ay _ _ _ _ (by show w.1.size + 2 ≠ w.1.size; omega)).trans g4)) rfl)
      ·exact ⟨pcl pre, dz x.1.data.toList, rs, by simp [pcl], h.acc, HM.out, hq⟩
     have HY := hid hY;have HBAD := hid (hY (.deferred none)).2.bad;clear hY
     gi_wp2
     gi_region
     all_goals gi_wp2
     all_goals first | exact ⟨(HY.out _).1, rfl, (HY.out _).2⟩ | exact ⟨(HY.out _).1, rfl, (HY.out _).2.bel.drew, (HY.out _).2.l, (HY.out _).2.n, (HY.out _).2.e, HBAD.out⟩
    | some q =>
     rw [show Ee (some q) = 0 from rfl];rw [hq] at hv;have hv : bL w2 (fun b => (W.setCell ⟨w.1.size + 1, 0, none⟩ (.int .i64 ((pre.length : Nat) + 1))).1.size ≤ b) true q _ := hv;have hne3 : w.1.size + 2 < W.1.size := (by have := (ak h.e).1; exact this);have hs1 : (W.setCell ⟨w.1.size + 1, 0, none⟩ (.int .i64 ((pre.length : Nat) + 1))).1.size = W.1.size := (by simp);rw [hs1] at hv;have hv : bL w2 (fun b => W.1.size ≤ b) true q (.agg #[.int .i64 q.k, .int .u64 q.t, .int .u64 q.x, .int .u64 q.w, .int .u64 q.n, .int .u64 q.v, .int .i64 k0, .int .u64 k1, .int .u64 k2, .slice k3 k4 k5, .slice k6 q.es.length k7]) := hv;have HQL := hid hq;clear hq;have g3 : w2.1[w.1.size + 1]? = some (.cells #[.int .i64 ((pre.length : Nat) + 1)] 3 (0, 0)) := (hb2.block _ (by omega)).trans (aM h.n rfl);have g2 : w2.1[w.1.size]? = some (.cells #[sv] 27 (0, 0)) := (hb2.block _ (by omega)).trans ((ay _ _ _ _ (by show w.1.size ≠ w.1.size + 1; omega)).trans h.l);have g4 : w2.1[w.1.size + 2]? = some (.cells #[.int .i64 0] 24 (0, 0)) := (hb2.block _ (by omega)).trans ((ay _ _ _ _ (by show w.1.size + 2 ≠ w.1.size + 1; omega)).trans h.e);have hsv := bE.form h.row;obtain ⟨sa, sc, rfl⟩ := hsv;have d2 : w2.cell? ⟨w.1.size, 0, none⟩ = some (.slice sa rs.length sc) := (by rw [ax w2 _ 0 _ _ _ g2]; rfl);have r2 : w2.frozen? ⟨w.1.size, 0, none⟩ = false := (by rw [aA w2 _ 0 _ _ g2]);have hs2 := hb2.size;have l2 : w.1.size < w2.1.size := (by omega);have hpl : (pcl pre).length = pre.length := (by simp [pcl]);have hal := sw h.acc;have hrl : rs.length < 65536 := (by omega);have e65 : ¬ ((rs.length : Nat) : Int) = 65536 := (by omega);have hWs : w.1.size + 6 ≤ W.1.size := (by omega);obtain ⟨ys, hi, hh, hown, hrs⟩ := (bE.mk' h.row hWs).tc (Tc.set (w.1.size + 1) 0 W (.int .i64 ((pre.length : Nat) + 1))) (by omega);obtain ⟨i0, hi0, hz0, hz1, hz2⟩ := info_parts zh;have hob := hown.lt;have hne : ∀ k, k < w.1.size + 6 → some k ≠ (Value.slice sa rs.length sc).ownBlock := fun k hk e => by have := hob _ e.symm; omega
     have hown' := ownsRow_below hown hb2 nl;have HH := hid hh;have HOW := hid hown;have HB := hid hb2;have hbel2 : Below w.1.size w w2 := hb1.trans (hb2.mono (by omega));have q6 : w.1.size + 6 ≤ w2.1.size := (by omega);have q65 : rs.length + 1 ≤ 65536 := (by omega);have HS1 := hid hs1;clear hown hh hb1 hb2 hs1
     gi_wp2_with (gi_at_builtin; go_loud (refine lu _ rfl (.tmp 38) (.tmp 40) 27 rfl (w.1.size + 6) 73 i0 _ 11 120 Tryz.underlying27 hi0 hz0 hz1 hz2 rfl (by omega) (.slice sa rs.length sc) rs.length ys rfl ((hown'.alloc _).alloc _) ⟨w2.1.size + 1, 0, none⟩ 1 1 [.int .i64 q.k, .int .u64 q.t, .int .u64 q.x, .int .u64 q.w, .int .u64 q.n, .int .u64 q.v, .int .i64 k0, .int .u64 k1, .int .u64 k2, .slice k3 k4 k5, .slice k6 q.es.length k7] rfl rfl (World.news_of_block (cs := #[.int .i64 q.k, .int .u64 q.t, .int .u64 q.x, .int .u64 q.w, .int .u64 q.n, .int .u64 q.v, .int .i64 k0, .int .u64 k1, .int .u64 k2, .slice k3 k4 k5, .slice k6 q.es.length k7]) (t := 73) (fr := (0, 0)) (aK _ _ _ (by simp))) (by simp [Value.oneCell']) (by omega) (by unfold maxLen; omega) (by omega) (by rw [aD, aD]; omega) (w2.1.size + 1 + 1) (by simp) ?_); intro gg gcap w4 hown2 hgrow hat hlt2; go_loud (have d5 : w4.cell? ⟨w.1.size, 0, none⟩ = some (.slice sa rs.length sc) := (by rw [hgrow.cell_far _ (by simp; omega) (hne _ (by show w.1.size < w.1.size + 6; omega)), World.cell?_alloc_past _ _ _ (by simp; omega), World.cell?_alloc_past _ _ _ l2]; exact d2)); go_loud (have r5 : w4.frozen? ⟨w.1.size, 0, none⟩ = false := (by rw [hgrow.frozen_far _ (by simp; omega) (hne _ (by show w.1.size < w.1.size + 6; omega)), World.frozen?_alloc_past _ _ _ (by simp; omega), World.frozen?_alloc_past _ _ _ l2]; exact r2)))
     have hbz := HB.out;have hs4 := hgrow.size;simp only [aD] at hs4;have far : ∀ k, k < w.1.size + 6 → w4.1[k]? = w2.1[k]? := fun k h1 => (hgrow.block k (by simp; omega) (hne k h1)).trans ((az _ _ _ (by simp; omega)).trans (az _ _ _ (by omega)))
     have hmk : bE w4 (w.1.size + 6) 73 (.slice (some ⟨gg, 0, none⟩) (rs.length + 1) gcap) (rs ++ [q]) :=
      bE.push' HH.out HOW.out hrs hbz nl (by rw [HS1.out]; exact hv) ((br.alloc nl _).alloc (by simp) _) hgrow hown2 (hat.imp id (by omega))
     have hS1 := HS1.out;have hW2 : ∀ k, k < W.1.size → k ≠ w.1.size + 1 → w2.1[k]? = W.1[k]? := fun k h1 h2 => (hbz.block k (by omega)).trans (ay _ _ _ _ (by show k ≠ w.1.size + 1; exact h2))
     have hfin : ∀ (V : Value) k, k < w.1.size + 6 → k ≠ w.1.size → (w4.setCell ⟨w.1.size, 0, none⟩ V).1[k]? = w2.1[k]? := fun V k h1 h2 => (ay _ _ _ _ (by show k ≠ w.1.size; exact h2)).trans (far k h1)
     refine ⟨⟨(hfin _ _ (by omega) (by omega)).trans (hW2 _ (by omega) (by omega)), (hfin _ _ (by omega) (by omega)).trans (hW2 _ (by omega) (by omega))⟩, (hfin _ _ (by omega) (by omega)).trans (hW2 _ (by omega) (by omega)), _, rs ++ [q], ⟨?_, aM ((far _ (by omega)).trans g2) rfl, ?_, (hfin _ _ (by omega) (by omega)).trans g4, ?_, .inr (hmk.tc (Tc.set _ 0 _ _) (by omega))⟩⟩
     ·exact ((((hbel2.alloc (by omega) _).alloc (by simp; omega) _).grown hgrow (by simp; omega) (fun k hk => by have := (hob k hk).1; omega))).setCell nl _
     ·rw [show ((pre ++ [x]).length : Int) = (pre.length : Nat) + 1 by simp]
      exact (hfin _ _ (by omega) (by omega)).trans g3
     ·have : pcl (pre ++ [x]) = pcl pre ++ [dz x.1.data.toList] := by simp [pcl]
      rw [this];exact oQ HM.out HQL.out h.acc
theorem ED : (Tryz.prog.info? 65).map (fun i => (i.zero, i.size, i.bytes)) = some (some (.agg #[.int .i64 0, .int .u64 0, .int .u64 0, .int .u64 0, .int .u64 0, .int .u64 0, .int .i64 0, .int .u64 0, .int .u64 0, .slice none 0 0, .slice none 0 0]), 11, 120) := by kernel_rfl
end Go.Proofs.YtlpgokcapdjgjaaGreatDoor
