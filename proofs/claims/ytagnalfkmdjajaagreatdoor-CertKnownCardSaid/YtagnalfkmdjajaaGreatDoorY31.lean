/- Walks. -/
import Derived.Test.YtagnalfkmdjajaaGreatDoorYEx60
set_option maxHeartbeats 4000000
set_option maxRecDepth 100000
namespace Go.Proofs.YtagnalfkmdjajaaGreatDoor
open Go.RowKit Go
set_option linter.unusedVariables false
set_option linter.unusedSimpArgs false
def Bt (l : List (List UInt8)) : Nat := (l.map fun x => x.length + 1).sum
theorem iA (x : List UInt8) (l : List (List UInt8)) : Bt (x :: l) = x.length + 1 + Bt l := by simp [Bt]
theorem nO (s : List UInt8) : ∃ (e1 : Ed) (c : Int), (Ending.returned (CY (edRead s)) = .returned (.tuple #[.agg #[.int .i64 e1.a, .int .i64 e1.b, .int .i64 e1.k, .int .u64 (e1.x : Nat), .int .u64 (e1.sw : Nat), .int .u64 (e1.sn : Nat), .int .u64 (e1.mw : Nat), .int .u64 (e1.mn : Nat), .int .i64 e1.p], .int .i64 c])) ∧ edGet s = e1 := by
 unfold edGet
 cases h : edRead s with
 | none => exact ⟨Ed.zero, 230, rfl, rfl⟩
 | some e => exact ⟨e, 0, rfl, rfl⟩
theorem pO (w : World) (cs : Array Value) (T : TypeId) (sz g : Nat) (hs : cs.size = sz) (h0 : 0 < sz) (hg : g = w.heap.size) : Sl (w.alloc (.cells cs T)) (fun _ => True) true sz 1 cs.toList (.slice (some ⟨g, 0, none⟩) 1 1) := by
 subst hg; exact Aj w cs T sz hs h0
def EN (T : TypeId) (w : World) (os : List Ed) (e : Ending) (w' : World) : Prop := ∃ u, e = .returned u ∧ w'.ownsRow w.heap.size T 9 u os.length (bD os) ∧ os.length ≤ 1000 ∧ Below w.heap.size w w'
structure WK (l : List (List UInt8)) (w wr : World) (T : TypeId) (ov : Value) (os : List Ed) (s : List UInt8) (j : Nat) : Prop where
 own : wr.ownsRow w.heap.size T 9 ov os.length (bD os)
 bel : Below w.heap.size w wr
 cnt : os.length ≤ j
 more : j ≤ l.length → (grp l []).map edGet = os ++ (grp (l.drop j) s).map edGet ∧ s.length + Bt (l.drop j) ≤ 400
 done : j = l.length + 1 → os = (grp l []).map edGet
theorem vH (S : Nat → Prop) (l : List (List UInt8)) (v : Value) (w : World) (hr : gV w S l v) (hl : l.length ≤ 900) (hm : Bt l ≤ 400) (hL : Lq w.heap.size w) :
  Calls Tryz.prog 91 #[v] w (EN 108 w ((grp l []).map edGet)) := by
 obtain ⟨i0, hi0, hz0, hz1, hz2⟩ := info_parts ve
 obtain ⟨_, _, ad, cap, rfl, _⟩ := Sl.shape hr
 have HR := hid hr
 have HL := hid hL
 have HM := hid hm
 clear hr hL hm
 go_enter Tryz.func91, Tryz.ntmps91
 go_wp2_with fail
 go_loopw [3, 4, 5] (fun ov sv iv wr => ∃ (j : Nat) (os : List Ed) (B : ByteArray), j ≤ l.length + 1 ∧ iv = .int .i64 j ∧ sv = .string B ∧ Hid (WK l w wr 108 ov os B.data.toList j)) (fun _ _ iv _ => l.length + 1 - (intOf iv).toNat)
 case atStart => exact ⟨0, [], ⟨#[]⟩, by omega, rfl, rfl, hid ⟨World.ownsRow_nil _ _ _ _, br, by simp, fun _ => ⟨by simp, by simpa using HM.out⟩, fun h => by omega⟩⟩
 case round =>
  obtain ⟨j, os, B, hj, rfl, rfl, HQ⟩ := hrel
  obtain ⟨sa, sc, rfl⟩ := ag HQ.out.own
  have hsz := HQ.out.bel.size
  have hcnt := HQ.out.cnt
  by_cases hlt : j < l.length
  ·obtain ⟨bl, off, rfl, _, hcell⟩ := gV.at HR.out (by omega)
   have hc := hcell j hlt
   have g := (HQ.out.bel.cell (World.block_lt_of_cell? w _ hc)).trans hc
   obtain ⟨XS, hXS⟩ : ∃ XS : ByteArray, XS = ⟨l[j].toArray⟩ := ⟨_, rfl⟩
   have hXd : XS.data.toList = l[j] := by rw [hXS]
   rw [← hXS] at g
   have hdrop : l.drop j = l[j] :: l.drop (j + 1) := List.drop_eq_getElem_cons hlt
   obtain ⟨m1, m2⟩ := HQ.out.more (by omega)
   have hBz : B.size = B.data.toList.length := (ay B).symm
   have hXz : XS.size = l[j].length := by rw [← ay, hXd]
   have m3 := m2
   rw [hdrop, iA] at m3
   have hB : B.size ≤ 400 := by omega
   have hX : XS.size ≤ 400 := by omega
   have x1 : (0 : Int) ≤ (j : Int) := by omega
   have x2 : (j : Int) < (l.length : Int) := by omega
   have x3 : (j : Int) ≤ (l.length : Int) := by omega
   by_cases h59 : l[j] = [59]
   ·have t1 : (XS.toList == [59]) = true := by rw [ByteArray.toList_eq, hXd, h59]; rfl
    have HX : Hid (l.drop j = l[j] :: l.drop (j + 1) ∧ l[j] = [59] ∧ True) := hid ⟨hdrop, h59, trivial⟩
    clear hcell hc hXS hXd hdrop m1 m2 m3 hBz hXz h59 hX
    have HRD := hid (lK B hB wr ((HL.out.below HQ.out.bel).mono HQ.out.bel.size))
    go_wp2_with fail
    refine HRD.out.mono ?_
    rintro e w2 ⟨he, hb2⟩
    obtain ⟨e1, ec, he1, hee⟩ := nO B.data.toList
    rw [he1] at he
    subst he
    have hs2 := hb2.size
    have HO := hid (And.intro (ownsRow_below HQ.out.own hb2 nl) (HQ.out.bel.trans (hb2.mono hsz)))
    have HE := hid hee
    clear hb2 he1 hee HRD
    go_wp2_with (at_builtin; go_loud (refine af _ rfl (.tmp 40) (.tmp 42) _ rfl w.heap.size 108 i0 _ 9 72 Tryz.underlying44 hi0 hz0 hz1 hz2 rfl (by omega) _ os.length (bD os) rfl ((HO.out.1.alloc _).alloc _) _ _ 1 [.int .i64 e1.a, .int .i64 e1.b, .int .i64 e1.k, .int .u64 (e1.x : Nat), .int .u64 (e1.sw : Nat), .int .u64 (e1.sn : Nat), .int .u64 (e1.mw : Nat), .int .u64 (e1.mn : Nat), .int .i64 e1.p] _ rfl (pO _ #[.int .i64 e1.a, .int .i64 e1.b, .int .i64 e1.k, .int .u64 (e1.x : Nat), .int .u64 (e1.sw : Nat), .int .u64 (e1.sn : Nat), .int .u64 (e1.mw : Nat), .int .u64 (e1.mn : Nat), .int .i64 e1.p] 108 9 (w2.heap.size + 1) rfl (by omega) (by simp)) (by simp [Value.oneCell']) (by unfold maxLen; omega) (by omega) (by simp; omega) ?_); intro v' w3 hown3 hgrow hat)
    have hlo := HO.out.1.lt
    have HN : Hid (WK l w w3 108 v' (os ++ [e1]) [] (j + 1)) := hid (by
     have h1 : bD (os ++ [e1]) = bD os ++ [.int .i64 e1.a, .int .i64 e1.b, .int .i64 e1.k, .int .u64 (e1.x : Nat), .int .u64 (e1.sw : Nat), .int .u64 (e1.sn : Nat), .int .u64 (e1.mw : Nat), .int .u64 (e1.mn : Nat), .int .i64 e1.p] := by rw [dG]; simp [bD, Ed.vals]
     refine ⟨by rw [h1, List.length_append]; exact hown3, ((HO.out.2.alloc (by omega) _).alloc (by simp; omega) _).grown hgrow (by simp; omega) (fun k hk => (hlo k hk).1), by have := HQ.out.cnt; simp; omega, ?_, ?_⟩
     ·intro h
      obtain ⟨m1, m2⟩ := HQ.out.more (by omega)
      rw [HX.out.1, HX.out.2.1] at m1
      rw [grp, if_pos rfl, List.map_cons] at m1
      rw [HX.out.1, HX.out.2.1, iA] at m2
      exact ⟨by rw [m1, HE.out]; simp, by simp at m2 ⊢; omega⟩
     ·intro h; omega)
    clear hown3 hgrow hat hlo
    go_wp2_with fail
    go_roundw
    case rel => exact ⟨j + 1, os ++ [e1], _, by omega, by go_num, rfl, HN⟩
    case measure => simp [intOf]; omega
   ·have t1 : (XS.toList == [59]) = false := by rw [ByteArray.toList_eq, hXd]; simpa using h59
    have HX : Hid (∀ B' : ByteArray, B'.data.toList = (if B.data.toList = [] then l[j] else B.data.toList ++ 32 :: l[j]) → WK l w wr 108 (.slice sa os.length sc) os B'.data.toList (j + 1)) := hid (by
     intro B' hB'
     refine ⟨HQ.out.own, HQ.out.bel, by have := HQ.out.cnt; omega, fun h => ?_, fun h => by omega⟩
     rw [hB']
     rw [hdrop, grp, if_neg h59] at m1
     refine ⟨m1, ?_⟩
     split
     ·omega
     ·simp; omega)
    by_cases h0 : B.data.toList = []
    ·have t0 : B.toList.isEmpty = true := by rw [ByteArray.toList_eq, h0]; rfl
     have HN := hid (HX.out (B ++ XS) (by rw [if_pos h0]; simp [h0, hXd]))
     have zb := dH B XS
     clear hcell hc hXS hXd hdrop m1 m2 m3 hBz hXz h59 h0 HX
     go_wp2_with fail
     go_roundw
     case rel => exact ⟨j + 1, os, _, by omega, by go_num, rfl, HN⟩
     case measure => simp [intOf]; omega
    ·have t0 : B.toList.isEmpty = false := by
      rw [ByteArray.toList_eq]
      cases h : B.data.toList with
      | nil => exact absurd h h0
      | cons _ _ => rfl
     have HN := hid (HX.out (B ++ ⟨#[32]⟩ ++ XS) (by rw [if_neg h0]; simp [hXd]))
     have zb := dH B ⟨#[32]⟩
     have zc : (⟨#[32]⟩ : ByteArray).size = 1 := rfl
     have zd := dH (B ++ ⟨#[32]⟩) XS
     clear hcell hc hXS hXd hdrop m1 m2 m3 hBz hXz h59 h0 HX
     go_wp2_with fail
     go_roundw
     case rel => exact ⟨j + 1, os, _, by omega, by go_num, rfl, HN⟩
     case measure => simp [intOf]; omega
  ·by_cases he : j = l.length
   ·have m2 := (HQ.out.more (by omega)).2
    have hB : B.size ≤ 400 := by rw [← ay]; omega
    have x2 : ¬ (j : Int) < (l.length : Int) := by omega
    have x3 : (j : Int) ≤ (l.length : Int) := by omega
    have HJ := hid he
    clear m2 he
    have HRD := hid (lK B hB wr ((HL.out.below HQ.out.bel).mono HQ.out.bel.size))
    go_wp2_with fail
    refine HRD.out.mono ?_
    rintro e w2 ⟨he, hb2⟩
    obtain ⟨e1, ec, he1, hee⟩ := nO B.data.toList
    rw [he1] at he
    subst he
    have hs2 := hb2.size
    have HO := hid (And.intro (ownsRow_below HQ.out.own hb2 nl) (HQ.out.bel.trans (hb2.mono hsz)))
    have HE := hid hee
    clear hb2 he1 hee HRD
    go_wp2_with (at_builtin; go_loud (refine af _ rfl (.tmp 40) (.tmp 42) _ rfl w.heap.size 108 i0 _ 9 72 Tryz.underlying44 hi0 hz0 hz1 hz2 rfl (by omega) _ os.length (bD os) rfl ((HO.out.1.alloc _).alloc _) _ _ 1 [.int .i64 e1.a, .int .i64 e1.b, .int .i64 e1.k, .int .u64 (e1.x : Nat), .int .u64 (e1.sw : Nat), .int .u64 (e1.sn : Nat), .int .u64 (e1.mw : Nat), .int .u64 (e1.mn : Nat), .int .i64 e1.p] _ rfl (pO _ #[.int .i64 e1.a, .int .i64 e1.b, .int .i64 e1.k, .int .u64 (e1.x : Nat), .int .u64 (e1.sw : Nat), .int .u64 (e1.sn : Nat), .int .u64 (e1.mw : Nat), .int .u64 (e1.mn : Nat), .int .i64 e1.p] 108 9 (w2.heap.size + 1) rfl (by omega) (by simp)) (by simp [Value.oneCell']) (by unfold maxLen; omega) (by omega) (by simp; omega) ?_); intro v' w3 hown3 hgrow hat)
    have hlo := HO.out.1.lt
    have HN : Hid (WK l w w3 108 v' (os ++ [e1]) [] (j + 1)) := hid (by
     have h1 : bD (os ++ [e1]) = bD os ++ [.int .i64 e1.a, .int .i64 e1.b, .int .i64 e1.k, .int .u64 (e1.x : Nat), .int .u64 (e1.sw : Nat), .int .u64 (e1.sn : Nat), .int .u64 (e1.mw : Nat), .int .u64 (e1.mn : Nat), .int .i64 e1.p] := by rw [dG]; simp [bD, Ed.vals]
     refine ⟨by rw [h1, List.length_append]; exact hown3, ((HO.out.2.alloc (by omega) _).alloc (by simp; omega) _).grown hgrow (by simp; omega) (fun k hk => (hlo k hk).1), by have := HQ.out.cnt; simp; omega, ?_, ?_⟩
     ·intro h; have := HJ.out; omega
     ·intro h
      obtain ⟨m1, m2⟩ := HQ.out.more (by have := HJ.out; omega)
      rw [List.drop_eq_nil_of_le (by have := HJ.out; omega), grp] at m1
      rw [m1, List.map_cons, List.map_nil, HE.out])
    clear hown3 hgrow hat hlo
    go_wp2_with fail
    go_roundw
    case rel => exact ⟨j + 1, os ++ [e1], _, by have := HJ.out; omega, by go_num, rfl, HN⟩
    case measure => simp [intOf]; omega
   ·have hd := HQ.out.done (by omega)
    have x3 : ¬ (j : Int) ≤ (l.length : Int) := by omega
    have HD := hid hd
    clear hd he
    go_wp2_with fail
    go_ret
    rw [← HD.out]
    exact ⟨_, rfl, HQ.out.own, by omega, HQ.out.bel⟩
def kD : List (List UInt8) := [[], ah 1, ah 2, ah 3, ah 4]
theorem Dc {x : List UInt8} {k : Int} (h : Ap kD x k) : max 0 k = dm x := by
 rcases h with ⟨rfl, h⟩ | ⟨j, rfl, hj, _⟩
 ·unfold dm
  have h1 : ¬ x = kW := fun e => h (by rw [e]; decide)
  have h2 : ¬ x = nL := fun e => h (by rw [e]; decide)
  have h3 : ¬ x = fP := fun e => h (by rw [e]; decide)
  have h4 : ¬ x = nM := fun e => h (by rw [e]; decide)
  rw [if_neg h1, if_neg h2, if_neg h3, if_neg h4]; rfl
 ·match j, hj with
  | 0, hj => injection hj with hj; subst hj; decide
  | 1, hj => injection hj with hj; subst hj; decide
  | 2, hj => injection hj with hj; subst hj; decide
  | 3, hj => injection hj with hj; subst hj; decide
  | 4, hj => injection hj with hj; subst hj; decide
  | j + 5, hj => simp [kD] at hj
theorem rP (s : ByteArray) : Lib.countB s ⟨#[32, 59, 32]⟩ + 1 = (Lib.split s.data.toList dQ).length := by
 have h := Lib.splitB_data ⟨#[32, 59, 32]⟩ 0 (Lib.countB s ⟨#[32, 59, 32]⟩) s
 have e : Lib.split s.data.toList dQ = (Lib.splitB ⟨#[32, 59, 32]⟩ 0 (Lib.countB s ⟨#[32, 59, 32]⟩) s).map (·.data.toList) := h.symm
 rw [e, List.length_map, Lib.splitB_all ⟨#[32, 59, 32]⟩ (by simp [ByteArray.size]) 0 _ s rfl]
theorem zw (s : ByteArray) (w : World) (hs : s.size ≤ 1000000) (hL : Lq w.heap.size w) :
  Calls Tryz.prog 40 #[.string s, .string ⟨#[32, 59, 32]⟩] w fun e w' => e = .returned (.slice (some ⟨w.heap.size, 0, none⟩) (Lib.split s.data.toList dQ).length (Lib.split s.data.toList dQ).length) ∧ w' = w.alloc (.cells (strs (Lib.split s.data.toList dQ)).toArray 9) := by
 obtain ⟨m, hm⟩ := hL.mx
 refine (Tryz.strings_Split s ⟨#[32, 59, 32]⟩ m w (by omega) hm (by simp [ByteArray.size])).mono ?_
 rintro e w' ⟨rfl, rfl⟩
 have h := Lib.splitB_data ⟨#[32, 59, 32]⟩ 0 (Lib.countB s ⟨#[32, 59, 32]⟩) s
 have e2 : Lib.split s.data.toList dQ = (Lib.splitB ⟨#[32, 59, 32]⟩ 0 (Lib.countB s ⟨#[32, 59, 32]⟩) s).map (·.data.toList) := h.symm
 rw [← rP, e2]
 refine ⟨rfl, ?_⟩
 congr 3
 simp only [strs, List.map_map]
 apply List.map_congr_left
 intro b _
 simp
theorem rQ : ∀ (k : Nat) (s : List UInt8), ∀ x ∈ Lib.splitK dQ 0 k s, x.length ≤ s.length
 | 0, s, x, h => by simp [Lib.splitK] at h; subst h; exact Nat.le_refl _
 | k + 1, s, x, h => by
  unfold Lib.splitK at h
  split at h
  ·simp at h; subst h; exact Nat.le_refl _
  ·rcases List.mem_cons.1 h with rfl | h
   ·simp; omega
   ·have := rQ k _ x h
    simp at this; omega
theorem Bu (s : List UInt8) : (∀ x ∈ Lib.split s dQ, x.length ≤ s.length) := rQ _ _
theorem zx (s : ByteArray) : (Lib.split s.data.toList dQ).length ≤ s.size + 1 := by
 rw [← rP]
 have := Lib.countB_le ⟨#[32, 59, 32]⟩ (by simp [ByteArray.size]) s.size s nl
 omega
end Go.Proofs.YtagnalfkmdjajaaGreatDoor
