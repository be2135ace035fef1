/- Walks. -/
import Derived.Test.YtlpgokcapdjgjaaGreatDoorY70
import Derived.Test.YtlpgokcapdjgjaaGreatDoorY74
import Derived.Test.YtlpgokcapdjgjaaGreatDoorY81
set_option maxHeartbeats 4000000
set_option maxRecDepth 100000
namespace Go.Proofs.YtlpgokcapdjgjaaGreatDoor
open Go.RowKit Go
set_option linter.unusedVariables false
set_option linter.unusedSimpArgs false
structure Fx where
 k : Nat
 pay : List UInt8
def frI : Item Fx where
 k := 2
 P w S x cs := ∃ pv, cs = [.int .u8 (x.k : Nat), pv] ∧ aF w S false x.pay pv
 len h := by obtain ⟨pv, rfl, _⟩ := h; rfl
 one h := by
  obtain ⟨pv, rfl, hr⟩ := h
  obtain ⟨_, ad, cap, rfl, _⟩ := hr.shape
  simp [Value.oneCell']
 keep h hk hS := by
  obtain ⟨pv, e, hr⟩ := h
  exact ⟨pv, e, Sl.keep hr (by omega) hk hS⟩
def kv (fs : List Fx) : List UInt8 := fs.flatMap fun x => dY x.k x.pay
theorem AC (a : List Fx) (x : Fx) : kv (a ++ [x]) = kv a ++ dY x.k x.pay := by simp [kv]
theorem wM : ∀ (fs : List Fx), (∀ x ∈ fs, x.pay.length ≤ 800000) → (kv fs).length ≤ fs.length * 800015
 | [], _ => by simp [kv]
 | x :: fs, h => by
  have h1 := wM fs (fun y hy => h y (List.mem_cons_of_mem _ hy))
  have h2 := yf x.k x.pay
  have h3 := h x List.mem_cons_self
  have e : kv (x :: fs) = dY x.k x.pay ++ kv fs := by simp [kv]
  rw [e, List.length_append, List.length_cons, Nat.add_mul]
  omega
theorem yz (fs : List Fx) (v : Value) (w : World) (hn : fs.length ≤ 70000) (hf : ∀ x ∈ fs, x.k < 256 ∧ x.pay.length ≤ 800000) (hv : ny frI w (fun b => b < w.heap.size) fs v) :
  Calls Tryz.prog 44 #[v] w (oN 5 w (kv fs)) := by
 obtain ⟨i0, hi0, hz0, hz1, hz2⟩ := info_parts sO
 obtain ⟨hl0, fa, fc, rfl, hcp0⟩ := hv.shape
 have HV := hid (And.intro hv hf)
 clear hv hf
 go_enter Tryz.func44, Tryz.ntmps44
 go_wp2_with fail
 go_loopw [3, 10] (fun sv i wr => ∃ j : Nat, j ≤ fs.length ∧ i = .int .i64 (j : Nat) ∧ wr.ownsRow w.heap.size 5 1 sv (kv (fs.take j)).length (bytes (kv (fs.take j))) ∧ Below w.heap.size w wr) (fun _ i _ => fs.length - (intOf i).toNat)
 case atStart => exact ⟨0, by omega, rfl, World.ownsRow_nil _ _ _ _, br⟩
 case round =>
  obtain ⟨j, hj, rfl, hown, hbel⟩ := hrel
  have hsz0 := hbel.size
  by_cases hlt : j < fs.length
  ·obtain ⟨bl, off, cs, rfl, hbs, ⟨pv, rfl, hpv⟩, hcc⟩ := ny.at (I := frI) (by decide) HV.out.1 j hlt
   obtain ⟨k, hk⟩ : ∃ k, k = fs[j].k := ⟨_, rfl⟩
   obtain ⟨l, hl⟩ : ∃ l, l = fs[j].pay := ⟨_, rfl⟩
   rw [← hk] at hcc
   rw [← hl] at hpv
   have hfj := HV.out.2 fs[j] (List.getElem_mem _)
   rw [← hk, ← hl] at hfj
   have htk : kv (fs.take (j + 1)) = kv (fs.take j) ++ dY k l := by rw [List.take_succ_eq_append_getElem hlt, AC, hk, hl]
   have hk256 := hfj.1
   have hll := hfj.2
   obtain ⟨_, ad, cp, rfl, hcp'⟩ := hpv.shape
   have hE := wM (fs.take j) (fun x hx => (HV.out.2 x (List.mem_of_mem_take hx)).2)
   rw [List.length_take, Nat.min_eq_left hj] at hE
   have c0 : wr.cell? ⟨bl, off + j * 2, none⟩ = some (.int .u8 (k : Nat)) := (hbel.cell (p := ⟨bl, off + j * 2, none⟩) hbs).trans (hcc 0 (by decide))
   have c1 : wr.cell? ⟨bl, off + j * 2 + 1, none⟩ = some (.slice ad l.length cp) := (hbel.cell (p := ⟨bl, off + j * 2 + 1, none⟩) hbs).trans (hcc 1 (by decide))
   obtain ⟨E0, hE0⟩ : ∃ E0, E0 = kv (fs.take j) := ⟨_, rfl⟩
   rw [← hE0] at hown hE htk
   have HOW := hid hown
   have hob := hown.lt
   have HTK := hid (And.intro htk (And.intro hbel hlt))
   have HVJ := hid hpv
   have q9 : E0.length ≤ 56001050000 := by
    refine Nat.le_trans hE (Nat.le_trans (Nat.mul_le_mul_right 800015 (show j ≤ 70000 by omega)) (by decide))
   have i0' : (0 : Int) ≤ (j : Int) := by omega
   have i1' : (j : Int) < (fs.length : Int) := by omega
   obtain ⟨sva, svc, rfl⟩ := au hown
   have hlw : w.heap.size ≤ wr.heap.size := hsz0
   clear hown htk hk hl hfj hcc hE hpv hbel hE0
   go_upto_region 6 with fail
   have hb1 : Below wr.heap.size wr (wr.alloc (.cells #[.int .u8 k, .slice ad l.length cp] 105)) := br.alloc nl _
   have hb2 : Below wr.heap.size wr ((wr.alloc (.cells #[.int .u8 k, .slice ad l.length cp] 105)).alloc (.cells #[.slice none 0 0] 192)) := hb1.alloc (by simp) _
   have g0 : ((wr.alloc (.cells #[.int .u8 k, .slice ad l.length cp] 105)).alloc (.cells #[.slice none 0 0] 192)).heap[wr.heap.size]? = some (.cells #[.int .u8 k, .slice ad l.length cp] 105 (0, 0)) :=
    (Below.heap_alloc _ _ _ (by simp)).trans (heap_alloc_new wr _)
   have g1 : Wr 192 5 ((wr.alloc (.cells #[.int .u8 k, .slice ad l.length cp] 105)).alloc (.cells #[.slice none 0 0] 192)) (wr.heap.size + 1) (.slice none 0 0) [] :=
    ⟨by have := heap_alloc_new (wr.alloc (.cells #[.int .u8 k, .slice ad l.length cp] 105)) (.cells #[.slice none 0 0] 192); rw [World.size_alloc] at this; exact this, World.ownsRow_nil _ _ _ _⟩
   have g2 : ((wr.alloc (.cells #[.int .u8 k, .slice ad l.length cp] 105)).alloc (.cells #[.slice none 0 0] 192)).heap.size = wr.heap.size + 2 := by rw [World.size_alloc, World.size_alloc]
   generalize (wr.alloc (.cells #[.int .u8 k, .slice ad l.length cp] 105)).alloc (.cells #[.slice none 0 0] 192) = X at hb2 g0 g1 g2 ⊢
   clear hb1
   have d0 : X.cell? ⟨wr.heap.size, 0, none⟩ = some (.int .u8 k) := by unfold World.cell?; rw [g0]; rfl
   have d1 : X.cell? ⟨wr.heap.size, 1, none⟩ = some (.slice ad l.length cp) := by unfold World.cell?; rw [g0]; rfl
   have hbA : Below X.heap.size X (X.alloc (.cells #[.int .u8 k] 5)) := br.alloc nl _
   have HRAW := hid (rY (fun _ => True) true (wr.heap.size + 1) (.slice none 0 0) [] [k.toUInt8] (.slice (some ⟨X.heap.size, 0, none⟩) 1 1) _ (g1.below hbA) (Al X k hk256 5) (by simp))
   have HX := hid (And.intro hb2 (And.intro (g1.below hbA) (And.intro g2 (And.intro hbA d1))))
   clear g0 g1 g2 hb2 hbA d1
   go_wp2_with fail
   refine HRAW.out.mono ?_
   rintro e w1 ⟨rfl, sv1, hw1, ht1⟩
   obtain ⟨hb2, g1, g2, hbA, d1⟩ := HX.out
   have hB1 : Below (wr.heap.size + 1) X w1 := (hbA.mono (by omega)).trans (ht1.below g1)
   have d2 : w1.cell? ⟨wr.heap.size, 1, none⟩ = some (.slice ad l.length cp) := (hB1.cell (p := ⟨wr.heap.size, 1, none⟩) (by simp)).trans d1
   have hBw1 : Below wr.heap.size wr w1 := hb2.trans (hB1.mono (by omega))
   have hlt1 := hw1.lt
   have hrep1 : aF w1 (fun b => b ≠ wr.heap.size + 1 ∧ sv1.ownBlock ≠ some b) false l (.slice ad l.length cp) :=
    Sl.keep (aF.below HVJ.out (HTK.out.2.1.trans (hBw1.mono hlw)) nl) (by omega) (fun b _ _ => rfl) (fun b _ hb => ⟨(by have hb : b < w.heap.size := hb; omega), fun e => (by have hb : b < w.heap.size := hb; have := (hlt1.2 b e).1; omega)⟩)
   have HT := hid (wy false (wr.heap.size + 1) sv1 ([] ++ [k.toUInt8]) l _ w1 hw1 hrep1 (by simp; omega))
   have HW1 := hid (And.intro hw1 hBw1)
   clear hw1 ht1 hB1 hb2 g1 g2 hbA d1 hBw1 hrep1 hlt1 d0
   go_wp2_with fail
   refine HT.out.mono ?_
   rintro e w2 ⟨rfl, sv2, hw2, ht2⟩
   obtain ⟨hw1, hBw1⟩ := HW1.out
   have hBw2 : Below wr.heap.size wr w2 := hBw1.trans ((ht2.below hw1).mono (by omega))
   have hH : [] ++ [k.toUInt8] ++ (bC [l.length] ++ l) = bF k l := rfl
   rw [hH] at hw2
   have hHl : (bF k l).length ≤ 800011 := by have := bA [l.length]; unfold bF; simp at this ⊢; omega
   have HBY := hid (nJ (wr.heap.size + 1) sv2 (bF k l) w2 hw2 (by omega))
   have HW2 := hid hBw2
   clear hw1 hBw1 hw2 ht2 hBw2 d2 hH
   go_wp2_with fail
   refine HBY.out.mono ?_
   rintro e w3 ⟨v3, rfl, hown3, hb3⟩
   have hsw := HW2.out.size
   have hb3s := hb3.size
   have HB3 := hid (HW2.out.trans (hb3.mono hsw))
   have HS3 := hid (Sl.of_owns hown3 (by omega))
   have hlt3 := hown3.lt
   have H3 := hid hown3
   have hr3 := ownsRow_below HOW.out HB3.out nl
   obtain ⟨va3, vc3, rfl⟩ := au hown3
   have q8 : w.heap.size ≤ w3.heap.size := by omega
   clear hown3 hb3
   go_wp2_with (at_builtin; go_loud (refine bL _ rfl (.tmp 22) (.tmp 23) _ rfl w.heap.size 5 i0 _ 1 1 Tryz.underlying32 hi0 hz0 hz1 hz2 rfl (by omega) _ E0.length (bytes E0) rfl hr3 _ _ (bF k l).length (bytes (bF k l)) _ rfl HS3.out (iP _) (by unfold maxLen; omega) (by omega) q8 ?_); intro v4 w4 hown4 hgrow4 hat4)
   have hsz4 := hgrow4.size
   have hrep4 : aF w4 (fun b => b < w4.heap.size) false (bF k l) (.slice va3 (bF k l).length vc3) := Sl.keep (Sl.unown HS3.out) (by omega) (vB hgrow4 (fun b hb e => by have h1 := (hob b e.symm).2; have h2 := hb.2; omega)) (fun b hb _ => by omega)
   have HO4 := hid (And.intro hown4 hgrow4)
   have HCK := hid (sP (bF k l) _ w4 (by omega) hrep4)
   clear hown4 hgrow4 hat4 hrep4 hr3
   refine HCK.out.mono ?_
   rintro e w5 ⟨v5, rfl, hown5, hb5⟩
   have hsz5 := hb5.size
   have HO5 := hid (And.intro hown5 hb5)
   have q10 : w.heap.size ≤ w5.heap.size := by omega
   clear hown5 hb5
   go_wp2_with (at_builtin; go_loud (refine bL _ rfl (.tmp 24) (.tmp 26) _ rfl w.heap.size 5 i0 _ 1 1 Tryz.underlying32 hi0 hz0 hz1 hz2 rfl (by omega) _ _ _ rfl (ownsRow_below HO4.out.1 HO5.out.2 nl) _ _ _ _ _ rfl (Sl.of_owns HO5.out.1 (by omega)) (iP _) (by unfold maxLen mD; rw [jT]; omega) (by unfold mD; rw [jT]; omega) q10 ?_); intro v6 w6 hown6 hgrow6 hat6)
   have HO6 := hid (And.intro hown6 hgrow6)
   clear hown6 hgrow6 hat6
   go_wp2_with fail
   go_roundw
   case rel =>
    refine ⟨j + 1, HTK.out.2.2, by go_num, ?_, ?_⟩
    ·have h := HO6.out.1
     have e1 : (bytes E0 ++ bytes (bF k l)) ++ bytes (mD (Crc.jh (bF k l))) = bytes (kv (fs.take (j + 1))) := by rw [HTK.out.1]; unfold dY; simp [bytes]
     have e2 : (E0.length + (bF k l).length) + (mD (Crc.jh (bF k l))).length = (kv (fs.take (j + 1))).length := by rw [HTK.out.1]; unfold dY; simp; omega
     rw [e1, e2] at h
     exact h
    ·have hlo := HO4.out.1.lt
     exact (((HTK.out.2.1.trans (HB3.out.mono hlw)).grown HO4.out.2 q8 (fun k hk => (hob k hk).1)).trans (HO5.out.2.mono (by omega))).grown HO6.out.2 q10 (fun k hk => (hlo k hk).1)
   case measure => have := HTK.out.2.2; simp [intOf]; omega
  ·obtain rfl : j = fs.length := by omega
   rw [List.take_length] at hown
   have HOWN := hid (And.intro hown hbel)
   clear hown hbel
   go_wp2_with fail
   go_ret
   exact ⟨_, rfl, HOWN.out.1, HOWN.out.2⟩
def frR (r : Rec) : Fx := ⟨r.k.toNat, r.body⟩
def encR (rs : List Rec) : List UInt8 := kv (rs.map frR)
def rM (rs : List Rec) : Int := if 65536 < rs.length then 3 else if rs.all Rec.right then 0 else 50
def Dw (T : TypeId) (rs : List Rec) (w : World) (e : Ending) (w' : World) : Prop :=
 (rM rs = 0 → ∃ bv, e = .returned (.tuple #[bv, .int .i64 0]) ∧ w'.ownsRow w.heap.size T 1 bv (encR rs).length (bytes (encR rs))) ∧ (rM rs ≠ 0 → e = .returned (.tuple #[.slice none 0 0, .int .i64 (rM rs)])) ∧ Below w.heap.size w w'
theorem Dx : (Tryz.prog.info? 105).map (fun i => (i.zero, i.size, i.bytes)) = some (some (.agg #[.int .u8 0, .slice none 0 0]), 2, 32) := by kernel_rfl
theorem Dy {rs : List Rec} {j : Nat} (h : j < rs.length) (hb : rs[j].right = false) : rs.all Rec.right = false := by
 rw [List.all_eq_false]
 exact ⟨rs[j], List.getElem_mem _, by simp [hb]⟩
theorem Co {rs : List Rec} {j : Nat} (h : j < rs.length) (hb : rs[j].right = true) (ha : (rs.take j).all Rec.right = true) : (rs.take (j + 1)).all Rec.right = true := by
 rw [List.take_succ_eq_append_getElem h, List.all_append, ha]
 simp [hb]
theorem tC {cs : List Value} {c : Array Value} (h : Value.agg cs.toArray = .agg c) : cs = c.toList := by
 have h1 := congrArg Array.toList (Value.agg.inj h)
 simpa using h1
theorem qG (rs : List Rec) (hPut : ∀ q ∈ rs, ∀ (S : Nat → Prop) (v : Value) (w : World), aI w S false q v → Calls Tryz.prog 43 #[v] w (uV q w)) (S : Nat → Prop) (v : Value) (w : World) (hn : rs.length ≤ 70000) (hq : ∀ q ∈ rs, q.body.length ≤ 800000) (hv : ny Ce w S rs v) :
  Calls Tryz.prog 22 #[v] w (Dw 5 rs w) := by
 obtain ⟨i0, hi0, hz0, hz1, hz2⟩ := info_parts Dx
 have HPT := hid hPut
 clear hPut
 obtain ⟨hl0, ra, rc, rfl, hcp0⟩ := hv.shape
 have HV := hid (And.intro (hv.keep (I := Ce) (by decide) (fun _ _ _ => rfl) (S' := fun b => b < w.heap.size) (fun b hb _ => hb)) hq)
 clear hv hq
 by_cases hlim : 65536 < rs.length
 ·have HM : Hid (rM rs = 3) := hid (by unfold rM; rw [if_pos hlim])
  have t1 : (65536 : Int) < (rs.length : Int) := by omega
  clear hlim
  go_enter Tryz.func22, Tryz.ntmps22
  go_wp2_with fail
  go_ret2
  refine ⟨fun h => ?_, fun _ => ?_, br⟩
  ·rw [HM.out] at h; cases h
  ·rw [HM.out]; rfl
 have t1 : ¬ (65536 : Int) < (rs.length : Int) := by omega
 have HM : Hid (rM rs = if rs.all Rec.right then 0 else 50) := hid (by unfold rM; rw [if_neg hlim])
 clear hlim
 go_enter Tryz.func22, Tryz.ntmps22
 go_wp2_with fail
 go_loopw [4, 14] (fun sv i wr => ∃ j : Nat, j ≤ rs.length ∧ i = .int .i64 (j : Nat) ∧ (rs.take j).all Rec.right = true ∧ aO frI wr w.heap.size 105 sv ((rs.take j).map frR) ∧ Below w.heap.size w wr) (fun _ i _ => rs.length - (intOf i).toNat)
 case atStart => exact ⟨0, by omega, rfl, rfl, aO.nil _ _ _ nl, br⟩
 case round =>
  obtain ⟨j, hj, rfl, hall, hmk, hbel⟩ := hrel
  have hsz0 := hbel.size
  by_cases hlt : j < rs.length
  ·obtain ⟨bl, off, cs, rfl, hbs, hpr, hcc⟩ := ny.at (I := Ce) (by decide) HV.out.1 j hlt
   obtain ⟨r, hr⟩ : ∃ r, r = rs[j] := ⟨_, rfl⟩
   rw [← hr] at hpr
   have hpr : aI w (fun b => b < w.heap.size) false r (.agg cs.toArray) := hpr
   obtain ⟨k0, k1, k2, k3, k4, k5, k6, k7, ek, _⟩ := hpr.conc
   obtain rfl := tC ek
   have hpr : aI w (fun b => b < w.heap.size) false r (.agg #[.int .i64 r.k, .int .u64 (r.t : Nat), .int .u64 (r.x : Nat), .int .u64 (r.w : Nat), .int .u64 (r.n : Nat), .int .u64 (r.v : Nat), .int .i64 k0, .int .u64 (k1 : Nat), .int .u64 (k2 : Nat), .slice k3 k4 k5, .slice k6 r.es.length k7]) := hpr
   have hcc : ∀ k, k < 11 → wr.cell? ⟨bl, off + j * 11 + k, none⟩ = [.int .i64 r.k, .int .u64 (r.t : Nat), .int .u64 (r.x : Nat), .int .u64 (r.w : Nat), .int .u64 (r.n : Nat), .int .u64 (r.v : Nat), .int .i64 k0, .int .u64 (k1 : Nat), .int .u64 (k2 : Nat), .slice k3 k4 k5, .slice k6 r.es.length k7][k]? := fun k hk => (hbel.cell (p := ⟨bl, off + j * 11 + k, none⟩) hbs).trans (hcc k hk)
   have c0 := hcc 0 (by omega)
   have c1 := hcc 1 (by omega)
   have c2 := hcc 2 (by omega)
   have c3 := hcc 3 (by omega)
   have c4 := hcc 4 (by omega)
   have c5 := hcc 5 (by omega)
   have c6 := hcc 6 (by omega)
   have c7 := hcc 7 (by omega)
   have c8 := hcc 8 (by omega)
   have c9 := hcc 9 (by omega)
   have c10 := hcc 10 (by omega)
   simp only [Nat.add_zero, List.getElem?_cons_zero, List.getElem?_cons_succ] at c0 c1 c2 c3 c4 c5 c6 c7 c8 c9 c10
   have hqj := HPT.out rs[j] (List.getElem_mem _)
   rw [← hr] at hqj
   obtain ⟨sa, sc, hsv⟩ := aO.form (.inr hmk)
   rw [List.length_map, List.length_take, Nat.min_eq_left hj] at hsv
   subst hsv
   have i0' : (0 : Int) ≤ (j : Int) := by omega
   have i1' : (j : Int) < (rs.length : Int) := by omega
   have hb1 : Below wr.heap.size wr (wr.alloc (.cells #[.int .i64 r.k, .int .u64 (r.t : Nat), .int .u64 (r.x : Nat), .int .u64 (r.w : Nat), .int .u64 (r.n : Nat), .int .u64 (r.v : Nat), .int .i64 k0, .int .u64 (k1 : Nat), .int .u64 (k2 : Nat), .slice k3 k4 k5, .slice k6 r.es.length k7] 73)) := br.alloc nl _
   have HPUT := hid (hqj _ _ (wr.alloc (.cells #[.int .i64 r.k, .int .u64 (r.t : Nat), .int .u64 (r.x : Nat), .int .u64 (r.w : Nat), .int .u64 (r.n : Nat), .int .u64 (r.v : Nat), .int .i64 k0, .int .u64 (k1 : Nat), .int .u64 (k2 : Nat), .slice k3 k4 k5, .slice k6 r.es.length k7] 73)) (aI.below hpr (hbel.trans (hb1.mono hsz0)) nl))
   have HH := hid (And.intro hall (And.intro hmk (And.intro hbel (And.intro hlt (And.intro hr hb1)))))
   clear hall hmk hbel hr hb1 hpr hcc ek hqj
   go_wp2_with fail
   refine HPUT.out.mono ?_
   rintro e w2 ⟨hgo, hno, hb2⟩
   have hs2 := hb2.size
   rw [World.size_alloc] at hs2
   have hbw2 : Below w.heap.size w w2 := HH.out.2.2.1.trans ((HH.out.2.2.2.2.2.trans (hb2.mono (by simp))).mono hsz0)
   cases hrt : r.right with
   | false =>
    obtain rfl := hno hrt
    have HE : Hid (rM rs = 50) := hid (by rw [HM.out, Dy HH.out.2.2.2.1 (by rw [← HH.out.2.2.2.2.1]; exact hrt)]; rfl)
    have HB := hid hbw2
    clear hgo hno hb2 hbw2 hrt c0 c1 c2 c3 c4 c5 c6 c7 c8 c9 c10
    go_wp2_with fail
    go_ret2
    refine ⟨fun h => ?_, fun _ => ?_, HB.out.alloc (by omega) _⟩
    ·rw [HE.out] at h; cases h
    ·rw [HE.out]; rfl
   | true =>
    obtain ⟨bv, rfl, hbv⟩ := hgo hrt
    have hrk : ∃ kk : Nat, r.k = (kk : Int) ∧ kk = r.k.toNat := by
     have h1 := ((Rec.right_iff r).1 hrt).1
     exact ⟨r.k.toNat, by omega, rfl⟩
    obtain ⟨kk, hkk, hkn⟩ := hrk
    rw [hkk]
    obtain ⟨hbl, ad, cp, rfl, _⟩ := hbv.shape
    obtain ⟨ys, hi, hh, hown, hrg⟩ := HH.out.2.1
    have hml : ((rs.take j).map frR).length = j := by rw [List.length_map, List.length_take, Nat.min_eq_left hj]
    rw [hml] at hown
    have hob := hown.lt
    have hown' := ownsRow_below hown (HH.out.2.2.2.2.2.trans (hb2.mono (by simp))) nl
    have HX := hid (And.intro hh (And.intro hown (And.intro hrg (And.intro hml (And.intro hkn (And.intro hbv (And.intro hrt (And.intro hb2 hbw2))))))))
    have q7 : w.heap.size ≤ w2.heap.size := by omega
    have q65 : j + 1 ≤ 70000 := by omega
    clear hgo hno hb2 hbw2 hrt hh hown hrg hml hkn hbv hkk c0 c1 c2 c3 c4 c5 c6 c7 c8 c9 c10
    go_wp2_with (at_builtin; go_loud (refine wpList_append_lies _ rfl (.tmp 26) (.tmp 28) 116 rfl w.heap.size 105 i0 _ 2 32 Tryz.underlying116 hi0 hz0 hz1 hz2 rfl (by omega) (.slice sa j sc) j ys rfl ((hown'.alloc _).alloc _) ⟨w2.heap.size + 1, 0, none⟩ 1 1 [.int .u8 (kk : Nat), .slice ad r.body.length cp] rfl rfl (World.news_of_block (cs := #[.int .u8 (kk : Nat), .slice ad r.body.length cp]) (t := 105) (fr := (0, 0)) (aa _ _ _ (by simp))) (by simp [Value.oneCell']) (by omega) (by unfold maxLen; omega) (by omega) (by rw [World.size_alloc, World.size_alloc]; omega) (w2.heap.size + 1 + 1) (by simp) ?_); intro gg gcap w4 hown2 hgrow hat hlt2)
    have HG := hid (And.intro hown2 (And.intro hgrow hat))
    clear hown2 hgrow hat hown'
    go_wp2_with fail
    go_roundw
    case rel =>
     obtain ⟨hh, hown, hrg, hml, hkn, hbv, hrt, hb2, hbw2⟩ := HX.out
     have hrr : rs[j]'HH.out.2.2.2.1 = r := HH.out.2.2.2.2.1.symm
     refine ⟨j + 1, HH.out.2.2.2.1, by go_num, Co HH.out.2.2.2.1 (by rw [hrr]; exact hrt) HH.out.1, ?_, ?_⟩
     ·have hmm : (rs.take (j + 1)).map frR = (rs.take j).map frR ++ [⟨kk, r.body⟩] := by
       rw [List.take_succ_eq_append_getElem HH.out.2.2.2.1, List.map_append, hrr, hkn]
       rfl
      rw [hmm]
      have hp := aO.push (I := frI) (q := ⟨kk, r.body⟩) (cs := [.int .u8 (kk : Nat), .slice ad r.body.length cp]) hh (by rw [hml]; exact hown) hrg (HH.out.2.2.2.2.2.trans (hb2.mono (by simp))) nl ⟨_, rfl, Sl.keep (Sl.unown hbv) (by omega) (fun _ _ _ => rfl) (fun b hl hb => by have hb : (wr.alloc _).heap.size ≤ b := hb; rw [World.size_alloc] at hb; omega)⟩ ((br.alloc nl _).alloc (by simp) _) HG.out.2.1 (by rw [hml]; exact HG.out.1) (HG.out.2.2.imp id (by omega))
      rw [hml] at hp
      exact hp
     ·exact ((hbw2.alloc q7 _).alloc (by simp; omega) _).grown HG.out.2.1 (by simp; omega) (fun k hk => (hob k hk).1)
    case measure => have := HH.out.2.2.2.1; simp [intOf]; omega
  ·obtain rfl : j = rs.length := by omega
   rw [List.take_length] at hall hmk
   have HE : Hid (rM rs = 0) := hid (by rw [HM.out, hall]; rfl)
   have hrl := hmk.rowL (I := frI) (by decide)
   have hrl2 := hrl.keep (I := frI) (S' := fun b => b < wr.heap.size) (by decide) (fun _ _ _ => rfl) (fun b hb _ => hb)
   have HF := hid (yz (rs.map frR) _ wr (by rw [List.length_map]; exact hn) (fun x hx => by
    obtain ⟨q, hq, rfl⟩ := List.mem_map.1 hx
    have h1 := (Rec.right_iff q).1 (List.all_eq_true.1 hall q hq)
    refine ⟨?_, HV.out.2 q hq⟩
    have h2 := h1.1
    have h3 := h1.2.1
    show q.k.toNat < 256
    omega) hrl2)
   have HB := hid hbel
   clear hall hmk hbel hrl hrl2
   go_wp2_with fail
   refine HF.out.mono ?_
   rintro e w2 ⟨bv, rfl, hown, hb2⟩
   have HO := hid (And.intro hown hb2)
   clear hown hb2
   go_wp2_with fail
   go_ret2
   exact ⟨fun _ => ⟨bv, rfl, jo HO.out.1 hsz0⟩, fun h => absurd HE.out h, HB.out.trans (HO.out.2.mono hsz0)⟩
end Go.Proofs.YtlpgokcapdjgjaaGreatDoor
