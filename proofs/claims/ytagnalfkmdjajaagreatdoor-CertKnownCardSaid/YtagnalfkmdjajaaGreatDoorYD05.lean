/- Walks. -/
import Derived.Test.YtagnalfkmdjajaaGreatDoorYD04
set_option maxHeartbeats 2000000
set_option maxRecDepth 100000
namespace Go.Proofs.YtagnalfkmdjajaaGreatDoor
open Go.RowKit Go
set_option linter.unusedVariables false
set_option linter.unusedSimpArgs false
def AA (w : World) (a : Nat) (f : Frm) (e : Ending) (w' : World) : Prop := e = .returned (.tuple #[.agg #[.int .u8 (f.kind : Nat), .string ⟨f.pay.toArray⟩], .int .i64 (if f.rule = 0 then ((a + f.len : Nat) : Int) else 0), .int .i64 f.rule]) ∧ Below w.heap.size w w'
theorem gy {w w' : World} {a : Nat} {r : Int} (h0 : r ≠ 0) (hb : Below w.heap.size w w') : AA w a (.no r) (.returned (.tuple #[.agg #[.int .u8 0, .string ⟨#[]⟩], .int .i64 0, .int .i64 r])) w' :=
 ⟨by unfold Frm.no; simp only [if_neg h0]; rfl, hb⟩
theorem zN {k : UInt8} {r s : List UInt8} {n : Nat} (h2 : bX r = some (n, s)) (h3 : n + 4 ≤ s.length) : aO (k :: r) = if (k :: r).take (aS k.toNat (s.take n)).length = aS k.toNat (s.take n) then ⟨0, k.toNat, s.take n, (aS k.toNat (s.take n)).length⟩ else .no 3 := by
 have h : dn r ≠ 10 := fun e => by have := (dA r).2 (by rw [h2]; rfl); omega
 unfold aO; simp only [if_neg h, h2, if_neg (show ¬ s.length < n + 4 from by omega)]
theorem BN {k : UInt8} {r s : List UInt8} {n : Nat} (h2 : bX r = some (n, s)) (h3 : n + 4 ≤ s.length) : (aS k.toNat (s.take n)).length = 1 + (r.length - s.length) + n + 4 := by
 unfold aS; rw [List.length_append, (lY (k := k) h2 h3).2, nJ]
theorem yg (S : Nat → Prop) (own : Bool) (b : List UInt8) (v : Value) (p0 : Nat) (w : World) (hr : au w S own b v) (ha : p0 ≤ b.length) (hb : b.length ≤ 100000) :
  Calls Tryz.prog 86 #[v, .int .i64 p0] w (AA w p0 (aO (b.drop p0))) := by
 obtain ⟨_, ad, cap, rfl, hc⟩ := hr.shape
 have g0 := heap_alloc_new w (.cells #[.int .u8 0, .string ⟨#[]⟩] 102)
 have hb0 : Below w.heap.size w (w.alloc (.cells #[.int .u8 0, .string ⟨#[]⟩] 102)) := br.alloc nl _
 have hs0 : (w.alloc (.cells #[.int .u8 0, .string ⟨#[]⟩] 102)).heap.size = w.heap.size + 1 := World.size_alloc _ _
 have HR := hid (hr.below hb0 nl)
 have HB := hid hb0
 clear hr hb0
 by_cases he : p0 < b.length
 ·obtain ⟨k, r, hkr⟩ : ∃ k r, b.drop p0 = k :: r := by
   cases h : b.drop p0 with
   | nil => have := congrArg List.length h; simp at this; omega
   | cons k r => exact ⟨k, r, rfl⟩
  have hrd : r = b.drop (p0 + 1) := by rw [← List.drop_drop, hkr]; rfl
  have hrl : r.length = b.length - (p0 + 1) := by rw [hrd]; simp
  have HG := hid (qV S own b _ (p0 + 1) _ HR.out (by omega) (by omega))
  rw [← hrd] at HG
  have HKR := hid (And.intro hkr hrd)
  rw [hkr]
  clear hkr hrd
  go_enter Tryz.func86, Tryz.ntmps86
  go_wp2_with fail
  refine HG.out.mono ?_
  rintro e w1 ⟨rfl, hb1⟩
  unfold sQ
  have g1 : w1.heap[w.heap.size]? = some (.cells #[.int .u8 0, .string ⟨#[]⟩] 102 (0, 0)) := (hb1.block _ (by omega)).trans g0
  have HB1 := hid (HB.out.trans (hb1.mono (by omega)))
  have HR1 := hid (HR.out.below hb1 nl)
  have hs1 := hb1.size
  clear hb1 g0
  by_cases h10 : dn r = 10
  ·have t1 : (dn r == 10) = true := by simp [h10]
   have HE := hid (xC (k := k) h10)
   clear h10
   go_wp2_with (refine wpList_store_row rfl 102 (.tmp 4) (.tmp 32) rfl rfl w.heap.size rfl _ rfl 102 _ g1 (by kernel_rfl) rfl (by simp [Value.oneCell']) ?_)
   exact bodyPost_ret (v := .tuple #[.agg #[.int .u8 0, .string ⟨#[]⟩], .int .i64 0, .int .i64 2]) (bz rfl _ _ w.heap.size 102 _ _ _ _ _ rfl (setRow_heap _ _ _ _ _ _ g1) Tryz.underlying102 rfl (by kernel_rfl) rfl rfl) rfl (by rw [HE.out]; exact gy (r := 2) (by decide) (below_setRow HB1.out _ _ nl))
  ·have t1 : (dn r == 10) = false := by simp [h10]
   cases hv : bX r with
   | none =>
    have hc0 : (dn r != 0) = true := by
     have : ¬ dn r = 0 := fun e => by have := (dA r).1 e; rw [hv] at this; cases this
     simpa using this
    have HE := hid (uB (k := k) h10 hv)
    clear h10 hv
    go_wp2_with (refine wpList_store_row rfl 102 (.tmp 4) (.tmp 52) rfl rfl w.heap.size rfl _ rfl 102 _ g1 (by kernel_rfl) rfl (by simp [Value.oneCell']) ?_)
    exact bodyPost_ret (v := .tuple #[.agg #[.int .u8 0, .string ⟨#[]⟩], .int .i64 0, .int .i64 1]) (bz rfl _ _ w.heap.size 102 _ _ _ _ _ rfl (setRow_heap _ _ _ _ _ _ g1) Tryz.underlying102 rfl (by kernel_rfl) rfl rfl) rfl (by rw [HE.out]; exact gy (r := 1) (by decide) (below_setRow HB1.out _ _ nl))
   | some x =>
    obtain ⟨n, s⟩ := x
    have hc0 : (dn r != 0) = false := by
     have : dn r = 0 := (dA r).2 (by rw [hv]; rfl)
     simp [this]
    have hsl := ko hv
    have hgn : mQ r = n := by unfold mQ; rw [hv]
    have hga : dP (p0 + 1) r = p0 + 1 + (r.length - s.length) := by unfold dP; rw [hv]
    have hn64 := mP hv
    rw [hgn, hga]
    obtain ⟨f0, hf0⟩ : ∃ f0, f0 = p0 + 1 + (r.length - s.length) := ⟨_, rfl⟩
    rw [← hf0]
    have HF0 := hid (And.intro hf0 hrl)
    obtain ⟨sl, hsl0⟩ : ∃ sl, sl = s.length := ⟨_, rfl⟩
    have hfl : f0 + sl = b.length := by omega
    have hfa : p0 + 1 ≤ f0 := by omega
    have HV := hid hv
    have HSL := hid hsl0
    clear h10 hgn hga hv hf0 hrl hsl hsl0
    by_cases h4 : sl < n + 4
    ·have HE := hid (qY (k := k) HV.out (by have := HSL.out; omega))
     by_cases h5 : b.length < n
     ·go_wp2_with (refine wpList_store_row rfl 102 (.tmp 4) (.tmp 52) rfl rfl w.heap.size rfl _ rfl 102 _ g1 (by kernel_rfl) rfl (by simp [Value.oneCell']) ?_)
      exact bodyPost_ret (v := .tuple #[.agg #[.int .u8 0, .string ⟨#[]⟩], .int .i64 0, .int .i64 1]) (bz rfl _ _ w.heap.size 102 _ _ _ _ _ rfl (setRow_heap _ _ _ _ _ _ g1) Tryz.underlying102 rfl (by kernel_rfl) rfl rfl) rfl (by rw [HE.out]; exact gy (r := 1) (by decide) (below_setRow HB1.out _ _ nl))
     ·have k1 : (0 : Int) ≤ (n : Int) := by omega
      have k2 : IntKind.i64.wrap (n : Int) = (n : Int) := by rw [IntKind.wrap_i64]; omega
      have k3 : IntKind.i64.wrap ((f0 : Int) + (n : Int)) = (f0 : Int) + (n : Int) := by rw [IntKind.wrap_i64]; omega
      have k4 : IntKind.i64.wrap ((f0 : Int) + (n : Int) + 4) = (f0 : Int) + (n : Int) + 4 := by rw [IntKind.wrap_i64]; omega
      go_wp2_with (refine wpList_store_row rfl 102 (.tmp 4) (.tmp 52) rfl rfl w.heap.size rfl _ rfl 102 _ g1 (by kernel_rfl) rfl (by simp [Value.oneCell']) ?_)
      exact bodyPost_ret (v := .tuple #[.agg #[.int .u8 0, .string ⟨#[]⟩], .int .i64 0, .int .i64 1]) (bz rfl _ _ w.heap.size 102 _ _ _ _ _ rfl (setRow_heap _ _ _ _ _ _ g1) Tryz.underlying102 rfl (by kernel_rfl) rfl rfl) rfl (by rw [HE.out]; exact gy (r := 1) (by decide) (below_setRow HB1.out _ _ nl))
    ·have h4' : n + 4 ≤ s.length := by have := HSL.out; omega
     have hn4 : n + 4 ≤ sl := by omega
     obtain ⟨E, hE0⟩ : ∃ E, E = f0 + n := ⟨_, rfl⟩
     have hE : (f0 : Int) + (n : Int) = (E : Int) := by omega
     have i1 : (0 : Int) ≤ (p0 : Int) := by omega
     have i2 : (p0 : Int) ≤ (E : Int) := by omega
     have i3 : (E : Int) ≤ (cap : Int) := by omega
     have i4 : (0 : Int) ≤ (E : Int) := by omega
     have i5 : (E : Int) ≤ (E : Int) + 4 := by omega
     have i6 : (E : Int) + 4 ≤ (cap : Int) := by omega
     have i7 : (0 : Int) ≤ (E : Int) + 4 := by omega
     have i8 : ((E : Int) + 4).toNat = E + 4 := by omega
     have i9 : IntKind.i64.wrap ((E : Int) + 4) = (E : Int) + 4 := by rw [IntKind.wrap_i64]; omega
     have n1 : p0 ≤ E := by omega
     have n2 : E ≤ cap := by omega
     have n4 : E + 4 ≤ cap := by omega
     have n5 : E + 4 - E = 4 := by omega
     have HE := hid (And.intro hE0 hn4)
     clear hE0
     obtain ⟨bl, off, rfl, _, q0⟩ := au.at8 HR1.out he
     have hk8 : at8 b p0 = k.toNat := by
      have := gM b p0 he
      rw [this]
      have h2 : (b.drop p0)[0]? = some k := by rw [HKR.out.1]; rfl
      rw [List.getElem?_drop, Nat.add_zero, List.getElem?_eq_getElem he] at h2
      injection h2 with h2
      rw [h2]
     rw [hk8] at q0
     have hbl := World.block_lt_of_cell? _ ⟨bl, off + p0, none⟩ q0
     obtain ⟨PS, hPS⟩ : ∃ PS : ByteArray, PS = ⟨(s.take n).toArray⟩ := ⟨_, rfl⟩
     have HP := hid (fun w' (hb' : Below w1.heap.size w1 w') => show (convert 29 9 (.slice (some ⟨bl, off + f0, none⟩) n (cap - f0))).run Tryz.prog w' = .ok (.string PS) w' from by
      have h := (au.cut HR1.out f0 n (cap - f0) (by have := HE.out.1; omega) (by have := HE.out.1; omega)).below hb' nl
      have e2 : s = b.drop f0 := by
       have := jk HV.out
       rw [this, HKR.out.2, List.drop_drop]
       congr 1
       rw [← HKR.out.2]; have := HF0.out.1; omega
      rw [← e2] at h
      simp only [Option.map_some, Addr.add_lit] at h
      rw [hPS]
      exact jl _ _ _ _ _ h)
     have HPS := hid hPS
     have HW := hid (zN (k := k) HV.out h4')
     have HBL := hid (show (aS k.toNat (s.take n)).length = E + 4 - p0 by rw [BN HV.out h4']; have := HF0.out.1; have := HE.out.1; omega)
     have hpz : PS.size ≤ 800000 := by have h := Lib.size_eq PS; rw [h, hPS]; have := HSL.out; simp; omega
     have j1 : (0 : Int) ≤ (f0 : Int) := by omega
     have j2 : (f0 : Int) ≤ (E : Int) := by have := HE.out.1; omega
     have j3 : f0 ≤ E := by have := HE.out.1; omega
     have j4 : E - f0 = n := by have := HE.out.1; omega
     have j5 : (f0 == cap) = false := by have := HE.out.1; simp; omega
     have j6 : ¬ f0 = cap := by have := HE.out.1; omega
     have j7 : ¬ cap = f0 := by have := HE.out.1; omega
     have j8 : (p0 : Int) < (b.length : Int) := by omega
     have k2 : IntKind.i64.wrap (n : Int) = (n : Int) := by rw [IntKind.wrap_i64]; omega
     have hinf : (Tryz.prog.info? 102).map (·.size) = some 2 := by kernel_rfl
     clear hPS h4 h4'
     go_upto_region 8 with fail
     refine aK (w0 := w1) rfl [.eq (.slice (some ⟨bl, off, none⟩) b.length cap), .eq (.int .i64 (p0 : Nat)), .eq (.pointer (some ⟨bl, off + p0, none⟩)), .eq (.int .u8 (k.toNat : Nat)), .eq (.slice (some ⟨bl, off, none⟩) b.length cap), .eq (.int .i64 (f0 : Nat)), .eq (.int .i64 (f0 : Nat)), .eq (.int .u64 (n : Nat)), .eq (.int .i64 (n : Nat)), .eq (.int .i64 (E : Nat)), .eq (.slice (some ⟨bl, off + f0, none⟩) n (cap - f0)), .eq (.string PS), .eq (.agg #[.int .u8 (k.toNat : Nat), .string PS]), .box 102 #[.int .u8 0, .string ⟨#[]⟩], .sto 13 12] (by kernel_rfl) ⟨?_, ?_, ?_, ?_, ?_, ?_, ?_, ?_, ?_, ?_, ?_, ?_, ?_, ?_, ?_, trivial⟩ (fun vs => [(53, (.slice (some ⟨bl, off, none⟩) b.length cap)), (54, (.int .i64 (p0 : Nat))), (55, (.pointer (some ⟨bl, off + p0, none⟩))), (56, (.int .u8 (k.toNat : Nat))), (57, (.slice (some ⟨bl, off, none⟩) b.length cap)), (58, (.int .i64 (f0 : Nat))), (59, (.int .i64 (f0 : Nat))), (60, (.int .u64 (n : Nat))), (61, (.int .i64 (n : Nat))), (62, (.int .i64 (E : Nat))), (63, (.slice (some ⟨bl, off + f0, none⟩) n (cap - f0))), (64, (.string PS)), (65, (.agg #[.int .u8 (k.toNat : Nat), .string PS])), (10, vs 13)]) (fun _ => rfl) ?_
     ·refine rs fun S a wx K Q hR hK => ?_
      have t0 : a.tmps[0]? = some (.slice (some ⟨bl, off, none⟩) b.length cap) := hR.o 0
      go_simp
      exact hK _ _ br rfl
     ·refine rs fun S a wx K Q hR hK => ?_
      have t1 : a.tmps[1]? = some (.int .i64 (p0 : Nat)) := hR.o 1
      go_simp
      exact hK _ _ br rfl
     ·refine rs fun S a wx K Q hR hK => ?_
      have t53 := hR.q 0
      have t54 := hR.q 1
      go_simp
      exact hK _ _ br rfl
     ·refine rs fun S a wx K Q hR hK => ?_
      have t55 := hR.q 2
      have y0 := (hR.bel.cell (p := ⟨bl, off + p0, none⟩) hbl).trans q0
      go_simp
      exact hK _ _ br rfl
     ·refine rs fun S a wx K Q hR hK => ?_
      have t0 : a.tmps[0]? = some (.slice (some ⟨bl, off, none⟩) b.length cap) := hR.o 0
      go_simp
      exact hK _ _ br rfl
     ·refine rs fun S a wx K Q hR hK => ?_
      have t8 : a.tmps[8]? = some (.int .i64 (f0 : Nat)) := hR.o 8
      go_simp
      exact hK _ _ br rfl
     ·refine rs fun S a wx K Q hR hK => ?_
      have t8 : a.tmps[8]? = some (.int .i64 (f0 : Nat)) := hR.o 8
      go_simp
      exact hK _ _ br rfl
     ·refine rs fun S a wx K Q hR hK => ?_
      have t7 : a.tmps[7]? = some (.int .u64 (n : Nat)) := hR.o 7
      go_simp
      exact hK _ _ br rfl
     ·refine rs fun S a wx K Q hR hK => ?_
      have t60 := hR.q 7
      go_simp
      (try go_ints)
      exact hK _ _ br rfl
     ·refine rs fun S a wx K Q hR hK => ?_
      have t59 := hR.q 6
      have t61 := hR.q 8
      go_simp
      (try go_ints)
      exact hK _ _ br rfl
     ·refine rs fun S a wx K Q hR hK => ?_
      have t57 := hR.q 4
      have t58 := hR.q 5
      have t62 := hR.q 9
      go_simp
      exact hK _ _ br rfl
     ·refine rs fun S a wx K Q hR hK => ?_
      have t63 := hR.q 10
      have hcv := HP.out wx hR.bel
      go_simp
      (try go_ints)
      exact hK _ _ br rfl
     ·refine rs fun S a wx K Q hR hK => ?_
      have t56 := hR.q 3
      have t64 := hR.q 11
      go_simp
      exact hK _ _ br rfl
     ·intro w; kernel_rfl
     ·exact StoOK.mk rfl rfl rfl hinf (fun S v w h => ⟨_, h, rfl, by simp [Value.oneCell']⟩)
     intro S8 vs wd hD
     obtain ⟨g, cs, e10, hlg, _, hg, e65, _⟩ := hD.box 14 13 12 _ _ rfl rfl
     have e12 := hD.eqs 12 _ rfl
     rw [e12] at e65
     injection e65 with e65
     subst e65
     have e10' : vs 13 = .pointer (some ⟨g, 0, none⟩) := e10
     have hsd := hD.bel.size
     have gd := (hD.bel.block w.heap.size (by omega)).trans g1
     have d0 : wd.cell? ⟨g, 0, none⟩ = some (.int .u8 (k.toNat : Nat)) := by rw [cell_of_row wd _ 0 _ _ _ hg]; rfl
     have d1 : wd.cell? ⟨g, 1, none⟩ = some (.string PS) := by rw [cell_of_row wd _ 1 _ _ _ hg]; rfl
     have hgl := (Array.getElem?_eq_some_iff.1 hg).1
     have HBd := hid (HB1.out.trans (hD.bel.mono (by omega)))
     have HRd := hid (HR1.out.below hD.bel nl)
     simp only [e10', aP, List.foldl_cons, List.foldl_nil]
     clear hD e10 e10' e12 hg g1 HP q0 hbl hlg
     have HPUT := hid (ow k.toNat PS wd k.toNat_lt hpz)
     go_simp
     go_wp2_with fail
     refine HPUT.out.mono ?_
     rintro e w2 ⟨pv, rfl, hown2, hb2⟩
     have hfe : aS k.toNat PS.data.toList = aS k.toNat (s.take n) := by rw [HPS.out]
     rw [hfe] at hown2
     obtain ⟨fb, hfb⟩ : ∃ fb, fb = aS k.toNat (s.take n) := ⟨_, rfl⟩
     rw [← hfb] at hown2 HW HBL
     have HFB := hid hfb
     clear hfe hfb
     have HPV := hid (au.of_owns hown2)
     obtain ⟨sa2, sc2, rfl⟩ := ag hown2
     have hs2 := hb2.size
     have g2 := (hb2.block w.heap.size (by omega)).trans gd
     have m0 := (hb2.cell (p := ⟨g, 0, none⟩) hgl).trans d0
     have m1 := (hb2.cell (p := ⟨g, 1, none⟩) hgl).trans d1
     have HB2 := hid (HBd.out.trans (hb2.mono (by omega)))
     have HR2 := hid (HRd.out.below hb2 nl)
     have hgl2 : g < w2.heap.size := by omega
     have hfl2 : fb.length = E + 4 - p0 := HBL.out
     have hkl : (k :: r).length = b.length - p0 := by rw [← HKR.out.1]; simp
     have hle2 : fb.length ≤ (k :: r).length := by have := HE.out; omega
     have HLL := hid (And.intro hfl2 (And.intro hkl hle2))
     obtain ⟨N, hN⟩ : ∃ N, N = fb.length := ⟨_, rfl⟩
     have hNb : p0 + N ≤ b.length := by omega
     have HN := hid hN
     rw [← hN]
     clear hown2 hb2 gd d0 d1 hfl2 hkl hle2 hN
     go_wp2_with fail
     go_loopw [12] (fun i wr => ∃ j : Nat, j ≤ N ∧ i = .int .i64 j ∧ Hid (fb.take j = (k :: r).take j) ∧ Below w2.heap.size w2 wr) (fun i _ => N - (intOf i).toNat)
     case atStart => exact ⟨0, by omega, rfl, hid (by simp), br⟩
     case round =>
      obtain ⟨j, hj, rfl, heq, hbel⟩ := hrel
      have hsr := hbel.size
      have gr := (hbel.block w.heap.size (by omega)).trans g2
      have HBr := hid (HB2.out.trans (hbel.mono (by omega)))
      by_cases hlt : j < N
      ·have hj1 : j < fb.length := by have := HN.out; omega
       have hj2 : j < (k :: r).length := by have := HLL.out.2.2; omega
       obtain ⟨bl3, off3, h3, _, q⟩ := au.at8 HPV.out hj1
       subst h3
       obtain ⟨bl4, off4, h4, _, q'⟩ := au.at8 (j := p0 + j) HR2.out (by omega)
       simp only [Option.some.injEq, Addr.mk.injEq, and_true] at h4
       obtain ⟨rfl, rfl⟩ := h4
       have qr := (hbel.cell (World.block_lt_of_cell? w2 _ q)).trans q
       have qr' := (hbel.cell (World.block_lt_of_cell? w2 _ q')).trans q'
       have x1 : (0 : Int) ≤ (j : Int) := by omega
       have x2 : (j : Int) < (N : Int) := by omega
       have x3 : (0 : Int) ≤ (p0 : Int) + (j : Int) := by omega
       have x4 : (p0 : Int) + (j : Int) < (b.length : Int) := by omega
       have x5 : ((p0 : Int) + (j : Int)).toNat = p0 + j := by omega
       have hb8 : at8 b (p0 + j) = at8 (k :: r) j := by rw [← HKR.out.1, xu]
       rw [hb8] at qr'
       have h81 := gM fb j hj1
       have h82 := gM (k :: r) j hj2
       obtain ⟨u, hu⟩ : ∃ u, u = at8 fb j := ⟨_, rfl⟩
       obtain ⟨v, hv⟩ : ∃ v, v = at8 (k :: r) j := ⟨_, rfl⟩
       rw [← hu] at qr h81
       rw [← hv] at qr' h82
       by_cases he8 : u = v
       ·have HT := hid (fu fb (k :: r) j hj1 hj2 heq.out (UInt8.toNat_inj.1 (by omega)))
        subst he8
        clear hu hv h81 h82 hb8 q q'
        go_wp2_with fail
        go_quiet (fail)
        go_wp2_with fail
        go_roundw
        case rel => exact ⟨j + 1, by omega, by go_num, HT, below_drewN hbel _⟩
        case measure => simp [intOf]; omega
       ·have t8 : ((u : Int) != (v : Int)) = true := by simp; omega
        have t9 : ¬ ((u : Int) = (v : Int)) := by omega
        have HF : Hid (aO (k :: r) = .no 3) := hid (by
         rw [HW.out, if_neg]
         intro e
         have e2 : (fb)[j]? = (k :: r)[j]? := by
          have := congrArg (fun l => l[j]?) e
          simp only [List.getElem?_take, if_pos hj1] at this
          exact this.symm
         rw [List.getElem?_eq_getElem hj1, List.getElem?_eq_getElem hj2] at e2
         injection e2 with e2
         rw [e2] at h81
         omega)
        clear hu hv h81 h82 hb8 q q' he8
        have grn : ∀ i, (wr.drewN i).heap[w.heap.size]? = some (.cells #[.int .u8 0, .string ⟨#[]⟩] 102 (0, 0)) := fun i => gr
        go_wp2_with fail
        go_quiet (fail)
        go_wp2_with (refine wpList_store_row rfl 102 (.tmp 4) (.tmp 85) rfl rfl w.heap.size rfl _ rfl 102 _ (grn _) (by kernel_rfl) rfl (by simp [Value.oneCell']) ?_)
        exact bodyPost_ret (v := .tuple #[.agg #[.int .u8 0, .string ⟨#[]⟩], .int .i64 0, .int .i64 3]) (bz rfl _ _ w.heap.size 102 _ _ _ _ _ rfl (setRow_heap _ _ _ _ _ _ (grn _)) Tryz.underlying102 rfl (by kernel_rfl) rfl rfl) rfl (by rw [HF.out]; exact gy (r := 3) (by decide) (below_setRow (below_drewN HBr.out _) _ _ nl))
      ·have hj2 : j = N := by omega
       subst hj2
       have HF : Hid (aO (k :: r) = ⟨0, k.toNat, s.take n, fb.length⟩) := hid (by
        rw [HW.out, if_pos]
        have h := heq.out
        rw [HN.out, List.take_length] at h
        exact h.symm)
       have mr0 := (hbel.cell (p := ⟨g, 0, none⟩) hgl2).trans m0
       have mr1 := (hbel.cell (p := ⟨g, 1, none⟩) hgl2).trans m1
       go_wp2_with (refine wpList_store_row rfl 102 (.tmp 4) (.tmp 86) rfl rfl w.heap.size rfl _ rfl 102 _ gr (by kernel_rfl) rfl (by simp [Value.oneCell']) ?_)
       exact bodyPost_ret (v := .tuple #[.agg #[.int .u8 (k.toNat : Nat), .string PS], .int .i64 ((p0 : Int) + (j : Int)), .int .i64 0]) (bz rfl _ _ w.heap.size 102 _ _ _ _ _ rfl (setRow_heap _ _ _ _ _ _ gr) Tryz.underlying102 rfl (by kernel_rfl) rfl rfl) rfl (by
        rw [HF.out]
        refine ⟨?_, below_setRow HBr.out _ _ nl⟩
        have he4 : ((p0 + fb.length : Nat) : Int) = (p0 : Int) + (j : Int) := by have := HN.out; omega
        simp only [if_true, he4, HPS.out])
 ·have hn : b.drop p0 = [] := List.drop_of_length_le (by omega)
  rw [hn]
  have HE := hid xB
  have hab : p0 = b.length := by omega
  go_enter Tryz.func86, Tryz.ntmps86
  go_wp2_with (refine wpList_store_row rfl 102 (.tmp 4) (.tmp 21) rfl rfl w.heap.size rfl _ rfl 102 _ g0 (by kernel_rfl) rfl (by simp [Value.oneCell']) ?_)
  exact bodyPost_ret (v := .tuple #[.agg #[.int .u8 0, .string ⟨#[]⟩], .int .i64 0, .int .i64 1]) (bz rfl _ _ w.heap.size 102 _ _ _ _ _ rfl (setRow_heap _ _ _ _ _ _ g0) Tryz.underlying102 rfl (by kernel_rfl) rfl rfl) rfl (by rw [HE.out]; exact gy (r := 1) (by decide) (below_setRow HB.out _ _ nl))
end Go.Proofs.YtagnalfkmdjajaaGreatDoor
