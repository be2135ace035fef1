/- Walks. -/
import Derived.Test.YtlpgokcapdjgjaaGreatDoorY73
import Derived.Test.YtlpgokcapdjgjaaGreatDoorY84
set_option maxHeartbeats 8000000
set_option maxRecDepth 100000
namespace Go.Proofs.YtlpgokcapdjgjaaGreatDoor
open Go.RowKit Go
set_option linter.unusedVariables false
set_option linter.unusedSimpArgs false
def BQ (w : World) (a : Nat) (f : Frm) (e : Ending) (w' : World) : Prop := e = .returned (.tuple #[.agg #[.int .u8 (f.kind : Nat), .string ⟨f.pay.toArray⟩], .int .i64 (if f.rule = 0 then ((a + f.len : Nat) : Int) else 0), .int .i64 f.rule]) ∧ Below w.1.size w w'
theorem gV {w w' : World} {a : Nat} {r : Int} (h0 : r ≠ 0) (hb : Below w.1.size w w') : BQ w a (.no r) (.returned (.tuple #[.agg #[.int .u8 0, .string ⟨#[]⟩], .int .i64 0, .int .i64 r])) w' :=
 ⟨by unfold Frm.no; simp only [if_neg h0]; rfl, hb⟩
theorem Bd {k : UInt8} {r s : List UInt8} {n : Nat} (h2 : bf r = some (n, s)) (h3 : n + 4 ≤ s.length) : bn (k :: r) = if (k :: r).take (bW k.toNat (s.take n)).length = bW k.toNat (s.take n) then ⟨0, k.toNat, s.take n, (bW k.toNat (s.take n)).length⟩ else .no 3 := by
 have h : dJ r ≠ 10 := fun e => by have := (dG r).2 (by rw [h2]; rfl); omega
 unfold bn; simp only [if_neg h, h2, if_neg (show ¬ s.length < n + 4 from by omega)]
theorem Dk {k : UInt8} {r s : List UInt8} {n : Nat} (h2 : bf r = some (n, s)) (h3 : n + 4 ≤ s.length) : (bW k.toNat (s.take n)).length = 1 + (r.length - s.length) + n + 4 := by
 unfold bW; rw [aI, (nA (k := k) h2 h3).2, vL]
theorem zx (S : Nat → Prop) (own : Bool) (b : List UInt8) (v : Value) (p0 : Nat) (w : World) (hr : aO w S own b v) (ha : p0 ≤ b.length) (hb : b.length ≤ 100000) :
  Calls Tryz.prog 63 #[v, .int .i64 p0] w (BQ w p0 (bn (b.drop p0))) := by
 obtain ⟨_, ad, cap, rfl, hc⟩ := hr.shape;have g0 := heap_alloc_new w (.cells #[.int .u8 0, .string ⟨#[]⟩] 96);have hb0 : Below w.1.size w (w.alloc (.cells #[.int .u8 0, .string ⟨#[]⟩] 96)) := br.alloc nl _;have hs0 : (w.alloc (.cells #[.int .u8 0, .string ⟨#[]⟩] 96)).1.size = w.1.size + 1 := aD _ _;have HR := hid (hr.below hb0 nl);have HB := hid hb0;clear hr hb0;by_cases he : p0 < b.length
 ·obtain ⟨k, r, hkr⟩ : ∃ k r, b.drop p0 = k :: r := by
   cases h : b.drop p0 with
   | nil => have := congrArg List.length h; simp at this; omega
   | cons k r => exact ⟨k, r, rfl⟩
  have hrd : r = b.drop (p0 + 1) := by rw [← List.drop_drop, hkr]; rfl
  have hrl : r.length = b.length - (p0 + 1) := by rw [hrd]; simp
  have HG := hid (nk S own b _ (p0 + 1) _ HR.out (by omega) (by omega));rw [← hrd] at HG;have HKR := hid (au hkr hrd);rw [hkr];clear hkr hrd
  go_enter Tryz.func63, Tryz.ntmps63
  go_wp2_with fail;refine HG.out.mono ?_;rintro e w1 ⟨rfl, hb1⟩;unfold pG;have g1 : w1.1[w.1.size]? = some (.cells #[.int .u8 0, .string ⟨#[]⟩] 96 (0, 0)) := (hb1.block _ (by omega)).trans g0;have HB1 := hid (HB.out.trans (hb1.mono (by omega)));have HR1 := hid (HR.out.below hb1 nl);have hs1 := hb1.size;clear hb1 g0;by_cases h10 : dJ r = 10
  ·have t1 : (dJ r == 10) = true := by simp [h10]
   have HE := hid (yT (k := k) h10);clear h10
   go_wp2_with (refine wpList_store_row rfl 96 (.tmp 4) (.tmp 32) rfl rfl w.1.size rfl _ rfl 96 _ g1 (by kernel_rfl) rfl (by simp [Value.oneCell']) ?_)
   exact aC (v := .tuple #[.agg #[.int .u8 0, .string ⟨#[]⟩], .int .i64 0, .int .i64 2]) (aU rfl _ _ w.1.size 96 _ _ _ _ _ rfl (aB _ _ _ _ _ _ g1) Tryz.underlying96 rfl (by kernel_rfl) rfl rfl) rfl (by rw [HE.out]; exact gV (r := 2) (by decide) (below_setRow HB1.out _ _ nl))
  ·have t1 : (dJ r == 10) = false := by simp [h10]
   cases hv : bf r with
   | none =>
    have hc0 : (dJ r != 0) = true := by
     have : ¬ dJ r = 0 := fun e => by have := (dG r).1 e; rw [hv] at this; cases this
     simpa using this
    have HE := hid (vK (k := k) h10 hv);clear h10 hv
    go_wp2_with (refine wpList_store_row rfl 96 (.tmp 4) (.tmp 52) rfl rfl w.1.size rfl _ rfl 96 _ g1 (by kernel_rfl) rfl (by simp [Value.oneCell']) ?_)
    exact aC (v := .tuple #[.agg #[.int .u8 0, .string ⟨#[]⟩], .int .i64 0, .int .i64 1]) (aU rfl _ _ w.1.size 96 _ _ _ _ _ rfl (aB _ _ _ _ _ _ g1) Tryz.underlying96 rfl (by kernel_rfl) rfl rfl) rfl (by rw [HE.out]; exact gV (r := 1) (by decide) (below_setRow HB1.out _ _ nl))
   | some x =>
    obtain ⟨n, s⟩ := x;have hc0 : (dJ r != 0) = false := by
     have : dJ r = 0 := (dG r).2 (by rw [hv]; rfl);simp [this]
    have hsl := dX hv;have hgn : kK r = n := (by unfold kK; rw [hv]);have hga : fI (p0 + 1) r = p0 + 1 + (r.length - s.length) := (by unfold fI; rw [hv]);have hn64 := nJ hv;rw [hgn, hga];obtain ⟨f0, hf0⟩ : ∃ f0, f0 = p0 + 1 + (r.length - s.length) := ⟨_, rfl⟩;rw [← hf0];have HF0 := hid (au hf0 hrl);obtain ⟨sl, hsl0⟩ : ∃ sl, sl = s.length := ⟨_, rfl⟩;have hfl : f0 + sl = b.length := (by omega);have hfa : p0 + 1 ≤ f0 := (by omega);have HV := hid hv;have HSL := hid hsl0;clear h10 hgn hga hv hf0 hrl hsl hsl0;by_cases h4 : sl < n + 4
    ·have HE := hid (tu (k := k) HV.out (by have := HSL.out; omega))
     by_cases h5 : b.length < n
     ·go_wp2_with (refine wpList_store_row rfl 96 (.tmp 4) (.tmp 52) rfl rfl w.1.size rfl _ rfl 96 _ g1 (by kernel_rfl) rfl (by simp [Value.oneCell']) ?_)
      exact aC (v := .tuple #[.agg #[.int .u8 0, .string ⟨#[]⟩], .int .i64 0, .int .i64 1]) (aU rfl _ _ w.1.size 96 _ _ _ _ _ rfl (aB _ _ _ _ _ _ g1) Tryz.underlying96 rfl (by kernel_rfl) rfl rfl) rfl (by rw [HE.out]; exact gV (r := 1) (by decide) (below_setRow HB1.out _ _ nl))
     ·have k1 : (0 : Int) ≤ (n : Int) := by omega
      have k2 : IntKind.i64.wrap (n : Int) = (n : Int) := (by rw [IntKind.wrap_i64]; omega);have k3 : IntKind.i64.wrap ((f0 : Int) + (n : Int)) = (f0 : Int) + (n : Int) := (by rw [IntKind.wrap_i64]; omega);have k4 : IntKind.i64.wrap ((f0 : Int) + (n : Int) + 4) = (f0 : Int) + (n : Int) + 4 := by rw [IntKind.wrap_i64]; omega
      go_wp2_with (refine wpList_store_row rfl 96 (.tmp 4) (.tmp 52) rfl rfl w.1.size rfl _ rfl 96 _ g1 (by kernel_rfl) rfl (by simp [Value.oneCell']) ?_)
      exact aC (v := .tuple #[.agg #[.int .u8 0, .string ⟨#[]⟩], .int .i64 0, .int .i64 1]) (aU rfl _ _ w.1.size 96 _ _ _ _ _ rfl (aB _ _ _ _ _ _ g1) Tryz.underlying96 rfl (by kernel_rfl) rfl rfl) rfl (by rw [HE.out]; exact gV (r := 1) (by decide) (below_setRow HB1.out _ _ nl))
    ·have h4' : n + 4 ≤ s.length := by have := HSL.out; omega
     have hn4 : n + 4 ≤ sl := (by omega);obtain ⟨E, hE0⟩ : ∃ E, E = f0 + n := ⟨_, rfl⟩;have hE : (f0 : Int) + (n : Int) = (E : Int) := (by omega);have i1 : (0 : Int) ≤ (p0 : Int) := (by omega);have i2 : (p0 : Int) ≤ (E : Int) := (by omega);have i3 : (E : Int) ≤ (cap : Int) := (by omega);have i4 : (0 : Int) ≤ (E : Int) := (by omega);have i5 : (E : Int) ≤ (E : Int) + 4 := (by omega);have i6 : (E : Int) + 4 ≤ (cap : Int) := (by omega);have i7 : (0 : Int) ≤ (E : Int) + 4 := (by omega);have i8 : ((E : Int) + 4).toNat = E + 4 := (by omega);have i9 : IntKind.i64.wrap ((E : Int) + 4) = (E : Int) + 4 := (by rw [IntKind.wrap_i64]; omega);have n1 : p0 ≤ E := (by omega);have n2 : E ≤ cap := (by omega);have n4 : E + 4 ≤ cap := (by omega);have n5 : E + 4 - E = 4 := (by omega);have HE := hid (au hE0 hn4);clear hE0;obtain ⟨bl, off, rfl, _, q0⟩ := aO.at8 HR1.out he;have hk8 : at8 b p0 = k.toNat := by
      have := dB b p0 he;rw [this];have h2 : (b.drop p0)[0]? = some k := (by rw [HKR.out.1]; rfl);rw [List.getElem?_drop, Nat.add_zero, af he] at h2;injection h2 with h2
      rw [h2]
     rw [hk8] at q0;have hbl := aG _ ⟨bl, off + p0, none⟩ q0;obtain ⟨PS, hPS⟩ : ∃ PS : ByteArray, PS = ⟨(s.take n).toArray⟩ := ⟨_, rfl⟩;have HP := hid (fun w' (hb' : Below w1.1.size w1 w') => show (convert 32 9 (.slice (some ⟨bl, off + f0, none⟩) n (cap - f0))).run Tryz.prog w' = .ok (.string PS) w' from by
      have h := (aO.cut HR1.out f0 n (cap - f0) (by have := HE.out.1; omega) (by have := HE.out.1; omega)).below hb' nl;have e2 : s = b.drop f0 := by
       have := jI HV.out;rw [this, HKR.out.2, List.drop_drop]
       congr 1
       rw [← HKR.out.2]; have := HF0.out.1; omega
      rw [← e2] at h;simp only [Option.map_some, Addr.add_lit] at h;rw [hPS];exact pM _ _ _ _ _ h)
     have HPS := hid hPS;have HW := hid (Bd (k := k) HV.out h4');have HBL := hid (show (bW k.toNat (s.take n)).length = E + 4 - p0 by rw [Dk HV.out h4']; have := HF0.out.1; have := HE.out.1; omega);have hpz : PS.size ≤ 800000 := (by have h := Lib.size_eq PS; rw [h, hPS]; have := HSL.out; simp; omega);have j1 : (0 : Int) ≤ (f0 : Int) := (by omega);have j2 : (f0 : Int) ≤ (E : Int) := (by have := HE.out.1; omega);have j3 : f0 ≤ E := (by have := HE.out.1; omega);have j4 : E - f0 = n := (by have := HE.out.1; omega);have j5 : (f0 == cap) = false := (by have := HE.out.1; simp; omega);have j6 : ¬ f0 = cap := (by have := HE.out.1; omega);have j7 : ¬ cap = f0 := (by have := HE.out.1; omega);have j8 : (p0 : Int) < (b.length : Int) := (by omega);have k2 : IntKind.i64.wrap (n : Int) = (n : Int) := (by rw [IntKind.wrap_i64]; omega);have hinf : (Tryz.prog.info? 96).map (·.size) = some 2 := (by kernel_rfl);clear hPS h4 h4'
     go_upto_region 8 with fail
     refine dK (w0 := w1) rfl [.eq (.slice (some ⟨bl, off, none⟩) b.length cap), .eq (.int .i64 (p0 : Nat)), .eq (.pointer (some ⟨bl, off + p0, none⟩)), .eq (.int .u8 (k.toNat : Nat)), .eq (.slice (some ⟨bl, off, none⟩) b.length cap), .eq (.int .i64 (f0 : Nat)), .eq (.int .i64 (f0 : Nat)), .eq (.int .u64 (n : Nat)), .eq (.int .i64 (n : Nat)), .eq (.int .i64 (E : Nat)), .eq (.slice (some ⟨bl, off + f0, none⟩) n (cap - f0)), .eq (.string PS), .eq (.agg #[.int .u8 (k.toNat : Nat), .string PS]), .box 96 #[.int .u8 0, .string ⟨#[]⟩], .sto 13 12] (by kernel_rfl) ⟨?_, ?_, ?_, ?_, ?_, ?_, ?_, ?_, ?_, ?_, ?_, ?_, ?_, ?_, ?_, trivial⟩ (fun vs => [(53, (.slice (some ⟨bl, off, none⟩) b.length cap)), (54, (.int .i64 (p0 : Nat))), (55, (.pointer (some ⟨bl, off + p0, none⟩))), (56, (.int .u8 (k.toNat : Nat))), (57, (.slice (some ⟨bl, off, none⟩) b.length cap)), (58, (.int .i64 (f0 : Nat))), (59, (.int .i64 (f0 : Nat))), (60, (.int .u64 (n : Nat))), (61, (.int .i64 (n : Nat))), (62, (.int .i64 (E : Nat))), (63, (.slice (some ⟨bl, off + f0, none⟩) n (cap - f0))), (64, (.string PS)), (65, (.agg #[.int .u8 (k.toNat : Nat), .string PS])), (10, vs 13)]) (fun _ => rfl) ?_
     ·refine rZ fun S a wx K Q hR hK => ?_
      have t0 : a.tmps[0]? = some (.slice (some ⟨bl, off, none⟩) b.length cap) := hR.o 0;go_simp;exact hK _ _ br rfl
     ·refine rZ fun S a wx K Q hR hK => ?_
      have t1 : a.tmps[1]? = some (.int .i64 (p0 : Nat)) := hR.o 1;go_simp;exact hK _ _ br rfl
     ·refine rZ fun S a wx K Q hR hK => ?_
      have t53 := hR.q 0;have t54 := hR.q 1;go_simp;exact hK _ _ br rfl
     ·refine rZ fun S a wx K Q hR hK => ?_
      have t55 := hR.q 2;have y0 := (hR.bel.cell (p := ⟨bl, off + p0, none⟩) hbl).trans q0;go_simp;exact hK _ _ br rfl
     ·refine rZ fun S a wx K Q hR hK => ?_
      have t0 : a.tmps[0]? = some (.slice (some ⟨bl, off, none⟩) b.length cap) := hR.o 0;go_simp;exact hK _ _ br rfl
     ·refine rZ fun S a wx K Q hR hK => ?_
      have t8 : a.tmps[8]? = some (.int .i64 (f0 : Nat)) := hR.o 8;go_simp;exact hK _ _ br rfl
     ·refine rZ fun S a wx K Q hR hK => ?_
      have t8 : a.tmps[8]? = some (.int .i64 (f0 : Nat)) := hR.o 8;go_simp;exact hK _ _ br rfl
     ·refine rZ fun S a wx K Q hR hK => ?_
      have t7 : a.tmps[7]? = some (.int .u64 (n : Nat)) := hR.o 7;go_simp;exact hK _ _ br rfl
     ·refine rZ fun S a wx K Q hR hK => ?_
      have t60 := hR.q 7;go_simp
      (try go_ints)
      exact hK _ _ br rfl
     ·refine rZ fun S a wx K Q hR hK => ?_
      have t59 := hR.q 6;have t61 := hR.q 8;go_simp
      (try go_ints)
      exact hK _ _ br rfl
     ·refine rZ fun S a wx K Q hR hK => ?_
      have t57 := hR.q 4;have t58 := hR.q 5;have t62 := hR.q 9;go_simp;exact hK _ _ br rfl
     ·refine rZ fun S a wx K Q hR hK => ?_
      have t63 := hR.q 10;have hcv := HP.out wx hR.bel;go_simp
      (try go_ints)
      exact hK _ _ br rfl
     ·refine rZ fun S a wx K Q hR hK => ?_
      have t56 := hR.q 3;have t64 := hR.q 11;go_simp;exact hK _ _ br rfl
     ·intro w; kernel_rfl
     ·exact StoOK.mk rfl rfl rfl hinf (fun S v w h => ⟨_, h, rfl, by simp [Value.oneCell']⟩)
     intro S8 vs wd hD;obtain ⟨g, cs, e10, hlg, _, hg, e65, _⟩ := hD.box 14 13 12 _ _ rfl rfl;have e12 := hD.eqs 12 _ rfl;rw [e12] at e65;injection e65 with e65
     subst e65;have e10' : vs 13 = .pointer (some ⟨g, 0, none⟩) := e10;have hsd := hD.bel.size;have gd := (hD.bel.block w.1.size (by omega)).trans g1;have d0 : wd.cell? ⟨g, 0, none⟩ = some (.int .u8 (k.toNat : Nat)) := (by rw [ax wd _ 0 _ _ _ hg]; rfl);have d1 : wd.cell? ⟨g, 1, none⟩ = some (.string PS) := (by rw [ax wd _ 1 _ _ _ hg]; rfl);have hgl := (ak hg).1;have HBd := hid (HB1.out.trans (hD.bel.mono (by omega)));have HRd := hid (HR1.out.below hD.bel nl);simp only [e10', bS, List.foldl_cons, List.foldl_nil];clear hD e10 e10' e12 hg g1 HP q0 hbl hlg;have HPUT := hid (yR k.toNat PS wd k.toNat_lt hpz);go_simp;go_wp2_with fail;refine HPUT.out.mono ?_;rintro e w2 ⟨pv, rfl, hown2, hb2⟩;have hfe : bW k.toNat PS.data.toList = bW k.toNat (s.take n) := (by rw [HPS.out]);rw [hfe] at hown2;obtain ⟨fb, hfb⟩ : ∃ fb, fb = bW k.toNat (s.take n) := ⟨_, rfl⟩;rw [← hfb] at hown2 HW HBL;have HFB := hid hfb;clear hfe hfb;have HPV := hid (aO.of_owns hown2);obtain ⟨sa2, sc2, rfl⟩ := aQ hown2;have hs2 := hb2.size;have g2 := (hb2.block w.1.size (by omega)).trans gd;have m0 := (hb2.cell (p := ⟨g, 0, none⟩) hgl).trans d0;have m1 := (hb2.cell (p := ⟨g, 1, none⟩) hgl).trans d1;have HB2 := hid (HBd.out.trans (hb2.mono (by omega)));have HR2 := hid (HRd.out.below hb2 nl);have hgl2 : g < w2.1.size := (by omega);have hfl2 : fb.length = E + 4 - p0 := HBL.out;have hkl : (k :: r).length = b.length - p0 := (by rw [← HKR.out.1]; simp);have hle2 : fb.length ≤ (k :: r).length := (by have := HE.out; omega);have HLL := hid (au hfl2 (au hkl hle2));obtain ⟨N, hN⟩ : ∃ N, N = fb.length := ⟨_, rfl⟩;have hNb : p0 + N ≤ b.length := (by omega);have HN := hid hN;rw [← hN];clear hown2 hb2 gd d0 d1 hfl2 hkl hle2 hN;go_wp2_with fail
     go_loopw [12] (fun i wr => ∃ j : Nat, j ≤ N ∧ i = .int .i64 j ∧ Hid (fb.take j = (k :: r).take j) ∧ Below w2.1.size w2 wr) (fun i _ => N - (intOf i).toNat)
     case atStart => exact ⟨0, by omega, rfl, hid (by simp), br⟩
     case round =>
      obtain ⟨j, hj, rfl, heq, hbel⟩ := hrel;have hsr := hbel.size;have gr := (hbel.block w.1.size (by omega)).trans g2;have HBr := hid (HB2.out.trans (hbel.mono (by omega)));by_cases hlt : j < N
      ·have hj1 : j < fb.length := by have := HN.out; omega
       have hj2 : j < (k :: r).length := (by have := HLL.out.2.2; omega);obtain ⟨bl3, off3, h3, _, q⟩ := aO.at8 HPV.out hj1;subst h3;obtain ⟨bl4, off4, h4, _, q'⟩ := aO.at8 (j := p0 + j) HR2.out (by omega);simp only [Option.some.injEq, Addr.mk.injEq, and_true] at h4;obtain ⟨rfl, rfl⟩ := h4;have qr := (hbel.cell (aG w2 _ q)).trans q;have qr' := (hbel.cell (aG w2 _ q')).trans q';have x1 : (0 : Int) ≤ (j : Int) := (by omega);have x2 : (j : Int) < (N : Int) := (by omega);have x3 : (0 : Int) ≤ (p0 : Int) + (j : Int) := (by omega);have x4 : (p0 : Int) + (j : Int) < (b.length : Int) := (by omega);have x5 : ((p0 : Int) + (j : Int)).toNat = p0 + j := (by omega);have hb8 : at8 b (p0 + j) = at8 (k :: r) j := (by rw [← HKR.out.1, xL]);rw [hb8] at qr';have h81 := dB fb j hj1;have h82 := dB (k :: r) j hj2;obtain ⟨u, hu⟩ : ∃ u, u = at8 fb j := ⟨_, rfl⟩;obtain ⟨v, hv⟩ : ∃ v, v = at8 (k :: r) j := ⟨_, rfl⟩;rw [← hu] at qr h81;rw [← hv] at qr' h82;by_cases he8 : u = v
       ·have HT := hid (nG fb (k :: r) j hj1 hj2 heq.out (UInt8.toNat_inj.1 (by omega)))
        subst he8;clear hu hv h81 h82 hb8 q q';go_wp2_with fail
        go_quiet (fail)
        go_wp2_with fail;go_roundw
        case rel => exact ⟨j + 1, by omega, by go_num, HT, below_drewN hbel _⟩
        case measure => simp [intOf]; omega
       ·have t8 : ((u : Int) != (v : Int)) = true := by simp; omega
        have t9 : ¬ ((u : Int) = (v : Int)) := (by omega);have HF : Hid (bn (k :: r) = .no 3) := hid (by
         rw [HW.out, if_neg];intro e;have e2 : (fb)[j]? = (k :: r)[j]? := by
          have := congrArg (fun l => l[j]?) e;simp only [List.getElem?_take, if_pos hj1] at this;exact this.symm
         rw [af hj1, af hj2] at e2;injection e2 with e2
         rw [e2] at h81;omega)
        clear hu hv h81 h82 hb8 q q' he8;have grn : ∀ i, (wr.drewN i).1[w.1.size]? = some (.cells #[.int .u8 0, .string ⟨#[]⟩] 96 (0, 0)) := fun i => gr
        go_wp2_with fail
        go_quiet (fail)
        go_wp2_with (refine wpList_store_row rfl 96 (.tmp 4) (.tmp 85) rfl rfl w.1.size rfl _ rfl 96 _ (grn _) (by kernel_rfl) rfl (by simp [Value.oneCell']) ?_)
        exact aC (v := .tuple #[.agg #[.int .u8 0, .string ⟨#[]⟩], .int .i64 0, .int .i64 3]) (aU rfl _ _ w.1.size 96 _ _ _ _ _ rfl (aB _ _ _ _ _ _ (grn _)) Tryz.underlying96 rfl (by kernel_rfl) rfl rfl) rfl (by rw [HF.out]; exact gV (r := 3) (by decide) (below_setRow (below_drewN HBr.out _) _ _ nl))
      ·have hj2 : j = N := by omega
       subst hj2;have HF : Hid (bn (k :: r) = ⟨0, k.toNat, s.take n, fb.length⟩) := hid (by
        rw [HW.out, if_pos];have h := heq.out;rw [HN.out, List.take_length] at h;exact h.symm)
       have mr0 := (hbel.cell (p := ⟨g, 0, none⟩) hgl2).trans m0;have mr1 := (hbel.cell (p := ⟨g, 1, none⟩) hgl2).trans m1
       go_wp2_with (refine wpList_store_row rfl 96 (.tmp 4) (.tmp 86) rfl rfl w.1.size rfl _ rfl 96 _ gr (by kernel_rfl) rfl (by simp [Value.oneCell']) ?_)
       exact aC (v := .tuple #[.agg #[.int .u8 (k.toNat : Nat), .string PS], .int .i64 ((p0 : Int) + (j : Int)), .int .i64 0]) (aU rfl _ _ w.1.size 96 _ _ _ _ _ rfl (aB _ _ _ _ _ _ gr) Tryz.underlying96 rfl (by kernel_rfl) rfl rfl) rfl (by
        rw [HF.out];refine ⟨?_, below_setRow HBr.out _ _ nl⟩;have he4 : ((p0 + fb.length : Nat) : Int) = (p0 : Int) + (j : Int) := (by have := HN.out; omega);simp only [if_true, he4, HPS.out])
 ·have hn : b.drop p0 = [] := List.drop_of_length_le (by omega)
  rw [hn];have HE := hid yS;have hab : p0 = b.length := by omega
  go_enter Tryz.func63, Tryz.ntmps63
  go_wp2_with (refine wpList_store_row rfl 96 (.tmp 4) (.tmp 21) rfl rfl w.1.size rfl _ rfl 96 _ g0 (by kernel_rfl) rfl (by simp [Value.oneCell']) ?_)
  exact aC (v := .tuple #[.agg #[.int .u8 0, .string ⟨#[]⟩], .int .i64 0, .int .i64 1]) (aU rfl _ _ w.1.size 96 _ _ _ _ _ rfl (aB _ _ _ _ _ _ g0) Tryz.underlying96 rfl (by kernel_rfl) rfl rfl) rfl (by rw [HE.out]; exact gV (r := 1) (by decide) (below_setRow HB.out _ _ nl))
def ER : Item FPl where
 k := 4
 P w S x cs := cs = [.int .u8 (x.kind : Nat), .string ⟨x.pay.toArray⟩, .int .i64 (x.fr : Nat), .int .i64 (x.tp : Nat)]
 len h := by rw [h]; rfl
 one h := by rw [h]; simp [Value.oneCell']
 keep h _ _ := h
theorem Gb : (Tryz.prog.info? 98).map (fun i => (i.zero, i.size, i.bytes)) = some (some (.agg #[.int .u8 0, .string ⟨#[]⟩, .int .i64 0, .int .i64 0]), 4, 40) := by kernel_rfl
def Gc (b : List UInt8) (w : World) (e : Ending) (w' : World) : Prop :=
 ∃ (sv : Value) (fs : List FPl) (n : Nat) (rl : Int), e = .returned (.tuple #[sv, .int .i64 (n : Nat), .int .i64 rl]) ∧ xu b = (fs, n, rl) ∧ (∀ x ∈ fs, x.kind < 256 ∧ x.pay.length ≤ b.length ∧ x.fr ≤ b.length ∧ x.tp ≤ b.length) ∧ aS ER w' w.1.size 98 sv fs ∧ Below w.1.size w w'
theorem xy (S : Nat → Prop) (own : Bool) (b : List UInt8) (bv : Value) (w : World) (hb : aO w S own b bv) (hl : b.length ≤ 60000) : Calls Tryz.prog 34 #[bv] w (Gc b w) := by
 obtain ⟨i0, hi0, hz0, hz1, hz2⟩ := info_parts Gb;obtain ⟨_, ad, cap, rfl, _⟩ := hb.shape;have HB := hid hb;clear hb
 go_enter Tryz.func34, Tryz.ntmps34
 go_wp2_with fail
 go_loopw [5, 6] (fun sv i wr => ∃ (fs : List FPl) (p : Nat), i = .int .i64 (p : Nat) ∧ jr b fs p ∧ aS ER wr w.1.size 98 sv fs ∧ Below w.1.size w wr) (fun _ i _ => b.length - (intOf i).toNat)
 case atStart => exact ⟨[], 0, rfl, .nil, aS.nil _ _ _ nl, br⟩
 case round =>
  obtain ⟨fs, p, rfl, hs, hmk, hbel⟩ := hrel;have hle := hs.le.1;have hfl := hs.le.2.1;have hsz := hbel.size;obtain ⟨sa, sc, hsv⟩ := aS.form (.inr hmk);subst hsv;by_cases hp : p < b.length
  ·have HG := hid (zx S own b _ p wr (aO.below HB.out hbel nl) (by omega) (by omega))
   have hp1 : (p : Int) < (b.length : Int) := (by omega);have HH := hid (au hs (au hmk (au hbel hp)));clear hs hmk hbel;go_wp2_with fail;refine HG.out.mono ?_;rintro e w1 ⟨rfl, hb1⟩;obtain ⟨f, hf⟩ : ∃ f, f = bn (b.drop p) := ⟨_, rfl⟩;rw [← hf];obtain ⟨PS, hPS⟩ : ∃ PS : ByteArray, PS = ⟨f.pay.toArray⟩ := ⟨_, rfl⟩;rw [← hPS];have hz1' := hb1.size;have HF := hid (au hf hPS);by_cases h0 : f.rule = 0
   ·have hg := dQ (l := b.drop p) (by rw [← hf]; exact h0)
    rw [← hf, List.length_drop] at hg;have t0 : (f.rule != 0) = false := (by simp [h0]);rw [if_pos h0];obtain ⟨ys, hi, hhi, hown, hrg⟩ := HH.out.2.1;have hob := hown.lt;have hown' := ownsRow_below hown hb1 nl;have q7 : w.1.size ≤ w1.1.size := (by omega);obtain ⟨nx, hnx⟩ : ∃ nx : Nat, nx = p + f.len := ⟨_, rfl⟩;rw [← hnx];have HX := hid (au hhi (au hown (au hrg (au hb1 (au hg (au hnx h0))))));clear hhi hown hrg hb1 hg hnx h0 hf hPS
    go_wp2_with (at_builtin; go_loud (refine wpList_append_lies _ rfl (.tmp 26) (.tmp 31) 90 rfl w.1.size 98 i0 _ 4 40 Tryz.underlying90 hi0 hz0 hz1 hz2 rfl (by omega) (.slice sa fs.length sc) fs.length ys rfl ((hown'.alloc _).alloc _) ⟨w1.1.size + 1, 0, none⟩ 1 1 [.int .u8 (f.kind : Nat), .string PS, .int .i64 (p : Nat), .int .i64 (nx : Nat)] rfl rfl (World.news_of_block (cs := #[.int .u8 (f.kind : Nat), .string PS, .int .i64 (p : Nat), .int .i64 (nx : Nat)]) (t := 98) (fr := (0, 0)) (aK _ _ _ (by simp))) (by simp [Value.oneCell']) (by omega) (by unfold maxLen; omega) (by omega) (by rw [aD, aD]; omega) (w1.1.size + 1 + 1) (by simp) ?_); intro gg gcap w4 hown2 hgrow hat hlt2)
    have HG4 := hid (au hown2 (au hgrow hat));clear hown2 hgrow hat hown';go_wp2_with fail;go_roundw
    case rel =>
     obtain ⟨hhi, hown, hrg, hb1, hg, hnx, h0⟩ := HX.out;refine ⟨fs ++ [⟨f.kind, f.pay, p, p + f.len⟩], nx, rfl, ?_, ?_, ?_⟩
     ·have h := jr.snoc HH.out.1 HH.out.2.2.2 (by rw [← HF.out.1]; exact h0)
      rw [← HF.out.1] at h;rw [hnx];exact h
     ·exact aS.push (I := ER) hhi hown hrg hb1 nl (show _ = _ by rw [HF.out.2, hnx]) ((br.alloc nl _).alloc (by simp) _) HG4.out.2.1 HG4.out.1 (HG4.out.2.2.imp id (by omega))
     ·exact (((HH.out.2.2.1.trans (hb1.mono hsz)).alloc q7 _).alloc (by simp; omega) _).grown HG4.out.2.1 (by simp; omega) (fun k hk => (hob k hk).1)
    case measure =>
     obtain ⟨hhi, hown, hrg, hb1, hg, hnx, h0⟩ := HX.out;simp [intOf];omega
   ·have t0 : (f.rule != 0) = true := by simp [h0]
    rw [if_neg h0];have HX := hid (au hb1 h0);clear hb1 h0 hf hPS;go_wp2_with fail;go_ret3
    refine ⟨_, fs, p, f.rule, rfl, ?_, fun x hx => (HH.out.1.le.2.2 x hx), ?_, ?_⟩
    ·have h := HH.out.1.cut HH.out.2.2.2 (by rw [← HF.out.1]; exact HX.out.2)
     rw [← HF.out.1] at h;exact h
    ·exact (HH.out.2.1.below HX.out.1 nl).below (br.alloc nl _) nl
    ·exact (HH.out.2.2.1.trans (HX.out.1.mono hsz)).alloc (by omega) _
  ·have hp1 : ¬ (p : Int) < (b.length : Int) := by omega
   have HH := hid (au hs (au hmk hbel));clear hs hmk hbel;go_wp2_with fail;go_ret3
   exact ⟨_, fs, p, 0, rfl, HH.out.1.done hp, fun x hx => (HH.out.1.le.2.2 x hx), HH.out.2.1, HH.out.2.2⟩
theorem Gd : (Tryz.prog.info? 100).map (fun i => (i.zero, i.size, i.bytes)) = some (some (.agg #[.int .i64 0, .int .u64 0, .int .u64 0, .int .u64 0, .int .u64 0, .int .u64 0, .int .i64 0, .int .u64 0, .int .u64 0, .slice none 0 0, .slice none 0 0, .int .i64 0, .int .i64 0]), 13, 136) := by kernel_rfl
def pQ : List FPl → Option (List Plc)
 | [] => some []
 | x :: r => (bC x.kind x.pay).bind fun q => (pQ r).map fun l => ⟨q, x.fr, x.tp⟩ :: l
theorem vS {x : FPl} {q : Rec} (hx : bC x.kind x.pay = some q) : ∀ {a : List FPl} {acc : List Plc}, pQ a = some acc → pQ (a ++ [x]) = some (acc ++ [⟨q, x.fr, x.tp⟩])
 | [], acc, h => by
  cases h
  rw [List.nil_append, pQ, hx];rfl
 | y :: a, acc, h => by
  rw [pQ] at h;obtain ⟨q', hq', h2⟩ := ae h;obtain ⟨l, hl, rfl⟩ := aa h2;rw [List.cons_append, pQ, hq', ai, vS hx hl];rfl
theorem zy : ∀ {a : List FPl} {acc : List Plc}, pQ a = some acc → acc.length = a.length
 | [], acc, h => by cases h; rfl
 | y :: a, acc, h => by
  rw [pQ] at h;obtain ⟨q', hq', h2⟩ := ae h;obtain ⟨l, hl, rfl⟩ := aa h2;rw [aJ, aJ, zy hl]
theorem zA {n : Nat} {rl : Int} : ∀ {a : List FPl} {acc : List Plc}, pQ a = some acc → tH a n rl = (acc, n, rl)
 | [], acc, h => by cases h; rfl
 | y :: a, acc, h => by
  rw [pQ] at h;obtain ⟨q', hq', h2⟩ := ae h;obtain ⟨l, hl, rfl⟩ := aa h2;rw [tH, hq'];simp only [zA hl]
theorem vT {n : Nat} {rl : Int} {x : FPl} {b : List FPl} (hx : bC x.kind x.pay = none) : ∀ {a : List FPl} {acc : List Plc}, pQ a = some acc → tH (a ++ x :: b) n rl = (acc, x.fr, dx x.kind x.pay)
 | [], acc, h => by
  cases h
  rw [List.nil_append, tH, hx]
 | y :: a, acc, h => by
  rw [pQ] at h;obtain ⟨q', hq', h2⟩ := ae h;obtain ⟨l, hl, rfl⟩ := aa h2;rw [List.cons_append, tH, hq'];simp only [vT hx hl]
def AZ (Y : World) (T : TypeId) (base : Nat) (sv : Value) (n sz : Nat) (ys : List Value) (row : Array Value) (i1 i2 : Nat) : Nat → (Nat → Value) → World → Prop
 | 0, vs, w => w = Y.drew
 | 1, vs, w => vs i1 = .slice (some ⟨Y.1.size, 0, none⟩) 1 1 ∧ w = Y.drew.alloc (.cells row T)
 | _ + 2, vs, w => ∃ gg gcap, vs i2 = .slice (some ⟨gg, 0, none⟩) (n + 1) gcap ∧ w.ownsRow base T sz (.slice (some ⟨gg, 0, none⟩) (n + 1) gcap) (n + 1) (ys ++ row.toList) ∧ (Y.drew.alloc (.cells row T)).grownBy w sv.ownBlock ∧ (sv.ownBlock = some gg ∨ gg = Y.1.size + 1) ∧ gg < w.1.size
section
variable {Y : World} {T : TypeId} {base : Nat} {sv : Value} {n sz : Nat} {ys : List Value} {row : Array Value} {i1 i2 : Nat} {t : Nat} {vs : Nat → Value} {w : World}
theorem AZ.zero (h : AZ Y T base sv n sz ys row i1 i2 t vs w) (ht : t = 0) : w = Y.drew := by subst ht; exact h
theorem AZ.one (h : AZ Y T base sv n sz ys row i1 i2 t vs w) (ht : t = 1) : vs i1 = .slice (some ⟨Y.1.size, 0, none⟩) 1 1 ∧ w = Y.drew.alloc (.cells row T) := by subst ht; exact h
theorem AZ.two (h : AZ Y T base sv n sz ys row i1 i2 t vs w) (ht : t = 2) : ∃ gg gcap, vs i2 = .slice (some ⟨gg, 0, none⟩) (n + 1) gcap ∧ w.ownsRow base T sz (.slice (some ⟨gg, 0, none⟩) (n + 1) gcap) (n + 1) (ys ++ row.toList) ∧ (Y.drew.alloc (.cells row T)).grownBy w sv.ownBlock ∧ (sv.ownBlock = some gg ∨ gg = Y.1.size + 1) ∧ gg < w.1.size := by subst ht; exact h
theorem AZ.e0 (h : AZ Y T base sv n sz ys row i1 i2 t vs w) (ht : t = 0) {p : Addr} {v : Value} (hc : Y.cell? p = some v) : w.cell? p = some v := by rw [h.zero ht]; exact hc
end
def ES (T : TypeId) (b : List UInt8) (w : World) (e : Ending) (w' : World) : Prop :=
 ∃ (sv : Value) (acc : List Plc) (n : Nat) (rl : Int), e = .returned (.tuple #[sv, .int .i64 (n : Nat), .int .i64 rl]) ∧ lG b = (acc, n, rl) ∧ aS plI w' w.1.size T sv acc ∧ Below w.1.size w w'
theorem uP (S : Nat → Prop) (own : Bool) (b : List UInt8) (bv : Value) (w : World) (hb : aO w S own b bv) (hl : b.length ≤ 699) : Calls Tryz.prog 12 #[bv] w (ES 100 b w) := by
 obtain ⟨i0, hi0, hz0, hz1, hz2⟩ := info_parts Gd;obtain ⟨_, ad, cap, rfl, _⟩ := hb.shape;have HS := hid (xy S own b _ w hb (by omega));clear hb
 go_enter Tryz.func12, Tryz.ntmps12
 go_wp2_with fail;refine HS.out.mono ?_;rintro e w1 ⟨fv, fs, n, rl, rfl, hsp, hfs, hmf, hb1⟩;obtain ⟨fa, fc, hfv⟩ := aS.form (.inr hmf);subst hfv;have hrow := aS.pK (I := ER) (by decide) hmf;have hdec := FV b;rw [hsp] at hdec;have hs1 := hb1.size;have hfl : fs.length ≤ 700 := by
  have h1 := (jr.nil (b := b)).rest;have h2 := yV b b.length 0;have h3 : xu b = lH b b.length 0 := rfl;rw [← h3, hsp] at h2;simp only at h2;omega
 have HF := hid (au hrow (au hdec (au hfs hb1)));clear hmf hrow hdec hfs hb1 hsp;go_wp2_with fail
 go_loopw [5, 9] (fun sv i wr => ∃ (j : Nat) (acc : List Plc), i = .int .i64 (j : Nat) ∧ j ≤ fs.length ∧ pQ (fs.take j) = some acc ∧ aS plI wr w1.1.size 100 sv acc ∧ Below w1.1.size w1 wr) (fun _ i _ => fs.length - (intOf i).toNat)
 case atStart => exact ⟨0, [], rfl, by omega, rfl, aS.nil _ _ _ nl, br⟩
 case round =>
  obtain ⟨j, acc, rfl, hj, hacc, hmk, hbel⟩ := hrel;have hsz := hbel.size;obtain ⟨sa, sc, hsv⟩ := aS.form (.inr hmk);have hal := zy hacc;rw [List.length_take, Nat.min_eq_left hj] at hal;rw [hal] at hsv;subst hsv;have HAL := hid hal;clear hal;by_cases hlt : j < fs.length
  ·obtain ⟨bl, off, cs, rfl, hbs, hcs, hcc⟩ := oh.at (I := ER) (by decide) HF.out.1 j hlt
   obtain ⟨x, hx⟩ : ∃ x, x = fs[j] := ⟨_, rfl⟩;have hcs : cs = [.int .u8 (x.kind : Nat), .string ⟨x.pay.toArray⟩, .int .i64 (x.fr : Nat), .int .i64 (x.tp : Nat)] := (by rw [hx]; exact hcs);obtain ⟨PS, hPS⟩ : ∃ PS : ByteArray, PS = ⟨x.pay.toArray⟩ := ⟨_, rfl⟩;rw [← hPS] at hcs;subst hcs;have hxx := HF.out.2.2.1 fs[j] (List.getElem_mem _);rw [← hx] at hxx;have hblt : bl < w1.1.size := aG _ ⟨bl, off + j * 4 + 0, none⟩ (hcc 0 (by decide));have c0 : wr.cell? ⟨bl, off + j * 4, none⟩ = some (.int .u8 (x.kind : Nat)) := (hbel.cell (p := ⟨bl, off + j * 4, none⟩) hblt).trans (hcc 0 (by decide));have c1 : wr.cell? ⟨bl, off + j * 4 + 1, none⟩ = some (.string PS) := (hbel.cell (p := ⟨bl, off + j * 4 + 1, none⟩) hblt).trans (hcc 1 (by decide));have c2 : wr.cell? ⟨bl, off + j * 4 + 2, none⟩ = some (.int .i64 (x.fr : Nat)) := (hbel.cell (p := ⟨bl, off + j * 4 + 2, none⟩) hblt).trans (hcc 2 (by decide));have c3 : wr.cell? ⟨bl, off + j * 4 + 3, none⟩ = some (.int .i64 (x.tp : Nat)) := (hbel.cell (p := ⟨bl, off + j * 4 + 3, none⟩) hblt).trans (hcc 3 (by decide));have hPl : PS.data.toList = x.pay := (by rw [hPS]);have HPA := hid (qG PS x.kind wr hxx.1 (by rw [Lib.size_eq, hPl]; omega));rw [hPl] at HPA;have i0' : (0 : Int) ≤ (j : Int) := (by omega);have i1' : (j : Int) < (fs.length : Int) := (by omega);have HH := hid (au hacc (au hmk (au hbel (au hx hlt))));clear hacc hmk hbel hx hxx hPS hPl hcc;go_wp2_with fail;refine HPA.out.mono ?_;rintro e w2 ⟨v, rfl, hv, hb2⟩;obtain ⟨q, hqq⟩ : ∃ q, q = (bC x.kind x.pay).getD .zero := ⟨_, rfl⟩;obtain ⟨rl2, hrl⟩ : ∃ rl, rl = dx x.kind x.pay := ⟨_, rfl⟩;rw [← hqq] at hv;rw [← hrl];obtain ⟨k0, k1, k2, k3, k4, k5, k6, k7, rfl, _⟩ := hv.conc;have hs2 := hb2.size;obtain ⟨Y, hY⟩ : ∃ Y, Y = w2.alloc (.cells #[.int .i64 q.k, .int .u64 (q.t : Nat), .int .u64 (q.x : Nat), .int .u64 (q.w : Nat), .int .u64 (q.n : Nat), .int .u64 (q.v : Nat), .int .i64 k0, .int .u64 (k1 : Nat), .int .u64 (k2 : Nat), .slice k3 k4 k5, .slice k6 q.es.length k7] 65) := ⟨_, rfl⟩;have hbY : Below wr.1.size wr Y := (by rw [hY]; exact hb2.alloc hs2 _);have hgY : Y.1[w2.1.size]? = some (.cells #[.int .i64 q.k, .int .u64 (q.t : Nat), .int .u64 (q.x : Nat), .int .u64 (q.w : Nat), .int .u64 (q.n : Nat), .int .u64 (q.v : Nat), .int .i64 k0, .int .u64 (k1 : Nat), .int .u64 (k2 : Nat), .slice k3 k4 k5, .slice k6 q.es.length k7] 65 (0, 0)) := (by rw [hY]; exact aK _ _ _ rfl);have hsY : Y.1.size = w2.1.size + 1 := (by rw [hY]; simp);have hvY : bL Y (fun k => wr.1.size ≤ k) true q (.agg #[.int .i64 q.k, .int .u64 (q.t : Nat), .int .u64 (q.x : Nat), .int .u64 (q.w : Nat), .int .u64 (q.n : Nat), .int .u64 (q.v : Nat), .int .i64 k0, .int .u64 (k1 : Nat), .int .u64 (k2 : Nat), .slice k3 k4 k5, .slice k6 q.es.length k7]) := (by rw [hY]; exact hv.below (br.alloc nl _) nl);have e2 : Y.cell? ⟨bl, off + j * 4 + 2, none⟩ = some (.int .i64 (x.fr : Nat)) := (hbY.cell (p := ⟨bl, off + j * 4 + 2, none⟩) (by show bl < wr.1.size; omega)).trans c2;have e3 : Y.cell? ⟨bl, off + j * 4 + 3, none⟩ = some (.int .i64 (x.tp : Nat)) := (hbY.cell (p := ⟨bl, off + j * 4 + 3, none⟩) (by show bl < wr.1.size; omega)).trans c3;have HYY := hid (au hY (au hvY (au hgY (au hsY hbY))));clear hv hb2 hY hvY hgY hbY c0 c1 c2 c3;cases hq : bC x.kind x.pay with
   | none =>
    have HRN := hid (qB hq);have t1 : (rl2 != 0) = true := (by rw [hrl]; simpa using HRN.out);have HQ := hid (au hq hrl);clear hq hqq hrl;go_wp2_with fail;rw [← HYY.out.1]
    go_quiet (fail)
    go_wp2_with fail;go_ret3
    refine ⟨_, acc, x.fr, rl2, rfl, ?_, ?_, ?_⟩
    ·rw [← HF.out.2.1, HQ.out.2]
     have hL : fs = fs.take j ++ x :: fs.drop (j + 1) := (by rw [HH.out.2.2.2.1, List.getElem_cons_drop, List.take_append_drop]);exact (congrArg (fun l => tH l n rl) hL).trans (vT HQ.out.1 HH.out.1)
    ·exact aS.less (aS.below (aS.below HH.out.2.1 HYY.out.2.2.2.2 nl) (below_drewN br _) nl) hs1
    ·exact below_drewN (HF.out.2.2.2.trans ((HH.out.2.2.1.trans (HYY.out.2.2.2.2.mono hsz)).mono hs1)) _
   | some r =>
    rw [hq] at hqq;obtain rfl : q = r := hqq;obtain rfl : rl2 = 0 := hrl.trans (qA hq);obtain ⟨ys, hi, hhi, hown, hrg⟩ := HH.out.2.1;rw [HAL.out] at hown;have hob := hown.lt;have hownY := ownsRow_below hown HYY.out.2.2.2.2 nl;obtain ⟨g7, hg7⟩ : ∃ g7, g7 = w2.1.size := ⟨_, rfl⟩;have hgY := HYY.out.2.2.1;rw [← hg7] at hgY;have d0 : Y.cell? ⟨g7, 0, none⟩ = some (.int .i64 q.k) := (by rw [ax Y _ 0 _ _ _ hgY]; rfl);have d1 : Y.cell? ⟨g7, 1, none⟩ = some (.int .u64 (q.t : Nat)) := (by rw [ax Y _ 1 _ _ _ hgY]; rfl);have d2 : Y.cell? ⟨g7, 2, none⟩ = some (.int .u64 (q.x : Nat)) := (by rw [ax Y _ 2 _ _ _ hgY]; rfl);have d3 : Y.cell? ⟨g7, 3, none⟩ = some (.int .u64 (q.w : Nat)) := (by rw [ax Y _ 3 _ _ _ hgY]; rfl);have d4 : Y.cell? ⟨g7, 4, none⟩ = some (.int .u64 (q.n : Nat)) := (by rw [ax Y _ 4 _ _ _ hgY]; rfl);have d5 : Y.cell? ⟨g7, 5, none⟩ = some (.int .u64 (q.v : Nat)) := (by rw [ax Y _ 5 _ _ _ hgY]; rfl);have d6 : Y.cell? ⟨g7, 6, none⟩ = some (.int .i64 k0) := (by rw [ax Y _ 6 _ _ _ hgY]; rfl);have d7 : Y.cell? ⟨g7, 7, none⟩ = some (.int .u64 (k1 : Nat)) := (by rw [ax Y _ 7 _ _ _ hgY]; rfl);have d8 : Y.cell? ⟨g7, 8, none⟩ = some (.int .u64 (k2 : Nat)) := (by rw [ax Y _ 8 _ _ _ hgY]; rfl);have d9 : Y.cell? ⟨g7, 9, none⟩ = some (.slice k3 k4 k5) := (by rw [ax Y _ 9 _ _ _ hgY]; rfl);have d10 : Y.cell? ⟨g7, 10, none⟩ = some (.slice k6 q.es.length k7) := (by rw [ax Y _ 10 _ _ _ hgY]; rfl);have HOW := hid (au hhi (au hown (au hrg hq)));clear hq hrl hown hrg hhi hgY;go_wp2_with fail;rw [← HYY.out.1, ← hg7];clear hg7;refine dC (w0 := Y) rfl [.eq (.slice sa j sc), .eq (.agg #[.int .i64 q.k, .int .u64 (q.t : Nat), .int .u64 (q.x : Nat), .int .u64 (q.w : Nat), .int .u64 (q.n : Nat), .int .u64 (q.v : Nat), .int .i64 k0, .int .u64 (k1 : Nat), .int .u64 (k2 : Nat), .slice k3 k4 k5, .slice k6 q.es.length k7]), .eq (.slice (some ⟨bl, off, none⟩) fs.length fc), .eq (.int .i64 (j : Nat)), .eq (.pointer (some ⟨bl, off + j * 4, none⟩)), .eq (.pointer (some ⟨bl, off + j * 4 + 2, none⟩)), .eq (.int .i64 (x.fr : Nat)), .eq (.slice (some ⟨bl, off, none⟩) fs.length fc), .eq (.int .i64 (j : Nat)), .eq (.pointer (some ⟨bl, off + j * 4, none⟩)), .eq (.pointer (some ⟨bl, off + j * 4 + 3, none⟩)), .eq (.int .i64 (x.tp : Nat)), .eq (.agg #[.int .i64 q.k, .int .u64 (q.t : Nat), .int .u64 (q.x : Nat), .int .u64 (q.w : Nat), .int .u64 (q.n : Nat), .int .u64 (q.v : Nat), .int .i64 k0, .int .u64 (k1 : Nat), .int .u64 (k2 : Nat), .slice k3 k4 k5, .slice k6 q.es.length k7, .int .i64 (x.fr : Nat), .int .i64 (x.tp : Nat)]), .wr, .wr, .fn 14 (fun v => v)] (AZ Y 100 w1.1.size (.slice sa j sc) j 13 ys (#[.int .i64 q.k, .int .u64 (q.t : Nat), .int .u64 (q.x : Nat), .int .u64 (q.w : Nat), .int .u64 (q.n : Nat), .int .u64 (q.v : Nat), .int .i64 k0, .int .u64 (k1 : Nat), .int .u64 (k2 : Nat), .slice k3 k4 k5, .slice k6 q.es.length k7, .int .i64 (x.fr : Nat), .int .i64 (x.tp : Nat)]) 13 14) (by kernel_rfl) (⟨fun _ => undef, rfl⟩) ⟨?_, ?_, ?_, ?_, ?_, ?_, ?_, ?_, ?_, ?_, ?_, ?_, ?_, ?_, ?_, ?_, trivial⟩ (fun vs => [(42, .slice sa j sc), (43, .agg #[.int .i64 q.k, .int .u64 (q.t : Nat), .int .u64 (q.x : Nat), .int .u64 (q.w : Nat), .int .u64 (q.n : Nat), .int .u64 (q.v : Nat), .int .i64 k0, .int .u64 (k1 : Nat), .int .u64 (k2 : Nat), .slice k3 k4 k5, .slice k6 q.es.length k7]), (44, .slice (some ⟨bl, off, none⟩) fs.length fc), (45, .int .i64 (j : Nat)), (46, .pointer (some ⟨bl, off + j * 4, none⟩)), (47, .pointer (some ⟨bl, off + j * 4 + 2, none⟩)), (48, .int .i64 (x.fr : Nat)), (49, .slice (some ⟨bl, off, none⟩) fs.length fc), (50, .int .i64 (j : Nat)), (51, .pointer (some ⟨bl, off + j * 4, none⟩)), (52, .pointer (some ⟨bl, off + j * 4 + 3, none⟩)), (53, .int .i64 (x.tp : Nat)), (54, .agg #[.int .i64 q.k, .int .u64 (q.t : Nat), .int .u64 (q.x : Nat), .int .u64 (q.w : Nat), .int .u64 (q.n : Nat), .int .u64 (q.v : Nat), .int .i64 k0, .int .u64 (k1 : Nat), .int .u64 (k2 : Nat), .slice k3 k4 k5, .slice k6 q.es.length k7, .int .i64 (x.fr : Nat), .int .i64 (x.tp : Nat)]), (55, vs 13), (56, vs 14), (5, vs 14)]) (fun _ => rfl) 2 (by kernel_rfl) ?_
    ·refine pZ fun t vs ac wx K Q hR hZ hK => ?_
     have t5 : ac.tmps[5]? = some (.slice sa j sc) := (hR.pre 15 5 rfl (.inr (by kernel_rfl))).trans (by kernel_rfl);go_simp;exact hK _ hZ
    ·refine pZ fun t vs ac wx K Q hR hZ hK => ?_
     have t10 : ac.tmps[10]? = some (.pointer (some ⟨g7, 0, none⟩)) := hR.o 10;have y0 := hZ.e0 (by have h : t ≤ 0 := hR.hi 13 .wr rfl rfl (by kernel_rfl); omega) d0;have y1 := hZ.e0 (by have h : t ≤ 0 := hR.hi 13 .wr rfl rfl (by kernel_rfl); omega) d1;have y2 := hZ.e0 (by have h : t ≤ 0 := hR.hi 13 .wr rfl rfl (by kernel_rfl); omega) d2;have y3 := hZ.e0 (by have h : t ≤ 0 := hR.hi 13 .wr rfl rfl (by kernel_rfl); omega) d3;have y4 := hZ.e0 (by have h : t ≤ 0 := hR.hi 13 .wr rfl rfl (by kernel_rfl); omega) d4;have y5 := hZ.e0 (by have h : t ≤ 0 := hR.hi 13 .wr rfl rfl (by kernel_rfl); omega) d5;have y6 := hZ.e0 (by have h : t ≤ 0 := hR.hi 13 .wr rfl rfl (by kernel_rfl); omega) d6;have y7 := hZ.e0 (by have h : t ≤ 0 := hR.hi 13 .wr rfl rfl (by kernel_rfl); omega) d7;have y8 := hZ.e0 (by have h : t ≤ 0 := hR.hi 13 .wr rfl rfl (by kernel_rfl); omega) d8;have y9 := hZ.e0 (by have h : t ≤ 0 := hR.hi 13 .wr rfl rfl (by kernel_rfl); omega) d9;have y10 := hZ.e0 (by have h : t ≤ 0 := hR.hi 13 .wr rfl rfl (by kernel_rfl); omega) d10;go_simp;exact hK _ hZ
    ·refine pZ fun t vs ac wx K Q hR hZ hK => ?_
     have t6 : ac.tmps[6]? = some (.slice (some ⟨bl, off, none⟩) fs.length fc) := hR.o 6;go_simp;exact hK _ hZ
    ·refine pZ fun t vs ac wx K Q hR hZ hK => ?_
     have t9 : ac.tmps[9]? = some (.int .i64 (j : Nat)) := hR.o 9;go_simp;exact hK _ hZ
    ·refine pZ fun t vs ac wx K Q hR hZ hK => ?_
     have t44 := hR.q 2;have t45 := hR.q 3;go_simp;exact hK _ hZ
    ·refine pZ fun t vs ac wx K Q hR hZ hK => ?_
     have t46 := hR.q 4;go_simp;exact hK _ hZ
    ·refine pZ fun t vs ac wx K Q hR hZ hK => ?_
     have t47 := hR.q 5;have y0 := hZ.e0 (by have h : t ≤ 0 := hR.hi 13 .wr rfl rfl (by kernel_rfl); omega) e2;go_simp;exact hK _ hZ
    ·refine pZ fun t vs ac wx K Q hR hZ hK => ?_
     have t6 : ac.tmps[6]? = some (.slice (some ⟨bl, off, none⟩) fs.length fc) := hR.o 6;go_simp;exact hK _ hZ
    ·refine pZ fun t vs ac wx K Q hR hZ hK => ?_
     have t9 : ac.tmps[9]? = some (.int .i64 (j : Nat)) := hR.o 9;go_simp;exact hK _ hZ
    ·refine pZ fun t vs ac wx K Q hR hZ hK => ?_
     have t49 := hR.q 7;have t50 := hR.q 8;go_simp;exact hK _ hZ
    ·refine pZ fun t vs ac wx K Q hR hZ hK => ?_
     have t51 := hR.q 9;go_simp;exact hK _ hZ
    ·refine pZ fun t vs ac wx K Q hR hZ hK => ?_
     have t52 := hR.q 10;have y0 := hZ.e0 (by have h : t ≤ 0 := hR.hi 13 .wr rfl rfl (by kernel_rfl); omega) e3;go_simp;exact hK _ hZ
    ·refine pZ fun t vs ac wx K Q hR hZ hK => ?_
     have t43 := hR.q 1;have t48 := hR.q 6;have t53 := hR.q 11;go_simp;exact hK _ hZ
    ·refine wZ fun vs ac wx K Q hR hZ hK => ?_
     have t54 := hR.q 12;obtain rfl := hZ.zero rfl;go_simp;exact hK _ _ nofun ⟨by simp [upd], rfl⟩
    ·refine wZ fun vs ac wx K Q hR hZ hK => ?_
     have t42 := hR.q 0;have t55 := hR.w 13;obtain ⟨ev, rfl⟩ := hZ.one rfl;rw [ev] at t55;refine wp_append_lies _ (.tmp 42) (.tmp 55) 34 rfl w1.1.size 100 i0 _ 13 136 Tryz.underlying34 hi0 hz0 hz1 hz2 rfl (by omega) (.slice sa j sc) j ys (gZ t42) (hownY.alloc _) ⟨Y.1.size, 0, none⟩ 1 1 (#[.int .i64 q.k, .int .u64 (q.t : Nat), .int .u64 (q.x : Nat), .int .u64 (q.w : Nat), .int .u64 (q.n : Nat), .int .u64 (q.v : Nat), .int .i64 k0, .int .u64 (k1 : Nat), .int .u64 (k2 : Nat), .slice k3 k4 k5, .slice k6 q.es.length k7, .int .i64 (x.fr : Nat), .int .i64 (x.tp : Nat)]).toList (gZ t55) rfl (World.news_of_block (aK _ _ _ rfl)) (by simp [Value.oneCell']) (by omega) (by unfold maxLen; omega) (by omega) (by rw [aD]; show w1.1.size ≤ Y.1.size + 1; omega) (Y.1.size + 1) (by simp) ?_;intro gg gcap w3 hown2 hgrow hat hlt3;exact hK _ _ nofun ⟨gg, gcap, by simp [upd], hown2, hgrow, hat, hlt3⟩
    ·refine pZ fun t vs ac wx K Q hR hZ hK => ?_
     have t56 := hR.w 14;go_simp;exact hK _ hZ
    intro vs w5 hZ;obtain ⟨gg, gcap, ev, hown2, hgrow, hat, hlt3⟩ := hZ.two rfl;simp only [bS, List.foldl_cons, List.foldl_nil];rw [ev];have HZ := hid (au hown2 (au hgrow (au hat hlt3)));clear hZ ev hown2 hgrow hat hlt3;go_simp;go_wp2_with fail;go_roundw
    case rel =>
     obtain ⟨hown2, hgrow, hat, hlt3⟩ := HZ.out;obtain ⟨hhi, hown, hrg, hq⟩ := HOW.out;have hbY := HYY.out.2.2.2.2;have hsYw := hbY.size;refine ⟨j + 1, acc ++ [⟨q, x.fr, x.tp⟩], by go_num, HH.out.2.2.2.2, ?_, ?_, ?_⟩
     ·rw [List.take_succ_eq_append_getElem HH.out.2.2.2.2, ← HH.out.2.2.2.1]
      exact vS hq HH.out.1
     ·have hp := aS.push (I := plI) (w1 := Y) (q := ⟨q, x.fr, x.tp⟩) (cs := (#[.int .i64 q.k, .int .u64 (q.t : Nat), .int .u64 (q.x : Nat), .int .u64 (q.w : Nat), .int .u64 (q.n : Nat), .int .u64 (q.v : Nat), .int .i64 k0, .int .u64 (k1 : Nat), .int .u64 (k2 : Nat), .slice k3 k4 k5, .slice k6 q.es.length k7, .int .i64 (x.fr : Nat), .int .i64 (x.tp : Nat)] : Array Value).toList) hhi (by rw [HAL.out]; exact hown) hrg hbY nl ⟨[.int .i64 q.k, .int .u64 (q.t : Nat), .int .u64 (q.x : Nat), .int .u64 (q.w : Nat), .int .u64 (q.n : Nat), .int .u64 (q.v : Nat), .int .i64 k0, .int .u64 (k1 : Nat), .int .u64 (k2 : Nat), .slice k3 k4 k5, .slice k6 q.es.length k7], rfl, HYY.out.2.1⟩ (br.drew.alloc nl _) hgrow (by rw [HAL.out]; exact hown2) (hat.imp id (fun e => by omega))
      rw [HAL.out] at hp;exact hp
     ·exact ((HH.out.2.2.1.trans (hbY.mono hsz)).drew.alloc (by rw [World.size_drew]; omega) _).grown hgrow (by rw [aD, World.size_drew]; omega) (fun k hk => (hob k hk).1)
    case measure => have := HH.out.2.2.2.2; simp [intOf]; omega
  ·obtain rfl : j = fs.length := by omega
   rw [List.take_length] at hacc;have HH := hid (au hacc (au hmk hbel));clear hacc hmk hbel;go_wp2_with fail;go_ret3
   exact ⟨_, acc, n, rl, rfl, by rw [← HF.out.2.1]; exact (zA HH.out.1), HH.out.2.1.less hs1, HF.out.2.2.2.trans (HH.out.2.2.mono hs1)⟩
end Go.Proofs.YtlpgokcapdjgjaaGreatDoor
