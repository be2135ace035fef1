/- Walks. -/
import Derived.Test.YtlpgokcapdjgjaaGreatDoorY72
import Derived.Test.YtlpgokcapdjgjaaGreatDoorY76
set_option maxHeartbeats 8000000
set_option maxRecDepth 100000
namespace Go.Proofs.YtlpgokcapdjgjaaGreatDoor
open Go.RowKit Go
set_option linter.unusedVariables false
set_option linter.unusedSimpArgs false
def pNx (k : Nat) (l : List UInt8) (nx rl : Int) (S : Nat → Prop) (v : Value) (w : World) : Prop := ∃ pv, v = .tuple #[.agg #[.int .u8 (k : Nat), pv], .int .i64 nx, .int .i64 rl] ∧ aO w S true l pv
theorem zi (k : Nat) (l : List UInt8) (nx rl : Int) : kW (pNx k l nx rl) := fun S S' v w w' hk hs hS h => by
 obtain ⟨pv, h1, h2⟩ := h;exact ⟨pv, h1, Sl.keep (w := w) h2 (by omega) hk hS⟩
theorem AV {k : Nat} {l : List UInt8} (S : Nat → Prop) (v : Value) (w : World) (h : CX k l S v w) : ∃ cs, v = .agg cs ∧ cs.size = 2 ∧ ∀ x ∈ cs.toList, x.oneCell' = true := by
 obtain ⟨pv, rfl, h⟩ := h;obtain ⟨_, ad, cap, rfl, _⟩ := h.shape;exact ⟨_, rfl, rfl, by simp [Value.oneCell']⟩
def oD (p : Nat) (f : Frm) : Int := if f.rule = 0 then ((p + f.len : Nat) : Int) else 0
def zk (rb : Nat) (b : List UInt8) (bv : Value) (p : Nat) (w : World) (e : Ending) (w' : World) : Prop :=
 ∃ pv, e = .returned (.tuple #[.agg #[.int .u8 ((bn (b.drop p)).kind : Nat), pv, .int .i64 (p : Nat), .int .i64 (oD p (bn (b.drop p)))], .int .i64 (bn (b.drop p)).rule]) ∧ aO w' (fun k => w.1.size ≤ k) true (bn (b.drop p)).pay pv ∧
  w'.1[rb]? = some (.cells #[.int .i64 (oD p (bn (b.drop p))), bv] 166 (0, 0)) ∧ Rg rb w w'
theorem zl (rb : Nat) (n : Int) (w : World) (u v : Value) (T : TypeId) (hr : w.1[rb]? = some (.cells #[u, v] T (0, 0))) : Calls Tryz.prog 115 #[.pointer (some ⟨rb, 0, none⟩), .int .i64 n] w fun e w' => e = .returned (.tuple #[]) ∧ w' = w.setCell ⟨rb, 0, none⟩ (.int .i64 n) := by
 have c0 : w.cell? ⟨rb, 0, none⟩ = some u := by rw [ax w _ 0 _ _ _ hr]; rfl
 have f0 : w.frozen? ⟨rb, 0, none⟩ = false := by rw [aA w _ 0 _ _ hr]
 go_enter Tryz.func115, Tryz.ntmps115
 go_wp2_with fail
 go_end0
 exact ⟨rfl, rfl⟩
theorem AX (S0 : Nat → Prop) (own : Bool) (b : List UInt8) (bv : Value) (rb p : Nat) (w : World) (hr : w.1[rb]? = some (.cells #[.int .i64 (p : Nat), bv] 166 (0, 0))) (hb : aO w S0 own b bv) (hp : p ≤ b.length) (hl : b.length ≤ 100000) :
  Calls Tryz.prog 67 #[.pointer (some ⟨rb, 0, none⟩)] w (zk rb b bv p w) := by
 unfold zk;obtain ⟨_, ad, cap, rfl, _⟩ := hb.shape;have hG : ∀ w', Below w.1.size w w' → Calls Tryz.prog 114 #[.slice ad b.length cap, .int .i64 (p : Nat)] w' (tF w' p (bn (b.drop p))) := fun w' hb' => CY S0 own b _ p w' (aO.below hb hb' nl) hp hl
 unfold tF at hG;change ∀ w', Below w.1.size w w' → Calls Tryz.prog 114 #[.slice ad b.length cap, .int .i64 (p : Nat)] w' (fun e w'' => ∃ pv, e = .returned (.tuple #[.agg #[.int .u8 ((bn (b.drop p)).kind : Nat), pv], .int .i64 (oD p (bn (b.drop p))), .int .i64 (bn (b.drop p)).rule]) ∧ aO w'' (fun b => w'.1.size ≤ b) true (bn (b.drop p)).pay pv ∧ Below w'.1.size w' w'') at hG;obtain ⟨nx, hnx⟩ : ∃ nx, nx = oD p (bn (b.drop p)) := ⟨_, rfl⟩;obtain ⟨kk, hkk⟩ : ∃ kk, kk = (bn (b.drop p)).kind := ⟨_, rfl⟩;obtain ⟨l, hl2⟩ : ∃ l, l = (bn (b.drop p)).pay := ⟨_, rfl⟩;obtain ⟨rl, hrl⟩ : ∃ rl, rl = (bn (b.drop p)).rule := ⟨_, rfl⟩;rw [← hnx, ← hkk, ← hl2, ← hrl] at hG ⊢;have lrb0 : rb < w.1.size := (ak hr).1;have hinf : (Tryz.prog.info? 105).map (·.size) = some 2 := by kernel_rfl
 have hinl : (Tryz.prog.info? 107).map (·.size) = some 4 := by kernel_rfl
 clear hb hnx hkk hl2 hrl
 go_enter Tryz.func67, Tryz.ntmps67
 go_upto_region 1 with fail
 obtain ⟨X, hX⟩ : ∃ X, X = w.alloc (.cells #[.int .u8 0, .slice none 0 0, .int .i64 0, .int .i64 0] 107) := ⟨_, rfl⟩;have hbX : Below w.1.size w X := by rw [hX]; exact br.alloc nl _
 have hrX : X.1[rb]? = some (.cells #[.int .i64 (p : Nat), .slice ad b.length cap] 166 (0, 0)) := (hbX.block _ lrb0).trans hr;have hoX : X.1[w.1.size]? = some (.cells #[.int .u8 0, .slice none 0 0, .int .i64 0, .int .i64 0] 107 (0, 0)) := by rw [hX]; exact aK _ _ _ rfl
 have hsX : X.1.size = w.1.size + 1 := by rw [hX]; simp
 have c0 : X.cell? ⟨rb, 0, none⟩ = some (.int .i64 (p : Nat)) := by rw [ax X _ 0 _ _ _ hrX]; rfl
 have c1 : X.cell? ⟨rb, 1, none⟩ = some (.slice ad b.length cap) := by rw [ax X _ 1 _ _ _ hrX]; rfl
 have lrb : rb < X.1.size := by omega
 have HG : Hid (∀ w', Below X.1.size X w' → _) := hid (fun w' hb' => hG w' (hbX.trans (hb'.mono (by omega))));have HX := hid (au hbX (au hrX (au hoX hsX)));rw [← hX];clear hX hbX hrX hoX hsX hG hr;refine dK (w0 := X) rfl [.eq (.pointer (some ⟨rb, 0, none⟩)), .eq (.pointer (some ⟨rb, 0, none⟩)), .eq (.pointer (some ⟨rb, 1, none⟩)), .eq (.slice ad b.length cap), .eq (.pointer (some ⟨rb, 0, none⟩)), .eq (.pointer (some ⟨rb, 0, none⟩)), .eq (.pointer (some ⟨rb, 0, none⟩)), .eq (.pointer (some ⟨rb, 0, none⟩)), .eq (.int .i64 (p : Nat)), .of (pNx kk l nx rl), .of (pNx kk l nx rl), .of (CX kk l), .eq (.int .i64 nx), .eq (.int .i64 rl), .box 105 #[.int .u8 0, .slice none 0 0], .sto 14 11, .eq (.int .i64 nx), .eq (.int .i64 rl)] (by kernel_rfl) ⟨?_, ?_, ?_, ?_, ?_, ?_, ?_, ?_, ?_, ?_, ?_, ?_, ?_, ?_, ?_, ?_, ?_, ?_, ?_, ?_, ?_, trivial⟩ (fun vs => [(9, (.pointer (some ⟨rb, 0, none⟩))), (10, (.pointer (some ⟨rb, 0, none⟩))), (11, (.pointer (some ⟨rb, 1, none⟩))), (12, (.slice ad b.length cap)), (13, (.pointer (some ⟨rb, 0, none⟩))), (14, (.pointer (some ⟨rb, 0, none⟩))), (15, (.pointer (some ⟨rb, 0, none⟩))), (16, (.pointer (some ⟨rb, 0, none⟩))), (17, (.int .i64 (p : Nat))), (18, vs 9), (8, vs 10), (19, vs 11), (20, (.int .i64 nx)), (21, (.int .i64 rl)), (4, vs 14), (5, (.int .i64 nx)), (6, (.int .i64 rl))]) (fun _ => rfl) ?_
 ·refine rZ fun S a wx K Q hR hK => ?_
  have t0 : a.tmps[0]? = some (.pointer (some ⟨rb, 0, none⟩)) := hR.o 0;go_simp;exact hK _ _ br rfl
 ·refine rZ fun S a wx K Q hR hK => ?_
  have t9 := hR.q 0;go_simp;exact hK _ _ br rfl
 ·refine rZ fun S a wx K Q hR hK => ?_
  have t10 := hR.q 1;go_simp;exact hK _ _ br rfl
 ·refine rZ fun S a wx K Q hR hK => ?_
  have t11 := hR.q 2;have y0 := (hR.bel.cell lrb).trans c1;go_simp;exact hK _ _ br rfl
 ·refine rZ fun S a wx K Q hR hK => ?_
  have t0 : a.tmps[0]? = some (.pointer (some ⟨rb, 0, none⟩)) := hR.o 0;go_simp;exact hK _ _ br rfl
 ·refine rZ fun S a wx K Q hR hK => ?_
  have t13 := hR.q 4;go_simp;exact hK _ _ br rfl
 ·refine rZ fun S a wx K Q hR hK => ?_
  have t14 := hR.q 5;go_simp;exact hK _ _ br rfl
 ·refine rZ fun S a wx K Q hR hK => ?_
  have t15 := hR.q 6;go_simp;exact hK _ _ br rfl
 ·refine rZ fun S a wx K Q hR hK => ?_
  have t16 := hR.q 7;have y0 := (hR.bel.cell lrb).trans c0;go_simp;exact hK _ _ br rfl
 ·exact zi _ _ _ _
 ·refine rZ fun S a wx K Q hR hK => ?_
  have t12 := hR.q 3;have t17 := hR.q 8;go_simp
  go_at_call 114
  go_fit (HG.out _ hR.bel)
  rintro e w9 ⟨pv, rfl, hpv, hb9⟩;exact hK _ _ hb9 ⟨pv, rfl, Sl.keep hpv (by omega) (fun _ _ _ => rfl) (fun b _ hb => hR.new b hb)⟩
 ·exact zi _ _ _ _
 ·refine rZ fun S a wx K Q hR hK => ?_
  obtain ⟨u18, t18, f18⟩ := hR.f 9;go_simp;exact hK _ _ br f18
 ·exact vM _ _
 ·refine rZ fun S a wx K Q hR hK => ?_
  obtain ⟨u8, t8, f8⟩ := hR.f 10;obtain ⟨pv, rfl, hpv⟩ := (show pNx kk l nx rl S u8 wx from f8);go_simp;exact hK _ _ br ⟨pv, rfl, hpv⟩
 ·refine rZ fun S a wx K Q hR hK => ?_
  obtain ⟨u8, t8, f8⟩ := hR.f 10;obtain ⟨pv, rfl, hpv⟩ := (show pNx kk l nx rl S u8 wx from f8);go_simp;exact hK _ _ br rfl
 ·refine rZ fun S a wx K Q hR hK => ?_
  obtain ⟨u8, t8, f8⟩ := hR.f 10;obtain ⟨pv, rfl, hpv⟩ := (show pNx kk l nx rl S u8 wx from f8);go_simp;exact hK _ _ br rfl
 ·intro w; kernel_rfl
 ·exact StoOK.mk rfl rfl rfl hinf AV
 ·refine rZ fun S a wx K Q hR hK => ?_
  have t20 := hR.q 12;go_simp;exact hK _ _ br rfl
 ·refine rZ fun S a wx K Q hR hK => ?_
  have t21 := hR.q 13;go_simp;exact hK _ _ br rfl
 intro S1 vs Y hD;obtain ⟨g4, cs4, ev4, hg4a, hg4b, hg4, ev19, hg4S⟩ := hD.box 15 14 11 105 #[.int .u8 0, .slice none 0 0] rfl rfl;obtain ⟨pv, e19, hpv⟩ := (show CX kk l S1 (vs 11) Y from hD.ofs 11 _ rfl);obtain rfl := Value.agg.inj (ev19.symm.trans e19);have hbXY := hD.bel;have hlow := hD.low;simp only [bS, List.foldl_cons, List.foldl_nil];rw [ev4, e19];have hone : pv.oneCell' = true := by
  obtain ⟨_, a1, a2, rfl, _⟩ := hpv.shape;rfl
 have hsX := HX.out.2.2.2;have hsXY := hbXY.size;have hrY : Y.1[rb]? = some (.cells #[.int .i64 (p : Nat), .slice ad b.length cap] 166 (0, 0)) := (hbXY.block _ lrb).trans HX.out.2.1;have hoY : Y.1[w.1.size]? = some (.cells #[.int .u8 0, .slice none 0 0, .int .i64 0, .int .i64 0] 107 (0, 0)) := (hbXY.block _ (by omega)).trans HX.out.2.2.1;have e0 : Y.cell? ⟨g4, 0, none⟩ = some (.int .u8 (kk : Nat)) := by rw [ax Y _ 0 _ _ _ hg4]; rfl
 have e1 : Y.cell? ⟨g4, 1, none⟩ = some pv := by rw [ax Y _ 1 _ _ _ hg4]; rfl
 have y0c : Y.cell? ⟨rb, 0, none⟩ = some (.int .i64 (p : Nat)) := by rw [ax Y _ 0 _ _ _ hrY]; rfl
 have lg4 : g4 < Y.1.size := hg4b;have lrY : rb < Y.1.size := by omega
 have HY : Hid (Below w.1.size w Y ∧ Y.1[rb]? = some (.cells #[.int .i64 (p : Nat), .slice ad b.length cap] 166 (0, 0)) ∧ Y.1[w.1.size]? = some (.cells #[.int .u8 0, .slice none 0 0, .int .i64 0, .int .i64 0] 107 (0, 0)) ∧ aO Y (fun k => w.1.size < k) true l pv) :=
  hid ⟨HX.out.1.trans (hbXY.mono (by omega)), hrY, hoY, Sl.keep hpv (by omega) (fun _ _ _ => rfl) (fun k _ hk => by have := hlow k hk; omega)⟩
 clear hD ev4 hg4a hg4b hg4 ev19 hg4S e19 hpv hbXY hlow hrY hoY c0 c1;simp only [show ∀ g : Nat, atB g = .pointer (some ⟨g, 0, none⟩) from fun _ => rfl];go_simp
 go_upto_region 2 with fail
 refine dK (w0 := Y) rfl [.eq (.agg #[.int .u8 (kk : Nat), pv]), .eq (.pointer (some ⟨rb, 0, none⟩)), .eq (.pointer (some ⟨rb, 0, none⟩)), .eq (.pointer (some ⟨rb, 0, none⟩)), .eq (.pointer (some ⟨rb, 0, none⟩)), .eq (.int .i64 (p : Nat)), .eq (.int .i64 nx), .eq (.agg #[.int .u8 (kk : Nat), pv, .int .i64 (p : Nat), .int .i64 nx]), .box 107 #[.int .u8 0, .slice none 0 0, .int .i64 0, .int .i64 0], .sto 8 7] (by kernel_rfl) ⟨?_, ?_, ?_, ?_, ?_, ?_, ?_, ?_, ?_, ?_, trivial⟩ (fun vs => [(22, (.agg #[.int .u8 (kk : Nat), pv])), (23, (.pointer (some ⟨rb, 0, none⟩))), (24, (.pointer (some ⟨rb, 0, none⟩))), (25, (.pointer (some ⟨rb, 0, none⟩))), (26, (.pointer (some ⟨rb, 0, none⟩))), (27, (.int .i64 (p : Nat))), (28, (.int .i64 nx)), (29, (.agg #[.int .u8 (kk : Nat), pv, .int .i64 (p : Nat), .int .i64 nx])), (7, vs 8)]) (fun _ => rfl) ?_
 ·refine rZ fun S a wx K Q hR hK => ?_
  have t4 : a.tmps[4]? = some (.pointer (some ⟨g4, 0, none⟩)) := hR.o 4;have y0 := (hR.bel.cell lg4).trans e0;have y1 := (hR.bel.cell lg4).trans e1;go_simp;exact hK _ _ br rfl
 ·refine rZ fun S a wx K Q hR hK => ?_
  have t0 : a.tmps[0]? = some (.pointer (some ⟨rb, 0, none⟩)) := hR.o 0;go_simp;exact hK _ _ br rfl
 ·refine rZ fun S a wx K Q hR hK => ?_
  have t23 := hR.q 1;go_simp;exact hK _ _ br rfl
 ·refine rZ fun S a wx K Q hR hK => ?_
  have t24 := hR.q 2;go_simp;exact hK _ _ br rfl
 ·refine rZ fun S a wx K Q hR hK => ?_
  have t25 := hR.q 3;go_simp;exact hK _ _ br rfl
 ·refine rZ fun S a wx K Q hR hK => ?_
  have t26 := hR.q 4;have y0 := (hR.bel.cell lrY).trans y0c;go_simp;exact hK _ _ br rfl
 ·refine rZ fun S a wx K Q hR hK => ?_
  have t5 : a.tmps[5]? = some (.int .i64 nx) := hR.o 5;go_simp;exact hK _ _ br rfl
 ·refine rZ fun S a wx K Q hR hK => ?_
  have t22 := hR.q 0;have t27 := hR.q 5;have t28 := hR.q 6;go_simp;exact hK _ _ br rfl
 ·intro w; kernel_rfl
 ·exact StoOK.mk rfl rfl rfl hinl (fun S v w h => ⟨_, h, rfl, by simp [Value.oneCell']; exact hone⟩)
 intro S2 vs Z hD;obtain ⟨g7, cs7, ev7, hg7a, hg7b, hg7, ev29, _⟩ := hD.box 9 8 7 107 #[.int .u8 0, .slice none 0 0, .int .i64 0, .int .i64 0] rfl rfl;have e29 := hD.eqs 7 _ rfl;obtain rfl := Value.agg.inj (ev29.symm.trans e29);have hbYZ := hD.bel;simp only [bS, List.foldl_cons, List.foldl_nil];rw [ev7];have hsYZ := hbYZ.size;have hrZ : Z.1[rb]? = some (.cells #[.int .i64 (p : Nat), .slice ad b.length cap] 166 (0, 0)) := (hbYZ.block _ lrY).trans HY.out.2.1;have HTO := hid (zl rb nx Z _ _ _ hrZ);have hrW : (Z.setCell ⟨rb, 0, none⟩ (.int .i64 nx)).1[rb]? = some (.cells #[.int .i64 nx, .slice ad b.length cap] 166 (0, 0)) := aM hrZ rfl;have hb1Z : Rg rb w (Z.setCell ⟨rb, 0, none⟩ (.int .i64 nx)) := Rg.setCell (Rg.of_below (HY.out.1.trans (hbYZ.mono (by omega)))) 0 _;have ne7 : g7 ≠ rb := by omega
 have neo : w.1.size ≠ rb := by omega
 have hg7W : (Z.setCell ⟨rb, 0, none⟩ (.int .i64 nx)).1[g7]? = some (.cells #[.int .u8 (kk : Nat), pv, .int .i64 (p : Nat), .int .i64 nx] 107 (0, 0)) := (ay _ _ _ _ ne7).trans hg7;have hoW : (Z.setCell ⟨rb, 0, none⟩ (.int .i64 nx)).1[w.1.size]? = some (.cells #[.int .u8 0, .slice none 0 0, .int .i64 0, .int .i64 0] 107 (0, 0)) := (ay _ _ _ _ neo).trans ((hbYZ.block _ (by omega)).trans HY.out.2.2.1);have hpZ : aO (Z.setCell ⟨rb, 0, none⟩ (.int .i64 nx)) (fun k => w.1.size < k) true l pv := Sl.keep HY.out.2.2.2 (by omega) (fun k hk hlk => (ay _ _ _ _ (by have hk : w.1.size < k := hk; show k ≠ rb; omega)).trans (hbYZ.block k hlk)) (fun _ _ h => h);clear hD ev7 hg7a ev29 e29 hbYZ hrZ e0 e1 y0c;simp only [show ∀ g : Nat, atB g = .pointer (some ⟨g, 0, none⟩) from fun _ => rfl];go_simp;go_wp2_with fail;refine HTO.out.mono ?_;rintro e W ⟨rfl, hW⟩;rw [← hW] at hrW hb1Z hg7W hoW hpZ;have l0 : W.cell? ⟨g7, 0, none⟩ = some (.int .u8 (kk : Nat)) := by rw [ax W _ 0 _ _ _ hg7W]; rfl
 have l1 : W.cell? ⟨g7, 1, none⟩ = some pv := by rw [ax W _ 1 _ _ _ hg7W]; rfl
 have l2 : W.cell? ⟨g7, 2, none⟩ = some (.int .i64 (p : Nat)) := by rw [ax W _ 2 _ _ _ hg7W]; rfl
 have l3 : W.cell? ⟨g7, 3, none⟩ = some (.int .i64 nx) := by rw [ax W _ 3 _ _ _ hg7W]; rfl
 have HW := hid (au hrW (au hb1Z (au hoW hpZ)));clear hW hrW hb1Z hg7W hoW hpZ HTO
 go_wp2_with (refine wpList_store_row rfl 107 (.tmp 2) (.tmp 35) rfl rfl w.1.size rfl _ rfl 107 _ HW.out.2.2.1 (by kernel_rfl) rfl (by simp [Value.oneCell']; exact hone) ?_)
 refine aC (v := .tuple #[.agg #[.int .u8 (kk : Nat), pv, .int .i64 (p : Nat), .int .i64 nx], .int .i64 rl]) (aN rfl _ _ w.1.size 107 _ _ _ _ rfl (aB _ _ _ _ _ _ HW.out.2.2.1) Tryz.underlying107 rfl (by kernel_rfl) rfl) rfl ?_;obtain ⟨h1, h2, h3, h4⟩ := HW.out;exact ⟨pv, rfl, Sl.keep h4 (by omega) (fun k hk hlk => setRow_other _ _ _ _ (by have hk : w.1.size < k := hk; omega)) (fun k _ hk => Nat.le_of_lt hk), (setRow_other _ _ _ _ (by omega)).trans h1, ⟨h2.os, h2.tape, h2.output, by simpa [World.setRow] using h2.size, fun k hk hn => (setRow_other _ _ _ _ (by omega)).trans (h2.keep k hk hn)⟩⟩
open Go.Shelf
attribute [local go_sem] Oper.semAt_some
structure FY (b : List UInt8) where
 p : Nat
 hp : p < b.length
 pv : Value
def FY.f {b : List UInt8} (x : FY b) : Frm := bn (b.drop x.p)
def FY.enc {b : List UInt8} (x : FY b) : Array Value := #[.agg #[.int .u8 (x.f.kind : Nat), x.pv, .int .i64 (x.p : Nat), .int .i64 (oD x.p x.f)], .int .i64 x.f.rule]
inductive YTo (b : List UInt8) : List (FY b) → Nat → Prop
 | nil : YTo b [] 0
 | snoc {a : List (FY b)} {x : FY b} (h : YTo b a x.p) (hr : x.f.rule = 0) : YTo b (a ++ [x]) (x.p + x.f.len)
theorem YTo.le {b : List UInt8} {a : List (FY b)} {q : Nat} (h : YTo b a q) : q ≤ b.length ∧ a.length ≤ q := by
 induction h with
 | nil => simp
 | snoc h hr ih =>
  rename_i a x;obtain ⟨h1, h2, _⟩ := dQ hr;have := x.hp;simp only [aI, aJ, List.length_nil, List.length_drop, FY.f] at h2 ⊢;unfold FY.f at *;omega
def Ig (b : List UInt8) (xs : List (FY b)) : Prop := (∃ q, YTo b xs q ∧ ¬ q < b.length) ∨ ∃ (a : List (FY b)) (x : FY b), xs = a ++ [x] ∧ YTo b a x.p ∧ x.f.rule ≠ 0
def Gq (b : List UInt8) (xs : List (FY b)) : Prop := ∃ (a : List (FY b)) (x : FY b), xs = a ++ [x] ∧ YTo b a x.p
theorem De (S0 : Nat → Prop) (own : Bool) (b : List UInt8) (bv : Value) (w : World) (hb : aO w S0 own b bv) (hl : b.length ≤ 100000) :
  Calls Tryz.prog 36 #[bv] w fun e w' => e = .returned (.func (.func 66) #[] #[.pointer (some ⟨w.1.size, 0, none⟩)]) ∧ (∃ bv', w'.1[w.1.size]? = some (.cells #[bv'] 32 (0, 0)) ∧ aO w' (fun k => w.1.size < k) true b bv') ∧ Below w.1.size w w' := by
 obtain ⟨_, ad, cap, rfl, _⟩ := hb.shape;have hb0 : Below w.1.size w (w.alloc (.cells #[.slice ad b.length cap] 32)) := (Below.refl _ w).alloc nl _;have HC := hid (dM S0 own b _ (w.alloc (.cells #[.slice ad b.length cap] 32)) (aO.below hb hb0 nl) (by omega));have HB := hid hb0;clear hb hb0
 go_enter Tryz.func36, Tryz.ntmps36
 go_wp2_with fail;refine HC.out.mono ?_;rintro e w1 ⟨v, rfl, hown, hb1⟩;have g0 : w1.1[w.1.size]? = some (.cells #[.slice ad b.length cap] 32 (0, 0)) := (hb1.block _ (by simp)).trans (aK _ _ _ rfl);have c0 : w1.cell? ⟨w.1.size, 0, none⟩ = some (.slice ad b.length cap) := by rw [ax w1 _ 0 _ _ _ g0]; rfl
 have f0 : w1.frozen? ⟨w.1.size, 0, none⟩ = false := by rw [aA w1 _ 0 _ _ g0]
 obtain ⟨va, vc, rfl⟩ := aQ hown;have HO := hid (au hown (au hb1 g0));clear hown hb1 g0;go_wp2_with fail;go_ret
 refine ⟨rfl, ⟨_, aM HO.out.2.2 rfl, ?_⟩, (HB.out.trans (HO.out.2.1.mono (by simp))).setCell nl _⟩;refine Sl.keep (Sl.of_owns HO.out.1 (by omega)) (by omega) (fun k hk _ => ay _ _ _ _ ?_) (fun k _ hk => ?_)
 ·have := hk.2
  rw [aD] at this;show k ≠ w.1.size;omega
 ·have := hk.2
  rw [aD] at this;omega
def zm (c : Nat) (w : World) : Nat := match w.cell? ⟨c, 0, none⟩ with
 | some (.int _ n) => n.toNat
 | _ => 0
theorem Df (n : Nat) (hn : 1 ≤ n) (b : List UInt8) (bv : Value) (hl : b.length ≤ 100000) (c0 z : Nat) (w : World) (hz : w.1.size = z) (hc : w.1[c0]? = some (.cells #[bv] 32 (0, 0))) (hb : aO w (fun k => c0 < k) true b bv) :
  GH Fence.wide n Tryz.prog 66 #[.pointer (some ⟨c0, 0, none⟩)] (FY.enc (b := b)) (fun rb x W => aO W (fun k => rb < k) true x.f.pay x.pv) (fun rb W W' => (∀ k, c0 ≤ k → k < z → W'.1[k]? = W.1[k]?) ∧ W'.1[rb]? = W.1[rb]?) (Ig b) (Gq b) (b.length + 1) (fun n => n) w := by
 intro l J Jx W hW hJ hJx hY h0;subst hz;have hcl := (ak hc).1;have hb' : aO w (fun k => c0 < k ∧ k < w.1.size) true b bv := Sl.keep hb (by omega) (fun _ _ _ => rfl) (fun k h1 h2 => ⟨h2, h1⟩);have hcW : W.1[c0]? = some (.cells #[bv] 32 (0, 0)) := (hW.block c0 hcl).trans hc;have hbW : aO W (fun k => c0 < k ∧ k < w.1.size) true b bv := aO.below hb' hW nl;have hzW := hW.size;have hsz := hzW;obtain ⟨_, ad, cap, rfl, _⟩ := hbW.shape;obtain ⟨rb, hrb⟩ : ∃ rb, rb = W.1.size := ⟨_, rfl⟩;change AbC W.1.size J at hJ;change AbC W.1.size Jx at hJx
 dsimp only at hY
 rw [← hrb] at hY hJ hJx;have HY := hid hY;have HJ := hid (au hJ hJx);obtain ⟨X, hX⟩ : ∃ X, X = W.alloc (.cells #[.int .i64 0, .slice ad b.length cap] 166) := ⟨_, rfl⟩;have hbX : Below W.1.size W X := by rw [hX]; exact br.alloc nl _
 have hrX : X.1[rb]? = some (.cells #[.int .i64 0, .slice ad b.length cap] 166 (0, 0)) := by rw [hX, hrb]; exact aK _ _ _ rfl
 have h0X : J [] X := hJ _ _ _ h0 (Tc.of_below hbX);have hbXb : aO X (fun k => c0 < k ∧ k < w.1.size) true b (.slice ad b.length cap) := aO.below hbW hbX nl;have c0W : W.cell? ⟨c0, 0, none⟩ = some (.slice ad b.length cap) := by rw [ax W _ 0 _ _ _ hcW]; rfl
 have lc0 : c0 < W.1.size := by omega
 have HX := hid (au hrX (au h0X (au hbXb hX)));have HRB := hid hrb;have hrw : w.1.size ≤ rb := by omega
 clear hY hJ hJx hc hW hb hb' hcW hbW hbX hrX h0X hbXb hX hrb h0;refine callsIn_of_wp Tryz.func66 rfl trivial ?_ rfl;simp only [Tryz.ntmps66, List.size_toArray, aJ, List.length_nil, Nat.reduceAdd, Nat.reduceSub, Array.replicate_succ, Array.replicate_zero, List.push_toArray, List.append_toArray, List.nil_append, List.cons_append]
 gi_wp2
 rw [← HX.out.2.2.2, ← HRB.out]
 gi_loopw [] (fun wr => ∃ (pre : List (FY b)) (p : Nat), YTo b pre p ∧ J pre wr ∧ wr.1[rb]? = some (.cells #[.int .i64 (p : Nat), .slice ad b.length cap] 166 (0, 0)) ∧ aO wr (fun k => c0 < k ∧ k < w.1.size) true b (.slice ad b.length cap)) (fun wr => b.length - zm rb wr)
 case atStart => exact ⟨[], 0, .nil, HX.out.2.1, HX.out.1, HX.out.2.2.1⟩
 case round =>
  obtain ⟨pre, p, hy, hj, hr, hrp⟩ := hrel;have cl0 : wr.cell? ⟨rb, 0, none⟩ = some (.int .i64 (p : Nat)) := by rw [ax wr _ 0 _ _ _ hr]; rfl
  have cl1 : wr.cell? ⟨rb, 1, none⟩ = some (.slice ad b.length cap) := by rw [ax wr _ 1 _ _ _ hr]; rfl
  have hle := hy.le;by_cases hp : p < b.length
  ·have t1 : (p : Int) < (b.length : Int) := by omega
   have lrb : rb < wr.1.size := (ak hr).1;have HN := hid (AX _ true b _ rb p wr.drew (show wr.drew.1[rb]? = _ from hr) (aO.below hrp br.drew nl) (by omega) hl);have HH := hid (au hy (au hj (au hr hrp)));have hms : zm rb wr = p := (by unfold zm; rw [cl0]; simp);have HMS := hid hms;clear hy hj hr hrp hms
   gi_wp2
   gi_region
   all_goals gi_wp2
   refine ⟨trivial, (callsIn_wide.2 HN.out).mono ?_⟩;rintro e w2 ⟨pv, rfl, hpv, hr2, hg2⟩;obtain ⟨f, hf⟩ : ∃ f, f = bn (b.drop p) := ⟨_, rfl⟩;rw [← hf] at hpv hr2 ⊢;obtain ⟨_, pa, pc, rfl, _⟩ := hpv.shape;have hgs := hg2.size;simp only [World.size_drew] at hgs;obtain ⟨W3, hW3⟩ : ∃ W3, W3 = w2.alloc (.cells #[.int .u8 (f.kind : Nat), .slice pa f.pay.length pc, .int .i64 (p : Nat), .int .i64 (oD p f)] 107) := ⟨_, rfl⟩;have hb3 : Below w2.1.size w2 W3 := (by rw [hW3]; exact br.alloc nl _);have hT3 : Tc rb wr W3 := (Tc.of_below (c := rb) (Below.refl _ wr).drew).trans (Tc.trans ⟨hg2.os, hg2.tape, hg2.output, hg2.size, hg2.keep⟩ (Tc.of_below hb3));have hr3 : W3.1[rb]? = some (.cells #[.int .i64 (oD p f), .slice ad b.length cap] 166 (0, 0)) := (hb3.block _ (by omega)).trans hr2;have hp3 : aO W3 (fun k => rb < k) true f.pay (.slice pa f.pay.length pc) := Sl.keep (aO.below hpv hb3 nl) (by omega) (fun _ _ _ => rfl) (fun k _ hk => by have hk : wr.drew.1.size ≤ k := hk; simp only [World.size_drew] at hk; omega);have hs3 := hb3.size;obtain ⟨fn, tmps, assign, body, hyy, hR⟩ := HY.out pre ⟨p, hp, .slice pa f.pay.length pc⟩ W3 (HJ.out.1 _ _ _ HH.out.2.1 hT3) (by omega) (by omega) (by unfold FY.f; rw [← hf]; exact hp3);have hpr3 : aO W3 (fun k => c0 < k ∧ k < w.1.size) true b (.slice ad b.length cap) := Sl.keep HH.out.2.2.2 (by omega) (fun k hk hlk => hT3.keep k hlk (by omega)) (fun _ _ h => h)
   dsimp only [FY.enc, FY.f] at hyy hR
   rw [← hf] at hyy;rw [hW3] at hyy hR hr3 hpr3;have HF := hid (au hf (au hr3 hpr3));clear hf hpv hr2 hg2 hW3 hb3 hT3 hr3 hp3 hpr3 hgs hs3;have hst : Gq b (pre ++ [(⟨p, hp, .slice pa f.pay.length pc⟩ : FY b)]) := ⟨pre, _, rfl, HH.out.1⟩;have HST := hid hst;clear hst;by_cases h0 : f.rule = 0
   ·have t0 : (f.rule != 0) = false := by simp [h0]
    have H0 := hid h0;clear h0
    gi_wp2
    refine hR.mono ?_;rintro e W4 (⟨rfl, hJ4, hk4⟩ | ⟨rfl, hJx4⟩)
    ·have hr4 : W4.1[rb]? = some (.cells #[.int .i64 (oD p f), .slice ad b.length cap] 166 (0, 0)) := hk4.2.trans HF.out.2.1
     have hx4 : oD p f = ((p + f.len : Nat) : Int) := (by unfold oD; rw [if_pos H0.out]);have hrp4 : aO W4 (fun k => c0 < k ∧ k < w.1.size) true b (.slice ad b.length cap) := Sl.keep HF.out.2.2 (by omega) (fun k hk _ => hk4.1 k (by omega) hk.2) (fun _ _ h => h);have hg := dQ (l := b.drop p) (by rw [← HF.out.1]; exact H0.out);rw [← HF.out.1] at hg;have HK := hid (au hJ4 (au hr4 (au hx4 (au hrp4 hg))));clear hJ4 hk4 hr4 hx4 hrp4 hg hR hyy
     gi_wp2
     go_roundw
     case rel =>
      refine ⟨_, p + f.len, ?_, HK.out.1, by rw [← HK.out.2.2.1]; exact HK.out.2.1, HK.out.2.2.2.1⟩;have h := YTo.snoc (x := (⟨p, hp, .slice pa f.pay.length pc⟩ : FY b)) HH.out.1 (by unfold FY.f; rw [← HF.out.1]; exact H0.out);unfold FY.f at h;rw [← HF.out.1] at h;exact h
     case measure =>
      have hm4 : zm rb W4 = p + f.len := (by unfold zm; rw [ax W4 _ 0 _ _ _ HK.out.2.1, HK.out.2.2.1]; simp; omega);rw [hm4, HMS.out];have := HK.out.2.2.2.2.1;omega
    ·clear hR hyy
     gi_wp2
     refine aC (results_none rfl _ _ _) rfl ?_;exact ⟨⟨_, rfl⟩, .inr ⟨_, HST.out, hJx4⟩⟩
   ·have t0 : (f.rule != 0) = true := by simp [h0]
    have H0 := hid h0;clear h0
    gi_wp2
    refine hR.mono ?_;rintro e W4 (⟨rfl, hJ4, hk4⟩ | ⟨rfl, hJx4⟩)
    ·clear hR hyy
     gi_wp2
     refine aC (results_none rfl _ _ _) rfl ?_;exact ⟨⟨_, rfl⟩, .inl ⟨_, .inr ⟨pre, _, rfl, HH.out.1, by unfold FY.f; rw [← HF.out.1]; exact H0.out⟩, hJ4⟩⟩
    ·clear hR hyy
     gi_wp2
     refine aC (results_none rfl _ _ _) rfl ?_;exact ⟨⟨_, rfl⟩, .inr ⟨_, HST.out, hJx4⟩⟩
  ·have t1 : ¬ (p : Int) < (b.length : Int) := by omega
   have HH := hid (au hy hj);clear hy hj hr hrp
   gi_wp2
   gi_region
   all_goals gi_wp2
   all_goals go_end0
   all_goals exact ⟨⟨_, rfl⟩, .inl ⟨pre, .inl ⟨p, HH.out.1, hp⟩, HJ.out.1 _ _ _ HH.out.2 (Tc.of_below br.drew)⟩⟩
attribute [local go_sem] Oper.semAt_some
def plI : Item Plc where
 k := 13
 P w S x cs := ∃ c : List Value, cs = c ++ [.int .i64 (x.fr : Nat), .int .i64 (x.tp : Nat)] ∧ bL w S true x.q (.agg c.toArray)
 len h := by
  obtain ⟨c, rfl, hr⟩ := h;have := (iJ hr).1;simp at this ⊢;omega
 one h := by
  obtain ⟨c, rfl, hr⟩ := h;intro u hu;rcases List.mem_append.1 hu with hu | hu
  ·exact (iJ hr).2 u (by simpa using hu)
  ·simp only [List.mem_cons, List.not_mem_nil, or_false] at hu
   rcases hu with rfl | rfl <;> rfl
 keep h hk hS := by
  obtain ⟨c, e, hr⟩ := h;exact ⟨c, e, hr.keep hk hS⟩
def oF {b : List UInt8} (x : FY b) : Option Plc := if x.f.rule = 0 then (bC x.f.kind x.f.pay).map fun q => ⟨q, x.p, x.p + x.f.len⟩ else none
def lJ {b : List UInt8} (x : FY b) : Int := if x.f.rule = 0 then dx x.f.kind x.f.pay else x.f.rule
def lK {b : List UInt8} : List (FY b) → Option (List Plc)
 | [] => some []
 | x :: r => (oF x).bind fun q => (lK r).map fun l => q :: l
theorem vO {b : List UInt8} {x : FY b} {q : Plc} (hx : oF x = some q) : ∀ {a : List (FY b)} {acc : List Plc}, lK a = some acc → lK (a ++ [x]) = some (acc ++ [q])
 | [], acc, h => by
  cases h
  rw [List.nil_append, lK, hx];rfl
 | y :: a, acc, h => by
  rw [lK] at h;obtain ⟨q', hq', h2⟩ := ae h;obtain ⟨l, hl, rfl⟩ := aa h2;rw [List.cons_append, lK, hq', ai, vO hx hl];rfl
theorem tL {b : List UInt8} {x : FY b} : ∀ {a : List (FY b)} {acc : List Plc}, lK (a ++ [x]) = some acc → ∃ acc' q, lK a = some acc' ∧ oF x = some q ∧ acc = acc' ++ [q]
 | [], acc, h => by
  rw [List.nil_append, lK] at h;obtain ⟨q, hq, h2⟩ := ae h;obtain ⟨l, hl, rfl⟩ := aa h2;cases hl
  exact ⟨[], q, rfl, hq, rfl⟩
 | y :: a, acc, h => by
  rw [List.cons_append, lK] at h;obtain ⟨q', hq', h2⟩ := ae h;obtain ⟨l, hl, rfl⟩ := aa h2;obtain ⟨acc', q, h3, h4, rfl⟩ := tL hl;exact ⟨q' :: acc', q, by rw [lK, hq', ai, h3]; rfl, h4, rfl⟩
theorem zo {b : List UInt8} : ∀ {a : List (FY b)} {acc : List Plc}, lK a = some acc → acc.length = a.length
 | [], acc, h => by cases h; rfl
 | y :: a, acc, h => by
  rw [lK] at h;obtain ⟨q', hq', h2⟩ := ae h;obtain ⟨l, hl, rfl⟩ := aa h2;rw [aJ, aJ, zo hl]
def ky (acc : List Plc) : Nat := match acc.getLast? with
 | some x => x.tp
 | none => 0
theorem vP (acc : List Plc) (x : Plc) : ky (acc ++ [x]) = x.tp := by unfold ky; simp
theorem vQ {b : List UInt8} {x : FY b} {q : Plc} (h : oF x = some q) : x.f.rule = 0 ∧ ∃ r, bC x.f.kind x.f.pay = some r ∧ q = ⟨r, x.p, x.p + x.f.len⟩ := by
 unfold oF at h;split at h
 ·rename_i h0
  obtain ⟨r, h1, h2⟩ := aa h;exact ⟨h0, r, h1, h2.symm⟩
 ·cases h
theorem zq {b : List UInt8} {xs : List (FY b)} {q : Nat} (h : YTo b xs q) : ∀ {acc : List Plc}, lK xs = some acc → jq b acc q ∧ ky acc = q := by
 induction h with
 | nil =>
  intro acc h;cases h
  exact ⟨.nil, rfl⟩
 | snoc h hr ih =>
  rename_i a x;intro acc ha;obtain ⟨acc', q, h1, h2, rfl⟩ := tL ha;obtain ⟨h3, r, h4, rfl⟩ := vQ h2;exact ⟨.snoc (ih h1).1 x.hp h3 h4, vP _ _⟩
theorem Dg {b : List UInt8} {a : List (FY b)} {x : FY b} {acc : List Plc} (h : YTo b a x.p) (ha : lK a = some acc) (hx : oF x = none) : lG b = (acc, x.p, lJ x) := by
 have hd := (zq h ha).1;unfold oF at hx;unfold lJ;split at hx
 ·rename_i h0
  rw [if_pos h0];exact hd.bad x.hp h0 (by simpa [FY.f] using hx)
 ·rename_i h0
  rw [if_neg h0];exact hd.cut x.hp h0
theorem qA {k : Nat} {l : List UInt8} {q : Rec} (h : bC k l = some q) : dx k l = 0 := by
 obtain ⟨h1, h2, _⟩ := jT h;have h3 := h2.1;have h4 := h2.2.1;unfold dx;rw [if_pos (by omega), h];rfl
theorem qB {k : Nat} {l : List UInt8} (h : bC k l = none) : dx k l ≠ 0 := by
 unfold dx;rw [h];split <;> decide
structure WD (w : World) (z : Nat) (b : List UInt8) (pre : List (FY b)) (sv : Value) (acc : List Plc) (W : World) : Prop where
 bel : Below w.1.size w W
 l : W.1[w.1.size]? = some (.cells #[sv] 38 (0, 0))
 n : W.1[w.1.size + 1]? = some (.cells #[.int .i64 (ky acc : Nat)] 3 (0, 0))
 e : W.1[w.1.size + 2]? = some (.cells #[.int .i64 0] 35 (0, 0))
 ac : lK pre = some acc
 row : (sv = .slice none 0 0 ∧ acc = []) ∨ aS plI W (z + 3) 77 sv acc
theorem WD.tc {w : World} {z : Nat} {b : List UInt8} {pre : List (FY b)} {sv : Value} {acc : List Plc} {W W' : World} {k : Nat} (h : WD w z b pre sv acc W) (ht : Tc k W W') (h1 : w.1.size + 3 ≤ k) (h2 : k < z + 3) : WD w z b pre sv acc W' := by
 have l2 := (ak h.e).1;exact ⟨ik h.bel ht (by omega) h.bel.size, (ht.keep _ (by omega) (by omega)).trans h.l, (ht.keep _ (by omega) (by omega)).trans h.n, (ht.keep _ l2 (by omega)).trans h.e, h.ac, h.row.imp id (fun m => m.tc ht h2)⟩
structure WE (w : World) (z : Nat) (b : List UInt8) (pre : List (FY b)) (W : World) : Prop where
 bel : Below w.1.size w W
 ex : ∃ (sv : Value) (acc : List Plc) (a : List (FY b)) (x : FY b), W.1[w.1.size]? = some (.cells #[sv] 38 (0, 0)) ∧ W.1[w.1.size + 1]? = some (.cells #[.int .i64 (x.p : Nat)] 3 (0, 0)) ∧ W.1[w.1.size + 2]? = some (.cells #[.int .i64 (lJ x)] 35 (0, 0)) ∧
  pre = a ++ [x] ∧ lK a = some acc ∧ oF x = none ∧ ((sv = .slice none 0 0 ∧ acc = []) ∨ aS plI W (z + 3) 77 sv acc)
theorem WE.tc {w : World} {z : Nat} {b : List UInt8} {pre : List (FY b)} {W W' : World} {k : Nat} (h : WE w z b pre W) (ht : Tc k W W') (h1 : w.1.size + 3 ≤ k) (h2 : k < z + 3) : WE w z b pre W' := by
 obtain ⟨hb, sv, acc, a, x, e1, e2, e3, e4, e5, e6, e7⟩ := h;have l2 := (ak e3).1;exact ⟨ik hb ht (by omega) hb.size, sv, acc, a, x, (ht.keep _ (by omega) (by omega)).trans e1, (ht.keep _ (by omega) (by omega)).trans e2, (ht.keep _ l2 (by omega)).trans e3, e4, e5, e6, e7.imp id (fun m => m.tc ht h2)⟩
theorem Dh {W : World} {a b c : Nat} {x y z : Value} {k : Nat} (h : k ≠ a ∧ k ≠ b ∧ k ≠ c) : ((((W.setCell ⟨a, 0, none⟩ x).setCell ⟨b, 0, none⟩ y).setCell ⟨c, 0, none⟩ z).drew).1[k]? = W.1[k]? :=
 (ay _ _ _ _ h.2.2).trans ((ay _ _ _ _ h.2.1).trans (ay _ _ _ _ h.1))
def BP (b : List UInt8) (w : World) (e : Ending) (w' : World) : Prop :=
 ∃ (sv : Value) (acc : List Plc) (n : Nat) (rl : Int), e = .returned (.tuple #[sv, .int .i64 (n : Nat), .int .i64 rl]) ∧ lG b = (acc, n, rl) ∧ ((sv = .slice none 0 0 ∧ acc = []) ∨ aS plI w' w.1.size 77 sv acc) ∧ Below w.1.size w w'
theorem fT.lo {α : Type} {I : Item α} {w : World} {A : Nat → Prop} {lo lo' hi : Nat} (hl : lo' ≤ lo) : ∀ {rs : List α} {xs : List Value}, fT I w A lo hi rs xs → fT I w A lo' hi rs xs
 | [], xs, h => ⟨h.1, Nat.le_trans hl h.2⟩
 | r :: rs, xs, h => by
  obtain ⟨cs, mid, rest, e, h0, h1, h2⟩ := h;exact ⟨cs, mid, rest, e, Nat.le_trans hl h0, I.keep h1 (fun _ _ _ => rfl) (fun b _ hb => ⟨hb.1, by omega, hb.2.2⟩), h2⟩
theorem aS.less {α : Type} {I : Item α} {w : World} {base base' : Nat} {T : TypeId} {sv : Value} {rs : List α} (h : aS I w base T sv rs) (hb : base' ≤ base) : aS I w base' T sv rs := by
 obtain ⟨ys, hi, h0, h1, h2⟩ := h;exact ⟨ys, hi, h0, ko h1 hb, fT.lo hb h2⟩
theorem FW : (Tryz.prog.info? 77).map (fun i => (i.zero, i.size, i.bytes)) = some (some (.agg #[.int .i64 0, .int .u64 0, .int .u64 0, .int .u64 0, .int .u64 0, .int .u64 0, .int .i64 0, .int .u64 0, .int .u64 0, .slice none 0 0, .slice none 0 0, .int .i64 0, .int .i64 0]), 13, 136) := by kernel_rfl
def DZ (Y : World) (T : TypeId) (base : Nat) (sv : Value) (n : Nat) (ys : List Value) (row : Array Value) (lb : Nat) (nx : Int) : Nat → (Nat → Value) → World → Prop
 | 0, vs, w => w = Y.drew
 | 1, vs, w => vs 7 = .slice (some ⟨Y.1.size, 0, none⟩) 1 1 ∧ w = Y.drew.alloc (.cells row T)
 | t + 2, vs, w => ∃ gg gcap w3, vs 8 = .slice (some ⟨gg, 0, none⟩) (n + 1) gcap ∧ w3.ownsRow base T 13 (.slice (some ⟨gg, 0, none⟩) (n + 1) gcap) (n + 1) (ys ++ row.toList) ∧ (Y.drew.alloc (.cells row T)).grownBy w3 sv.ownBlock ∧ (sv.ownBlock = some gg ∨ gg = Y.1.size + 1) ∧ gg < w3.1.size ∧
   w = (if t = 0 then w3 else if t = 1 then w3.setCell ⟨lb, 0, none⟩ (.slice (some ⟨gg, 0, none⟩) (n + 1) gcap) else (w3.setCell ⟨lb, 0, none⟩ (.slice (some ⟨gg, 0, none⟩) (n + 1) gcap)).setCell ⟨lb + 1, 0, none⟩ (.int .i64 nx))
section
variable {Y : World} {T : TypeId} {base : Nat} {sv : Value} {n : Nat} {ys : List Value} {row : Array Value} {lb : Nat} {nx : Int} {t : Nat} {vs : Nat → Value} {w : World}
theorem DZ.zero (h : DZ Y T base sv n ys row lb nx t vs w) (ht : t = 0) : w = Y.drew := by subst ht; exact h
theorem DZ.one (h : DZ Y T base sv n ys row lb nx t vs w) (ht : t = 1) : vs 7 = .slice (some ⟨Y.1.size, 0, none⟩) 1 1 ∧ w = Y.drew.alloc (.cells row T) := by subst ht; exact h
theorem DZ.two (h : DZ Y T base sv n ys row lb nx t vs w) (ht : t = 2) : ∃ gg gcap w3, vs 8 = .slice (some ⟨gg, 0, none⟩) (n + 1) gcap ∧ w3.ownsRow base T 13 (.slice (some ⟨gg, 0, none⟩) (n + 1) gcap) (n + 1) (ys ++ row.toList) ∧ (Y.drew.alloc (.cells row T)).grownBy w3 sv.ownBlock ∧ (sv.ownBlock = some gg ∨ gg = Y.1.size + 1) ∧ gg < w3.1.size ∧ w = w3 := by subst ht; exact h
theorem DZ.three (h : DZ Y T base sv n ys row lb nx t vs w) (ht : t = 3) : ∃ gg gcap w3, vs 8 = .slice (some ⟨gg, 0, none⟩) (n + 1) gcap ∧ w3.ownsRow base T 13 (.slice (some ⟨gg, 0, none⟩) (n + 1) gcap) (n + 1) (ys ++ row.toList) ∧ (Y.drew.alloc (.cells row T)).grownBy w3 sv.ownBlock ∧ (sv.ownBlock = some gg ∨ gg = Y.1.size + 1) ∧ gg < w3.1.size ∧ w = w3.setCell ⟨lb, 0, none⟩ (.slice (some ⟨gg, 0, none⟩) (n + 1) gcap) := by subst ht; exact h
theorem DZ.four (h : DZ Y T base sv n ys row lb nx t vs w) (ht : t = 4) : ∃ gg gcap w3, vs 8 = .slice (some ⟨gg, 0, none⟩) (n + 1) gcap ∧ w3.ownsRow base T 13 (.slice (some ⟨gg, 0, none⟩) (n + 1) gcap) (n + 1) (ys ++ row.toList) ∧ (Y.drew.alloc (.cells row T)).grownBy w3 sv.ownBlock ∧ (sv.ownBlock = some gg ∨ gg = Y.1.size + 1) ∧ gg < w3.1.size ∧ w = (w3.setCell ⟨lb, 0, none⟩ (.slice (some ⟨gg, 0, none⟩) (n + 1) gcap)).setCell ⟨lb + 1, 0, none⟩ (.int .i64 nx) := by subst ht; exact h
theorem DZ.e0 (h : DZ Y T base sv n ys row lb nx t vs w) (ht : t = 0) {p : Addr} {v : Value} (hc : Y.cell? p = some v) : w.cell? p = some v := by rw [h.zero ht]; exact hc
theorem pO {w3 : World} (hg : (Y.drew.alloc (.cells row T)).grownBy w3 sv.ownBlock) {k : Nat} (hl : k < Y.1.size) (ho : sv.ownBlock ≠ some k) : w3.1[k]? = Y.1[k]? :=
 (hg.block k (by simp; omega) (fun e => ho e.symm)).trans (az _ _ _ (by simpa using hl))
theorem oG {w3 : World} (hg : (Y.drew.alloc (.cells row T)).grownBy w3 sv.ownBlock) {k o : Nat} {v : Value} (hl : k < Y.1.size) (ho : sv.ownBlock ≠ some k) (hc : Y.cell? ⟨k, o, none⟩ = some v) : w3.cell? ⟨k, o, none⟩ = some v := by
 rw [← hc];unfold World.cell?;rw [pO hg hl ho]
theorem zt {w3 : World} (hg : (Y.drew.alloc (.cells row T)).grownBy w3 sv.ownBlock) {k o : Nat} {f : Bool} (hl : k < Y.1.size) (ho : sv.ownBlock ≠ some k) (hc : Y.frozen? ⟨k, o, none⟩ = f) : w3.frozen? ⟨k, o, none⟩ = f := by
 rw [← hc];unfold World.frozen?;rw [pO hg hl ho]
theorem cO (w : World) (k k' o : Nat) (v : Value) (h : k' ≠ k := by omega) : (w.setCell ⟨k, 0, none⟩ v).cell? ⟨k', o, none⟩ = w.cell? ⟨k', o, none⟩ := by
 unfold World.cell?;rw [ay _ _ _ _ h]
theorem bY (w : World) (k k' : Nat) (v : Value) (h : k' ≠ k := by omega) : (w.setCell ⟨k, 0, none⟩ v).frozen? ⟨k', 0, none⟩ = w.frozen? ⟨k', 0, none⟩ := by
 unfold World.frozen?;rw [ay _ _ _ _ h]
theorem DZ.l0 (h : DZ Y T base sv n ys row lb nx t vs w) (ht : t ≤ 1) {k o : Nat} {v : Value} (hc : Y.cell? ⟨k, o, none⟩ = some v) : w.cell? ⟨k, o, none⟩ = some v := by
 have h2 : t = 0 ∨ t = 1 := by omega
 rcases h2 with h2 | h2
 ·exact h.e0 h2 hc
 ·rw [(h.one h2).2]
  have hlt := aG _ ⟨k, o, none⟩ hc;exact (World.cell?_alloc_past _ _ _ (by simpa using hlt)).trans hc
theorem DZ.box (h : DZ Y T base sv n ys row lb nx t vs w) (ht : t ≤ 3) {g o : Nat} {v : Value} (hl : g < Y.1.size) (ho : sv.ownBlock ≠ some g) (hn : g ≠ lb ∧ g ≠ lb + 1) (hc : Y.cell? ⟨g, o, none⟩ = some v) : w.cell? ⟨g, o, none⟩ = some v := by
 have h2 : t ≤ 1 ∨ t = 2 ∨ t = 3 := by omega
 rcases h2 with h2 | h2 | h2
 ·exact h.l0 h2 hc
 ·obtain ⟨gg, gcap, w3, _, _, hg, _, _, rfl⟩ := h.two h2
  exact oG hg hl ho hc
 ·obtain ⟨gg, gcap, w3, _, _, hg, _, _, rfl⟩ := h.three h2
  exact (cO w3 lb g o _ hn.1).trans (oG hg hl ho hc)
end
def BZ (Y : World) (lb : Nat) (v1 v2 v3 : Value) (t : Nat) (_ : Nat → Value) (w : World) : Prop :=
 w = if t = 0 then Y.drew else if t = 1 then (Y.setCell ⟨lb, 0, none⟩ v1).drew else if t = 2 then ((Y.setCell ⟨lb, 0, none⟩ v1).setCell ⟨lb + 1, 0, none⟩ v2).drew else (((Y.setCell ⟨lb, 0, none⟩ v1).setCell ⟨lb + 1, 0, none⟩ v2).setCell ⟨lb + 1 + 1, 0, none⟩ v3).drew
theorem BZ.far {Y : World} {lb : Nat} {v1 v2 v3 : Value} {t : Nat} {vs : Nat → Value} {w : World} (h : BZ Y lb v1 v2 v3 t vs w) {k o : Nat} {v : Value} (hk : (t ≤ 0 ∨ k ≠ lb) ∧ (t ≤ 1 ∨ k ≠ lb + 1) ∧ (t ≤ 2 ∨ k ≠ lb + 1 + 1)) (hc : Y.cell? ⟨k, o, none⟩ = some v) : w.cell? ⟨k, o, none⟩ = some v := by
 unfold BZ at h;subst h;have h0 : Y.cell? ⟨k, o, none⟩ = some v := hc;split
 ·exact h0
 ·split
  ·exact (cO _ _ _ _ _ (by omega)).trans h0
  ·split
   ·exact (cO _ _ _ _ _ (by omega)).trans ((cO _ _ _ _ _ (by omega)).trans h0)
   ·exact (cO _ _ _ _ _ (by omega)).trans ((cO _ _ _ _ _ (by omega)).trans ((cO _ _ _ _ _ (by omega)).trans h0))
theorem BZ.fro {Y : World} {lb : Nat} {v1 v2 v3 : Value} {t : Nat} {vs : Nat → Value} {w : World} (h : BZ Y lb v1 v2 v3 t vs w) {k : Nat} {b : Bool} (hk : (t ≤ 0 ∨ k ≠ lb) ∧ (t ≤ 1 ∨ k ≠ lb + 1) ∧ (t ≤ 2 ∨ k ≠ lb + 1 + 1)) (hc : Y.frozen? ⟨k, 0, none⟩ = b) : w.frozen? ⟨k, 0, none⟩ = b := by
 unfold BZ at h;subst h;have h0 : Y.frozen? ⟨k, 0, none⟩ = b := hc;split
 ·exact h0
 ·split
  ·exact (bY _ _ _ _ (by omega)).trans h0
  ·split
   ·exact (bY _ _ _ _ (by omega)).trans ((bY _ _ _ _ (by omega)).trans h0)
   ·exact (bY _ _ _ _ (by omega)).trans ((bY _ _ _ _ (by omega)).trans ((bY _ _ _ _ (by omega)).trans h0))
theorem jh (S0 : Nat → Prop) (own : Bool) (b : List UInt8) (hPar : ∀ p : Nat, p < b.length → (bn (b.drop p)).rule = 0 → ∀ (S : Nat → Prop) (pv : Value) (w : World), aO w S true (bn (b.drop p)).pay pv → Calls Tryz.prog 37 #[.agg #[.int .u8 ((bn (b.drop p)).kind : Nat), pv]] w (gQ (bn (b.drop p)).kind (bn (b.drop p)).pay w)) (bv : Value) (w : World) (hb : aO w S0 own b bv) (hl : b.length ≤ 60000) : Calls Tryz.prog 13 #[bv] w (BP b w) := by
 have HPR := hid hPar;clear hPar;obtain ⟨_, ad, cap, rfl, _⟩ := hb.shape;obtain ⟨X0, hX0⟩ : ∃ X0, X0 = ((w.alloc (.cells #[.slice none 0 0] 38)).alloc (.cells #[.int .i64 0] 3)).alloc (.cells #[.int .i64 0] 35) := ⟨_, rfl⟩;have hbX0 : Below w.1.size w X0 := by rw [hX0]; exact ((br.alloc nl _).alloc (by simp) _).alloc (by simp; omega) _
 have hXs : X0.1.size = w.1.size + 3 := by rw [hX0]; simp
 have hXl : X0.1[w.1.size]? = some (.cells #[.slice none 0 0] 38 (0, 0)) := by rw [hX0]; exact (az _ _ _ (by simp; omega)).trans ((az _ _ _ (by simp)).trans (aK _ _ _ rfl))
 have hXn : X0.1[w.1.size + 1]? = some (.cells #[.int .i64 0] 3 (0, 0)) := by rw [hX0]; exact (az _ _ _ (by simp)).trans (aK _ _ _ (by simp))
 have hXe : X0.1[w.1.size + 2]? = some (.cells #[.int .i64 0] 35 (0, 0)) := by rw [hX0]; exact aK _ _ _ (by simp)
 have HALL := hid (De S0 own b _ X0 (aO.below hb hbX0 nl) (by omega));have HX0 := hid hX0;clear hb hX0;refine (callsIn_wide (n := 6)).1 ?_;refine callsIn_of_wp_marks Tryz.func13 rfl trivial ?_ rfl;simp only [Tryz.ntmps13, List.size_toArray, aJ, List.length_nil, Nat.reduceAdd, Nat.reduceSub, Array.replicate_succ, Array.replicate_zero, List.push_toArray, List.append_toArray, List.nil_append, List.cons_append]
 gi_wp2
 rw [← HX0.out];refine ⟨trivial, (callsIn_wide.2 HALL.out).mono ?_⟩;rintro e X ⟨rfl, ⟨bv', hc, hrb⟩, hbX⟩;rw [hXs] at hc hrb ⊢;have hsX := hbX.size;have hcl := (ak hc).1;replace hXl := (hbX.block _ (by omega)).trans hXl;replace hXn := (hbX.block _ (by omega)).trans hXn;replace hXe := (hbX.block _ (by omega)).trans hXe;have hbw : Below w.1.size w X := hbX0.trans (hbX.mono (by omega));obtain ⟨z, hz⟩ : ∃ z, z = X.1.size := ⟨_, rfl⟩;clear hbX0 hbX HALL
 gi_wp2
 refine BG rfl (by omega) (gf := 66) (lb := #[.pointer (some ⟨w.1.size + 3, 0, none⟩)]) rfl trivial (enters_of Tryz.func66 (by kernel_rfl) rfl)
  (Df (6 - 1) (by omega) b bv' (by omega) (w.1.size + 3) X.1.size X rfl hc hrb) ⟨by omega, by omega⟩ (fun h k => ⟨fun j a c => (k.1 j a c).trans (h.1 j a c), k.2.trans h.2⟩) (fun W o => ⟨fun j a c => World.putObj_heap_other (by omega), World.putObj_heap_other (by omega)⟩) br (fun _ => rfl)
  (fun pre W => ∃ sv acc, WD w z b pre sv acc W) (fun cd pre W => cd = .ret ∧ WE w z b pre W) ?hI ?hIx ?h0 (fun x a' W => ∃ g, a' = { tmps := #[.slice ad b.length cap, undef, .pointer (some ⟨w.1.size, 0, none⟩), .pointer (some ⟨w.1.size + 1, 0, none⟩), .pointer (some ⟨w.1.size + 1 + 1, 0, none⟩), .pointer (some ⟨g, 0, none⟩), .int .i64 x.f.rule, undef, undef, .slice ad b.length cap, .func (.func 66) #[] #[.pointer (some ⟨w.1.size + 3, 0, none⟩)], .agg #[.int .u8 (x.f.kind : Nat), x.pv, .int .i64 (x.p : Nat), .int .i64 (oD x.p x.f)], .int .i64 x.f.rule, undef, undef, undef, undef, undef, undef, undef, undef, undef, undef, undef, undef, undef, undef, undef, undef, undef, undef, undef, undef, undef, undef, undef, undef, undef, undef, undef, undef, undef, undef, undef], defers := [] } ∧ z + 3 ≤ g ∧
   W.1[g]? = some (.cells #[.int .u8 (x.f.kind : Nat), x.pv, .int .i64 (x.p : Nat), .int .i64 (oD x.p x.f)] 107 (0, 0)) ∧ aO W (fun k => z + 2 < k) true x.f.pay x.pv) ?hAx ?assign ?body ?done ?stop
 case hI =>
  rintro k hk pre W W' ⟨sv, acc, h⟩ ht;exact ⟨sv, acc, h.tc ht (by omega) (by omega)⟩
 case hIx =>
  rintro k cd hk pre W W' ⟨h1, h2⟩ ht;exact ⟨h1, h2.tc ht (by omega) (by omega)⟩
 case hAx =>
  rintro x a' ⟨⟩ W W' ⟨g, h1, h2, h3, h4⟩ ht;exact ⟨g, h1, h2, (ht.keep _ (ak h3).1 (by omega)).trans h3, Sl.keep h4 (by omega) (fun k hk hlk => ht.keep k hlk (by omega)) (fun _ _ h => h)⟩
 case h0 => exact ⟨_, [], hbw, hXl, hXn, hXe, rfl, .inl ⟨rfl, rfl⟩⟩
 case assign =>
  rintro l pre x W K ⟨sv, acc, hi⟩ hcW hx hK;have hcW : X.1.size + 2 < W.1.size := hcW;have hx : aO W (fun k => X.1.size + 2 < k) true x.f.pay x.pv := hx;obtain ⟨_, pa, pc, hpv, _⟩ := hx.shape;have hbA : ∀ o, Below W.1.size W (W.alloc o) := fun o => br.alloc nl _
  have HK := hid hK;have HI := hid (au hi (au hx hbA));clear hK hi hbA hx;unfold FY.enc;rw [hpv] at HI HK ⊢
  gi_wp2
  refine HK.out _ _ ⟨az _ _ _ (by omega), az _ _ _ (by omega)⟩ ⟨fun j a c => az _ _ _ (by omega), az _ _ _ (by show X.1.size + 2 < W.1.size; omega)⟩ ⟨sv, acc, HI.out.1.tc (Tc.of_below (c := z + 2) (HI.out.2.2 _)) (by omega) (by omega)⟩ ⟨W.1.size, rfl, by omega, aK _ _ _ rfl, ?_⟩;exact aO.below (Sl.keep HI.out.2.1 (by omega) (fun _ _ _ => rfl) (fun k _ hk => by omega)) (HI.out.2.2 _) nl
 case done =>
  rintro xs W hS ⟨sv, acc, h⟩ hK;have c2 : W.cell? ⟨w.1.size, 0, none⟩ = some sv := by rw [ax W _ 0 _ _ _ h.l]; rfl
  have c3 : W.cell? ⟨w.1.size + 1, 0, none⟩ = some (.int .i64 (ky acc : Nat)) := by rw [ax W _ 0 _ _ _ h.n]; rfl
  have c4 : W.cell? ⟨w.1.size + 1 + 1, 0, none⟩ = some (.int .i64 0) := by rw [ax W _ 0 _ _ _ h.e]; rfl
  have f2 : W.frozen? ⟨w.1.size, 0, none⟩ = false := by rw [aA W _ 0 _ _ h.l]
  have f3 : W.frozen? ⟨w.1.size + 1, 0, none⟩ = false := by rw [aA W _ 0 _ _ h.n]
  have f4 : W.frozen? ⟨w.1.size + 1 + 1, 0, none⟩ = false := by rw [aA W _ 0 _ _ h.e]
  obtain ⟨a1, a3, rfl⟩ := aS.form h.row;have hk1 := (ak hK).1;have HW := hid (au h (au hS hK));clear h hS hK
  gi_wp2
  gi_region
  all_goals gi_wp2
  have hk2 : ((((W.setCell ⟨w.1.size, 0, none⟩ (.slice a1 acc.length a3)).setCell ⟨w.1.size + 1, 0, none⟩ (.int .i64 (ky acc : Nat))).setCell ⟨w.1.size + 1 + 1, 0, none⟩ (.int .i64 0)).drew).1[X.1.size]? = some (.deferred (some [])) := (Dh ⟨by omega, by omega, by omega⟩).trans HW.out.2.2;refine ⟨by simp, .inl ⟨_, _, rfl, run_takeDeferred hk2, ?_⟩⟩;obtain ⟨h, hS, hK⟩ := HW.out;have z2 : ((((W.setCell ⟨w.1.size, 0, none⟩ (.slice a1 acc.length a3)).setCell ⟨w.1.size + 1, 0, none⟩ (.int .i64 (ky acc : Nat))).setCell ⟨w.1.size + 1 + 1, 0, none⟩ (.int .i64 0)).drew.putObj X.1.size (.deferred none)).1[w.1.size]? = some (.cells #[.slice a1 acc.length a3] 38 (0, 0)) :=
   (World.putObj_heap_other (by omega)).trans ((ay _ _ _ _ (by show w.1.size ≠ w.1.size + 1 + 1; omega)).trans ((ay _ _ _ _ (by show w.1.size ≠ w.1.size + 1; omega)).trans (aM h.l rfl)))
  have z3 : ((((W.setCell ⟨w.1.size, 0, none⟩ (.slice a1 acc.length a3)).setCell ⟨w.1.size + 1, 0, none⟩ (.int .i64 (ky acc : Nat))).setCell ⟨w.1.size + 1 + 1, 0, none⟩ (.int .i64 0)).drew.putObj X.1.size (.deferred none)).1[w.1.size + 1]? = some (.cells #[.int .i64 (ky acc : Nat)] 3 (0, 0)) :=
   (World.putObj_heap_other (by omega)).trans ((ay _ _ _ _ (by show w.1.size + 1 ≠ w.1.size + 1 + 1; omega)).trans (aM ((ay _ _ _ _ (by show w.1.size + 1 ≠ w.1.size; omega)).trans h.n) rfl))
  have z4 : ((((W.setCell ⟨w.1.size, 0, none⟩ (.slice a1 acc.length a3)).setCell ⟨w.1.size + 1, 0, none⟩ (.int .i64 (ky acc : Nat))).setCell ⟨w.1.size + 1 + 1, 0, none⟩ (.int .i64 0)).drew.putObj X.1.size (.deferred none)).1[w.1.size + 2]? = some (.cells #[.int .i64 0] 35 (0, 0)) :=
   (World.putObj_heap_other (by omega)).trans (aM ((ay _ _ _ _ (by show w.1.size + 2 ≠ w.1.size + 1; omega)).trans ((ay _ _ _ _ (by show w.1.size + 2 ≠ w.1.size; omega)).trans h.e)) rfl)
  have hbz : Below w.1.size w ((((W.setCell ⟨w.1.size, 0, none⟩ (.slice a1 acc.length a3)).setCell ⟨w.1.size + 1, 0, none⟩ (.int .i64 (ky acc : Nat))).setCell ⟨w.1.size + 1 + 1, 0, none⟩ (.int .i64 0)).drew.putObj X.1.size (.deferred none)) :=
   ik ((((h.bel.setCell nl _).setCell (by simp) _).setCell (by simp; omega) _).drew) (Tc.put _ _) (by omega) (by have := h.bel.size; simpa using this)
  have hmz : (Value.slice a1 acc.length a3 = .slice none 0 0 ∧ acc = []) ∨ aS plI ((((W.setCell ⟨w.1.size, 0, none⟩ (.slice a1 acc.length a3)).setCell ⟨w.1.size + 1, 0, none⟩ (.int .i64 (ky acc : Nat))).setCell ⟨w.1.size + 1 + 1, 0, none⟩ (.int .i64 0)).drew.putObj X.1.size (.deferred none)) w.1.size 77 (.slice a1 acc.length a3) acc :=
   h.row.imp id (fun m => aS.less (((((m.tc (Tc.set _ 0 _ _) (by omega)).tc (Tc.set _ 0 _ _) (by omega)).tc (Tc.set _ 0 _ _) (by omega)).tc (Tc.of_below (c := w.1.size) br.drew) (by omega)).tc (Tc.put _ _) (by omega)) (by omega))
  have hts : lG b = (acc, ky acc, 0) := by
   rcases hS with ⟨q, hy, hq⟩ | ⟨a, x, rfl, hy, hr⟩
   ·obtain ⟨h1, h2⟩ := zq hy h.ac
    rw [h1.done hq, h2];have := hy.le.1;rw [show q = b.length by omega]
   ·obtain ⟨acc', q, _, h2, _⟩ := tL h.ac
    exact absurd (vQ h2).1 hr
  generalize ((((W.setCell ⟨w.1.size, 0, none⟩ (.slice a1 acc.length a3)).setCell ⟨w.1.size + 1, 0, none⟩ (.int .i64 (ky acc : Nat))).setCell ⟨w.1.size + 1 + 1, 0, none⟩ (.int .i64 0)).drew.putObj X.1.size (.deferred none)) = Z at z2 z3 z4 hbz hmz ⊢;have y2 : Z.cell? ⟨w.1.size, 0, none⟩ = some (.slice a1 acc.length a3) := by rw [ax Z _ 0 _ _ _ z2]; rfl
  have y3 : Z.cell? ⟨w.1.size + 1, 0, none⟩ = some (.int .i64 (ky acc : Nat)) := by rw [ax Z _ 0 _ _ _ z3]; rfl
  have y4 : Z.cell? ⟨w.1.size + 1 + 1, 0, none⟩ = some (.int .i64 0) := by rw [ax Z _ 0 _ _ _ z4]; rfl
  exact ⟨.tuple #[.slice a1 acc.length a3, .int .i64 (ky acc : Nat), .int .i64 0], by simp [results, Tryz.results13, go_sem, y2, y3, y4], _, acc, _, _, rfl, hts, hmz, hbz⟩
 case stop =>
  rintro cd pre W hSt ⟨rfl, h⟩ hK
  gi_wp2
  refine ⟨by simp, .inl ⟨_, _, rfl, run_takeDeferred hK, ?_⟩⟩;obtain ⟨hbel, sv, acc, a, x, e1, e2, e3, e4, e5, e6, e7⟩ := h;have z2 : (W.putObj X.1.size (.deferred none)).1[w.1.size]? = some (.cells #[sv] 38 (0, 0)) := (World.putObj_heap_other (by omega)).trans e1;have z3 : (W.putObj X.1.size (.deferred none)).1[w.1.size + 1]? = some (.cells #[.int .i64 (x.p : Nat)] 3 (0, 0)) := (World.putObj_heap_other (by omega)).trans e2;have z4 : (W.putObj X.1.size (.deferred none)).1[w.1.size + 2]? = some (.cells #[.int .i64 (lJ x)] 35 (0, 0)) := (World.putObj_heap_other (by omega)).trans e3;have hbz : Below w.1.size w (W.putObj X.1.size (.deferred none)) := ik hbel (Tc.put _ _) (by omega) hbel.size;have hmz : (sv = .slice none 0 0 ∧ acc = []) ∨ aS plI (W.putObj X.1.size (.deferred none)) w.1.size 77 sv acc := e7.imp id (fun m => aS.less (m.tc (Tc.put _ _) (by omega)) (by omega));have hts : lG b = (acc, x.p, lJ x) := by
   obtain ⟨a', x', h1, h2⟩ := hSt;rw [e4] at h1;obtain ⟨rfl, h4⟩ := List.append_inj' h1 rfl;obtain rfl : x = x' := (by simpa using h4);exact Dg h2 e5 e6
  generalize W.putObj X.1.size (.deferred none) = Z at z2 z3 z4 hbz hmz ⊢;have y2 : Z.cell? ⟨w.1.size, 0, none⟩ = some sv := by rw [ax Z _ 0 _ _ _ z2]; rfl
  have y3 : Z.cell? ⟨w.1.size + 1, 0, none⟩ = some (.int .i64 (x.p : Nat)) := by rw [ax Z _ 0 _ _ _ z3]; rfl
  have y4 : Z.cell? ⟨w.1.size + 1 + 1, 0, none⟩ = some (.int .i64 (lJ x)) := by rw [ax Z _ 0 _ _ _ z4]; rfl
  exact ⟨.tuple #[sv, .int .i64 (x.p : Nat), .int .i64 (lJ x)], by simp [results, Tryz.results13, go_sem, y2, y3, y4], _, acc, _, _, rfl, hts, hmz, hbz⟩
 case body =>
  rintro l pre x a' W hW ⟨sv, acc, h⟩ ⟨g, rfl, hg1, hg2, hg3⟩ hlen;obtain ⟨f, hf⟩ : ∃ f, f = x.f := ⟨_, rfl⟩;obtain ⟨p, hp⟩ : ∃ p, p = x.p := ⟨_, rfl⟩;obtain ⟨nx, hnx⟩ : ∃ nx, nx = oD x.p x.f := ⟨_, rfl⟩;rw [← hnx, ← hf, ← hp] at hg2 ⊢;rw [← hf] at hg3;have hw3 := (ak h.e).1;have hgl := (ak hg2).1;obtain ⟨_, pa, pc, hpv, _⟩ := hg3.shape;rw [hpv] at hg2 hg3 ⊢;obtain ⟨sa, sc, rfl⟩ := aS.form h.row;have b0 : W.cell? ⟨g, 0, none⟩ = some (.int .u8 (f.kind : Nat)) := by rw [ax W _ 0 _ _ _ hg2]; rfl
  have b1 : W.cell? ⟨g, 1, none⟩ = some (.slice pa f.pay.length pc) := by rw [ax W _ 1 _ _ _ hg2]; rfl
  have b2 : W.cell? ⟨g, 2, none⟩ = some (.int .i64 (p : Nat)) := by rw [ax W _ 2 _ _ _ hg2]; rfl
  have hfg : f.rule = 0 → (f.kind < 256 ∧ f.pay.length ≤ b.length ∧ nx = ((p + f.len : Nat) : Int)) := fun h0 => by
   have h1 := dQ (l := b.drop x.p) (show (FY.f x).rule = 0 by rw [← hf]; exact h0);have h2 : bn (b.drop x.p) = f := hf.symm;rw [h2] at h1;refine ⟨h1.2.2.1, ?_, ?_⟩
   ·have := h1.2.2.2.1
    rw [List.length_drop] at this;omega
   ·rw [hnx, ← hf, ← hp]
    unfold oD;rw [if_pos h0]
  have HX := hid (au hp (au hf (au hnx (au hg2 hg3))));have HH := hid h;have hzX := hz;clear hnx hg2 hg3 hp hf;by_cases h0 : f.rule = 0
  ·obtain ⟨hk256, hpl, hnx2⟩ := hfg h0
   have t0 : (f.rule != 0) = false := (by simp [h0]);have HPA : Hid (Calls Tryz.prog 37 #[.agg #[.int .u8 (f.kind : Nat), .slice pa f.pay.length pc]] W (gQ f.kind f.pay W)) := hid (by
    have h1 := HPR.out x.p x.hp (show (FY.f x).rule = 0 by rw [← HX.out.2.1]; exact h0);have h2 : bn (b.drop x.p) = f := HX.out.2.1.symm;rw [h2] at h1;exact h1 _ _ W HX.out.2.2.2.2)
   have H0 := hid (au h0 hnx2);clear h0 hnx2 h hfg
   gi_wp2
   refine ⟨trivial, (CallsIn.inRound l (callsIn_wide.2 HPA.out)).mono ?_⟩;rintro e w2 ⟨v, rfl, hv, hb2⟩;obtain ⟨q, hqq⟩ : ∃ q, q = (bC f.kind f.pay).getD .zero := ⟨_, rfl⟩;obtain ⟨rl, hrl⟩ : ∃ rl, rl = dx f.kind f.pay := ⟨_, rfl⟩;rw [← hqq] at hv;rw [← hrl];obtain ⟨k0, k1, k2, k3, k4, k5, k6, k7, rfl, _⟩ := hv.conc;have hs2 := hb2.size;obtain ⟨Y, hY⟩ : ∃ Y, Y = w2.alloc (.cells #[.int .i64 q.k, .int .u64 (q.t : Nat), .int .u64 (q.x : Nat), .int .u64 (q.w : Nat), .int .u64 (q.n : Nat), .int .u64 (q.v : Nat), .int .i64 k0, .int .u64 (k1 : Nat), .int .u64 (k2 : Nat), .slice k3 k4 k5, .slice k6 q.es.length k7] 73) := ⟨_, rfl⟩;have hbY : Below W.1.size W Y := (by rw [hY]; exact hb2.alloc hs2 _);have hgY : Y.1[w2.1.size]? = some (.cells #[.int .i64 q.k, .int .u64 (q.t : Nat), .int .u64 (q.x : Nat), .int .u64 (q.w : Nat), .int .u64 (q.n : Nat), .int .u64 (q.v : Nat), .int .i64 k0, .int .u64 (k1 : Nat), .int .u64 (k2 : Nat), .slice k3 k4 k5, .slice k6 q.es.length k7] 73 (0, 0)) := (by rw [hY]; exact aK _ _ _ rfl);have hsY : Y.1.size = w2.1.size + 1 := (by rw [hY]; simp);have hvY : bL Y (fun k => W.1.size ≤ k) true q (.agg #[.int .i64 q.k, .int .u64 (q.t : Nat), .int .u64 (q.x : Nat), .int .u64 (q.w : Nat), .int .u64 (q.n : Nat), .int .u64 (q.v : Nat), .int .i64 k0, .int .u64 (k1 : Nat), .int .u64 (k2 : Nat), .slice k3 k4 k5, .slice k6 q.es.length k7]) := (by rw [hY]; exact hv.below (br.alloc nl _) nl);have HBB := hid (au (HH.out.bel.trans (hbY.mono HH.out.bel.size)) hbY);have h2 := (hbY.block _ (by omega)).trans HH.out.l;have h3 := (hbY.block _ (by omega)).trans HH.out.n;have h4 := (hbY.block _ hw3).trans HH.out.e;have HYY := hid hY;have HVY := hid (au hvY (au hgY hsY));have lg : g < Y.1.size := (by omega);replace b2 := (hbY.cell (p := ⟨g, 2, none⟩) hgl).trans b2;have b3 : Y.cell? ⟨g, 3, none⟩ = some (.int .i64 nx) := (by rw [ax Y _ 3 _ _ _ ((hbY.block _ hgl).trans HX.out.2.2.2.1)]; rfl);clear b0 b1 hv hb2 hY hvY hgY hsY;cases hq : bC f.kind f.pay with
   | none =>
    have HRN := hid (qB hq);have HGN : Hid (oF x = none) := hid (by unfold oF; rw [← HX.out.2.1, if_pos H0.out.1, hq]; rfl);have HRL : Hid (rl = lJ x) := hid (by unfold lJ; rw [← HX.out.2.1, if_pos H0.out.1, hrl]);have t1 : (rl != 0) = true := (by rw [hrl]; simpa using HRN.out);have hne3 : w.1.size + 2 < Y.1.size := (by have := (ak h4).1; exact this);have d2 : Y.cell? ⟨w.1.size, 0, none⟩ = some (.slice sa acc.length sc) := (by rw [ax Y _ 0 _ _ _ h2]; rfl);have d3 : Y.cell? ⟨w.1.size + 1, 0, none⟩ = some (.int .i64 (ky acc : Nat)) := (by rw [ax Y _ 0 _ _ _ h3]; rfl);have d4 : Y.cell? ⟨w.1.size + 1 + 1, 0, none⟩ = some (.int .i64 0) := (by rw [ax Y _ 0 _ _ _ h4]; rfl);have r2 : Y.frozen? ⟨w.1.size, 0, none⟩ = false := (by rw [aA Y _ 0 _ _ h2]);have r3 : Y.frozen? ⟨w.1.size + 1, 0, none⟩ = false := (by rw [aA Y _ 0 _ _ h3]);have r4 : Y.frozen? ⟨w.1.size + 1 + 1, 0, none⟩ = false := (by rw [aA Y _ 0 _ _ h4]);have l2 : w.1.size < Y.1.size := (by omega);have l3 : w.1.size + 1 < Y.1.size := (by omega);have l4 : w.1.size + 1 + 1 < Y.1.size := (by omega);have hY : Kr z W ((((Y.setCell ⟨w.1.size, 0, none⟩ (.slice sa acc.length sc)).setCell ⟨w.1.size + 1, 0, none⟩ (.int .i64 (p : Nat))).setCell ⟨w.1.size + 1 + 1, 0, none⟩ (.int .i64 rl)).drew) ∧ WE w z b (pre ++ [x]) ((((Y.setCell ⟨w.1.size, 0, none⟩ (.slice sa acc.length sc)).setCell ⟨w.1.size + 1, 0, none⟩ (.int .i64 (p : Nat))).setCell ⟨w.1.size + 1 + 1, 0, none⟩ (.int .i64 rl)).drew) := by
     have hfar : ∀ k, w.1.size + 3 ≤ k → ((((Y.setCell ⟨w.1.size, 0, none⟩ (.slice sa acc.length sc)).setCell ⟨w.1.size + 1, 0, none⟩ (.int .i64 (p : Nat))).setCell ⟨w.1.size + 1 + 1, 0, none⟩ (.int .i64 rl)).drew).1[k]? = Y.1[k]? := fun k h2 =>
      (ay _ _ _ _ (by show k ≠ w.1.size + 1 + 1; omega)).trans ((ay _ _ _ _ (by show k ≠ w.1.size + 1; omega)).trans (ay _ _ _ _ (by show k ≠ w.1.size; omega)))
     refine ⟨⟨(hfar _ (by omega)).trans (HBB.out.2.block _ (by omega)), (hfar _ (by omega)).trans (HBB.out.2.block _ (by omega))⟩, (((HBB.out.1.setCell nl _).setCell (by simp) _).setCell (by simp; omega) _).drew, .slice sa acc.length sc, acc, pre, x, ?_, ?_, ?_, rfl, HH.out.ac, HGN.out, ?_⟩
     ·exact (ay _ _ _ _ (by show w.1.size ≠ w.1.size + 1 + 1; omega)).trans ((ay _ _ _ _ (by show w.1.size ≠ w.1.size + 1; omega)).trans (aM h2 rfl))
     ·rw [← HX.out.1]
      exact (ay _ _ _ _ (by show w.1.size + 1 ≠ w.1.size + 1 + 1; omega)).trans (aM ((ay _ _ _ _ (by show w.1.size + 1 ≠ w.1.size; omega)).trans h3) rfl)
     ·rw [← HRL.out]
      exact aM ((ay _ _ _ _ (by show w.1.size + 2 ≠ w.1.size + 1; omega)).trans ((ay _ _ _ _ (by show w.1.size + 2 ≠ w.1.size; omega)).trans h4)) rfl
     ·exact HH.out.row.imp id (fun m => ((((m.below HBB.out.2 nl).tc (Tc.set w.1.size 0 _ _) (by omega)).tc (Tc.set (w.1.size + 1) 0 _ _) (by omega)).tc (Tc.set (w.1.size + 1 + 1) 0 _ _) (by omega)).tc (Tc.of_below (c := w.1.size) br.drew) (by omega))
    have HY := hid hY;clear hY;clear hq hqq hrl hbY h2 h3 h4 b3
    gi_wp2
    rw [← HYY.out];refine jc (w0 := Y) rfl (by kernel_rfl) [.eq (.slice sa acc.length sc), .eq (.pointer (some ⟨g, 2, none⟩)), .eq (.int .i64 (p : Nat)), .eq (.int .i64 rl), .wr, .wr, .wr] (BZ Y w.1.size (.slice sa acc.length sc) (.int .i64 (p : Nat)) (.int .i64 rl)) (by kernel_rfl) (⟨fun _ => undef, rfl⟩) ⟨?_, ?_, ?_, ?_, ?_, ?_, ?_, trivial⟩ (fun vs => [(27, .slice sa acc.length sc), (28, .pointer (some ⟨g, 2, none⟩)), (29, .int .i64 (p : Nat)), (30, .int .i64 rl)]) (fun _ => rfl) 3 (by kernel_rfl) ?_
    ·refine pZ fun t vs ac wx K Q hR hZ hK => ?_
     have t2 : ac.tmps[2]? = some (.pointer (some ⟨w.1.size, 0, none⟩)) := hR.o 2;have y0 := hZ.far (by have h : t ≤ 0 := hR.hi 4 .wr rfl rfl (by kernel_rfl); exact ⟨.inl h, .inl (by omega), .inl (by omega)⟩) d2;go_simp;exact hK _ hZ
    ·refine pZ fun t vs ac wx K Q hR hZ hK => ?_
     have t5 : ac.tmps[5]? = some (.pointer (some ⟨g, 0, none⟩)) := hR.o 5;go_simp;exact hK _ hZ
    ·refine pZ fun t vs ac wx K Q hR hZ hK => ?_
     have t28 := hR.q 1;have y0 := hZ.far (by have h : t ≤ 1 := hR.hi 5 .wr rfl rfl (by kernel_rfl); exact ⟨.inr (by omega), .inl h, .inl (by omega)⟩) b2;go_simp;exact hK _ hZ
    ·refine pZ fun t vs ac wx K Q hR hZ hK => ?_
     have t8 : ac.tmps[8]? = some (.int .i64 rl) := hR.o 8;go_simp;exact hK _ hZ
    ·refine wZ fun vs ac wx K Q hR hZ hK => ?_
     have t2 : ac.tmps[2]? = some (.pointer (some ⟨w.1.size, 0, none⟩)) := hR.o 2;have t27 := hR.q 0;have y2 := hZ.far ⟨.inl (by omega), .inl (by omega), .inl (by omega)⟩ d2;have z2 := hZ.fro ⟨.inl (by omega), .inl (by omega), .inl (by omega)⟩ r2;have e := (show wx = _ from hZ);simp only [] at e;subst e;go_simp;exact hK undef _ nofun (by unfold BZ; simp)
    ·refine wZ fun vs ac wx K Q hR hZ hK => ?_
     have t3 : ac.tmps[3]? = some (.pointer (some ⟨w.1.size + 1, 0, none⟩)) := hR.o 3;have t29 := hR.q 2;have y3 := hZ.far ⟨.inr (by omega), .inl (by omega), .inl (by omega)⟩ d3;have z3 := hZ.fro ⟨.inr (by omega), .inl (by omega), .inl (by omega)⟩ r3;have e := (show wx = _ from hZ);simp only [] at e;subst e;go_simp;exact hK undef _ nofun (by unfold BZ; simp)
    ·refine wZ fun vs ac wx K Q hR hZ hK => ?_
     have t4 : ac.tmps[4]? = some (.pointer (some ⟨w.1.size + 1 + 1, 0, none⟩)) := hR.o 4;have t30 := hR.q 3;have y4 := hZ.far ⟨.inr (by omega), .inr (by omega), .inl (by omega)⟩ d4;have z4 := hZ.fro ⟨.inr (by omega), .inr (by omega), .inl (by omega)⟩ r4;have e := (show wx = _ from hZ);simp only [] at e;subst e;go_simp;exact hK undef _ nofun (by unfold BZ; simp)
    intro vs w5 hZ;obtain rfl := (show w5 = _ from hZ);simp only [bS, List.foldl_cons, List.foldl_nil];clear hZ;go_simp
    gi_wp2
    refine ⟨?_, rfl, HY.out.2⟩;rw [← hzX];exact HY.out.1
   | some r =>
    rw [hq] at hqq;obtain rfl : q = r := hqq;obtain rfl : rl = 0 := hrl.trans (qA hq);have HGN : Hid (oF x = some ⟨q, p, p + f.len⟩) := hid (by unfold oF; rw [← HX.out.2.1, if_pos H0.out.1, hq, ← HX.out.1]; rfl);obtain ⟨i0, hi0, hz0, hz1, hz2⟩ := info_parts FW;obtain ⟨base, hbase⟩ : ∃ base, base = z + 3 := ⟨_, rfl⟩;obtain ⟨g7, hg7⟩ : ∃ g7, g7 = w2.1.size := ⟨_, rfl⟩;obtain ⟨ys, hi, hhi, hown, hrg⟩ := aS.mk' HH.out.row (show z + 3 ≤ W.1.size by omega);have hob := hown.lt;have hownY := ownsRow_below hown HBB.out.2 nl;have hgo : (Value.slice sa acc.length sc).ownBlock ≠ some g := fun e => by
     rcases hown.2 with ⟨e1, _⟩ | ⟨g', cap', cur, e1, _, e2, _⟩
     ·rw [e1] at e; cases e
     ·rw [e1] at e
      simp only [Value.ownBlock, Option.some.injEq] at e;subst e;rw [HX.out.2.2.2.1] at e2;injection e2 with e2
      injection e2 with _ e2
      exact absurd e2 (by decide)
    have ho2 : (Value.slice sa acc.length sc).ownBlock ≠ some w.1.size := fun e => by have := (hob _ e).1; omega
    have ho3 : (Value.slice sa acc.length sc).ownBlock ≠ some (w.1.size + 1) := fun e => by have := (hob _ e).1; omega
    have gn0 : g ≠ w.1.size := (by omega);have gn1 : g ≠ w.1.size + 1 := (by omega);have c2 : Y.cell? ⟨w.1.size, 0, none⟩ = some (.slice sa acc.length sc) := (by rw [ax Y _ 0 _ _ _ h2]; rfl);have c3 : Y.cell? ⟨w.1.size + 1, 0, none⟩ = some (.int .i64 (ky acc : Nat)) := (by rw [ax Y _ 0 _ _ _ h3]; rfl);have r2 : Y.frozen? ⟨w.1.size, 0, none⟩ = false := (by rw [aA Y _ 0 _ _ h2]);have r3 : Y.frozen? ⟨w.1.size + 1, 0, none⟩ = false := (by rw [aA Y _ 0 _ _ h3]);have l2 : w.1.size < Y.1.size := (by omega);have l3 : w.1.size + 1 < Y.1.size := (by omega);have hacl : acc.length ≤ 70000 := by
     have h1 := zo HH.out.ac;omega
    have hbY2 : base ≤ Y.1.size := (by omega);rw [← hbase] at hown hownY hrg hob;rw [← hg7] at HVY;have d0 : Y.cell? ⟨g7, 0, none⟩ = some (.int .i64 q.k) := (by rw [ax Y _ 0 _ _ _ HVY.out.2.1]; rfl);have d1 : Y.cell? ⟨g7, 1, none⟩ = some (.int .u64 (q.t : Nat)) := (by rw [ax Y _ 1 _ _ _ HVY.out.2.1]; rfl);have d2 : Y.cell? ⟨g7, 2, none⟩ = some (.int .u64 (q.x : Nat)) := (by rw [ax Y _ 2 _ _ _ HVY.out.2.1]; rfl);have d3 : Y.cell? ⟨g7, 3, none⟩ = some (.int .u64 (q.w : Nat)) := (by rw [ax Y _ 3 _ _ _ HVY.out.2.1]; rfl);have d4 : Y.cell? ⟨g7, 4, none⟩ = some (.int .u64 (q.n : Nat)) := (by rw [ax Y _ 4 _ _ _ HVY.out.2.1]; rfl);have d5 : Y.cell? ⟨g7, 5, none⟩ = some (.int .u64 (q.v : Nat)) := (by rw [ax Y _ 5 _ _ _ HVY.out.2.1]; rfl);have d6 : Y.cell? ⟨g7, 6, none⟩ = some (.int .i64 k0) := (by rw [ax Y _ 6 _ _ _ HVY.out.2.1]; rfl);have d7 : Y.cell? ⟨g7, 7, none⟩ = some (.int .u64 (k1 : Nat)) := (by rw [ax Y _ 7 _ _ _ HVY.out.2.1]; rfl);have d8 : Y.cell? ⟨g7, 8, none⟩ = some (.int .u64 (k2 : Nat)) := (by rw [ax Y _ 8 _ _ _ HVY.out.2.1]; rfl);have d9 : Y.cell? ⟨g7, 9, none⟩ = some (.slice k3 k4 k5) := (by rw [ax Y _ 9 _ _ _ HVY.out.2.1]; rfl);have d10 : Y.cell? ⟨g7, 10, none⟩ = some (.slice k6 q.es.length k7) := (by rw [ax Y _ 10 _ _ _ HVY.out.2.1]; rfl);have HOW := hid (au hhi (au hown (au hrg (au h2 (au h3 h4)))));have HBS := hid hbase;clear hq hrl hbY hown hrg hhi h2 h3 h4 hbase
    gi_wp2
    rw [← HYY.out, ← hg7];clear hg7;refine jc (w0 := Y) rfl (by kernel_rfl) [.eq (.slice sa acc.length sc), .eq (.agg #[.int .i64 q.k, .int .u64 (q.t : Nat), .int .u64 (q.x : Nat), .int .u64 (q.w : Nat), .int .u64 (q.n : Nat), .int .u64 (q.v : Nat), .int .i64 k0, .int .u64 (k1 : Nat), .int .u64 (k2 : Nat), .slice k3 k4 k5, .slice k6 q.es.length k7]), .eq (.pointer (some ⟨g, 2, none⟩)), .eq (.int .i64 (p : Nat)), .eq (.pointer (some ⟨g, 3, none⟩)), .eq (.int .i64 nx), .eq (.agg #[.int .i64 q.k, .int .u64 (q.t : Nat), .int .u64 (q.x : Nat), .int .u64 (q.w : Nat), .int .u64 (q.n : Nat), .int .u64 (q.v : Nat), .int .i64 k0, .int .u64 (k1 : Nat), .int .u64 (k2 : Nat), .slice k3 k4 k5, .slice k6 q.es.length k7, .int .i64 (p : Nat), .int .i64 nx]), .wr, .wr, .eq (.pointer (some ⟨g, 3, none⟩)), .eq (.int .i64 nx), .wr, .wr] (DZ Y 77 base (.slice sa acc.length sc) acc.length ys (#[.int .i64 q.k, .int .u64 (q.t : Nat), .int .u64 (q.x : Nat), .int .u64 (q.w : Nat), .int .u64 (q.n : Nat), .int .u64 (q.v : Nat), .int .i64 k0, .int .u64 (k1 : Nat), .int .u64 (k2 : Nat), .slice k3 k4 k5, .slice k6 q.es.length k7, .int .i64 (p : Nat), .int .i64 nx]) w.1.size nx) (by kernel_rfl) (⟨fun _ => undef, rfl⟩) ⟨?_, ?_, ?_, ?_, ?_, ?_, ?_, ?_, ?_, ?_, ?_, ?_, ?_, trivial⟩ (fun vs => [(31, .slice sa acc.length sc), (32, .agg #[.int .i64 q.k, .int .u64 (q.t : Nat), .int .u64 (q.x : Nat), .int .u64 (q.w : Nat), .int .u64 (q.n : Nat), .int .u64 (q.v : Nat), .int .i64 k0, .int .u64 (k1 : Nat), .int .u64 (k2 : Nat), .slice k3 k4 k5, .slice k6 q.es.length k7]), (33, .pointer (some ⟨g, 2, none⟩)), (34, .int .i64 (p : Nat)), (35, .pointer (some ⟨g, 3, none⟩)), (36, .int .i64 nx), (37, .agg #[.int .i64 q.k, .int .u64 (q.t : Nat), .int .u64 (q.x : Nat), .int .u64 (q.w : Nat), .int .u64 (q.n : Nat), .int .u64 (q.v : Nat), .int .i64 k0, .int .u64 (k1 : Nat), .int .u64 (k2 : Nat), .slice k3 k4 k5, .slice k6 q.es.length k7, .int .i64 (p : Nat), .int .i64 nx]), (38, vs 7), (39, vs 8), (40, .pointer (some ⟨g, 3, none⟩)), (41, .int .i64 nx)]) (fun _ => rfl) 4 (by kernel_rfl) ?_
    ·refine pZ fun t vs ac wx K Q hR hZ hK => ?_
     have t2 : ac.tmps[2]? = some (.pointer (some ⟨w.1.size, 0, none⟩)) := hR.o 2;have y0 := hZ.l0 (by have h : t ≤ 1 := hR.hi 8 .wr rfl rfl (by kernel_rfl); omega) c2;go_simp;exact hK _ hZ
    ·refine pZ fun t vs ac wx K Q hR hZ hK => ?_
     have t7 : ac.tmps[7]? = some (.pointer (some ⟨g7, 0, none⟩)) := hR.o 7;have y0 := hZ.e0 (by have h : t ≤ 0 := hR.hi 7 .wr rfl rfl (by kernel_rfl); omega) d0;have y1 := hZ.e0 (by have h : t ≤ 0 := hR.hi 7 .wr rfl rfl (by kernel_rfl); omega) d1;have y2 := hZ.e0 (by have h : t ≤ 0 := hR.hi 7 .wr rfl rfl (by kernel_rfl); omega) d2;have y3 := hZ.e0 (by have h : t ≤ 0 := hR.hi 7 .wr rfl rfl (by kernel_rfl); omega) d3;have y4 := hZ.e0 (by have h : t ≤ 0 := hR.hi 7 .wr rfl rfl (by kernel_rfl); omega) d4;have y5 := hZ.e0 (by have h : t ≤ 0 := hR.hi 7 .wr rfl rfl (by kernel_rfl); omega) d5;have y6 := hZ.e0 (by have h : t ≤ 0 := hR.hi 7 .wr rfl rfl (by kernel_rfl); omega) d6;have y7 := hZ.e0 (by have h : t ≤ 0 := hR.hi 7 .wr rfl rfl (by kernel_rfl); omega) d7;have y8 := hZ.e0 (by have h : t ≤ 0 := hR.hi 7 .wr rfl rfl (by kernel_rfl); omega) d8;have y9 := hZ.e0 (by have h : t ≤ 0 := hR.hi 7 .wr rfl rfl (by kernel_rfl); omega) d9;have y10 := hZ.e0 (by have h : t ≤ 0 := hR.hi 7 .wr rfl rfl (by kernel_rfl); omega) d10;go_simp;exact hK _ hZ
    ·refine pZ fun t vs ac wx K Q hR hZ hK => ?_
     have t5 : ac.tmps[5]? = some (.pointer (some ⟨g, 0, none⟩)) := hR.o 5;go_simp;exact hK _ hZ
    ·refine pZ fun t vs ac wx K Q hR hZ hK => ?_
     have t33 := hR.q 2;have y0 := hZ.e0 (by have h : t ≤ 0 := hR.hi 7 .wr rfl rfl (by kernel_rfl); omega) b2;go_simp;exact hK _ hZ
    ·refine pZ fun t vs ac wx K Q hR hZ hK => ?_
     have t5 : ac.tmps[5]? = some (.pointer (some ⟨g, 0, none⟩)) := hR.o 5;go_simp;exact hK _ hZ
    ·refine pZ fun t vs ac wx K Q hR hZ hK => ?_
     have t35 := hR.q 4;have y0 := hZ.e0 (by have h : t ≤ 0 := hR.hi 7 .wr rfl rfl (by kernel_rfl); omega) b3;go_simp;exact hK _ hZ
    ·refine pZ fun t vs ac wx K Q hR hZ hK => ?_
     have t32 := hR.q 1;have t34 := hR.q 3;have t36 := hR.q 5;go_simp;exact hK _ hZ
    ·refine wZ fun vs ac wx K Q hR hZ hK => ?_
     have t37 := hR.q 6;obtain rfl := hZ.zero rfl;go_simp;exact hK _ _ nofun ⟨by simp [upd], rfl⟩
    ·refine wZ fun vs ac wx K Q hR hZ hK => ?_
     have t31 := hR.q 0;have t38 := hR.w 7;obtain ⟨ev, rfl⟩ := hZ.one rfl;rw [ev] at t38;refine wp_append_lies _ (.tmp 31) (.tmp 38) 38 rfl base 77 i0 _ 13 136 Tryz.underlying38 hi0 hz0 hz1 hz2 rfl (by omega) (.slice sa acc.length sc) acc.length ys (gZ t31) (hownY.alloc _) ⟨Y.1.size, 0, none⟩ 1 1 (#[.int .i64 q.k, .int .u64 (q.t : Nat), .int .u64 (q.x : Nat), .int .u64 (q.w : Nat), .int .u64 (q.n : Nat), .int .u64 (q.v : Nat), .int .i64 k0, .int .u64 (k1 : Nat), .int .u64 (k2 : Nat), .slice k3 k4 k5, .slice k6 q.es.length k7, .int .i64 (p : Nat), .int .i64 nx]).toList (gZ t38) rfl (World.news_of_block (aK _ _ _ rfl)) (by simp [Value.oneCell']) (by omega) (by unfold maxLen; omega) (by omega) (by rw [aD]; show base ≤ Y.1.size + 1; omega) (Y.1.size + 1) (by simp) ?_;intro gg gcap w3 hown2 hgrow hat hlt3;exact hK _ _ nofun ⟨gg, gcap, w3, by simp [upd], hown2, hgrow, hat, hlt3, rfl⟩
    ·refine pZ fun t vs ac wx K Q hR hZ hK => ?_
     have t5 : ac.tmps[5]? = some (.pointer (some ⟨g, 0, none⟩)) := hR.o 5;go_simp;exact hK _ hZ
    ·refine pZ fun t vs ac wx K Q hR hZ hK => ?_
     have t40 := hR.q 9;have y0 := hZ.box (by have h : t ≤ 3 := hR.hi 12 .wr rfl rfl (by kernel_rfl); omega) lg hgo ⟨gn0, gn1⟩ b3;go_simp;exact hK _ hZ
    ·refine wZ fun vs ac wx K Q hR hZ hK => ?_
     have t2 : ac.tmps[2]? = some (.pointer (some ⟨w.1.size, 0, none⟩)) := hR.o 2;have t39 := hR.w 8;obtain ⟨gg, gcap, w3, ev, ho, hgr, hat, hlt3, rfl⟩ := hZ.two rfl;rw [ev] at t39;have y2 := oG hgr l2 ho2 c2;have z2 := zt hgr l2 ho2 r2;have HE := hid ev;clear ev;go_simp;exact hK undef _ nofun ⟨gg, gcap, wx, by simp [upd, HE.out], ho, hgr, hat, hlt3, rfl⟩
    ·refine wZ fun vs ac wx K Q hR hZ hK => ?_
     have t3 : ac.tmps[3]? = some (.pointer (some ⟨w.1.size + 1, 0, none⟩)) := hR.o 3;have t41 := hR.q 10;obtain ⟨gg, gcap, w3, ev, ho, hgr, hat, hlt3, rfl⟩ := hZ.three rfl;have y3 := (cO w3 w.1.size (w.1.size + 1) 0 (.slice (some ⟨gg, 0, none⟩) (acc.length + 1) gcap)).trans (oG hgr l3 ho3 c3);have z3 := (bY w3 w.1.size (w.1.size + 1) (.slice (some ⟨gg, 0, none⟩) (acc.length + 1) gcap)).trans (zt hgr l3 ho3 r3);have HE := hid ev;clear ev;go_simp;exact hK undef _ nofun ⟨gg, gcap, w3, by simp [upd, HE.out], ho, hgr, hat, hlt3, rfl⟩
    intro vs w5 hZ;obtain ⟨gg, gcap, w3, ev, hown2, hgrow, hat, hlt3, rfl⟩ := hZ.four rfl;simp only [bS, List.foldl_cons, List.foldl_nil];have HZ := hid (au hown2 (au hgrow (au hat hlt3)));clear hZ ev hown2 hgrow hat hlt3;go_simp
    gi_wp2
    obtain ⟨hown2, hgrow, hat, hlt3⟩ := HZ.out;obtain ⟨hhi, hown, hrg, h2, h3, h4⟩ := HOW.out;have hs3 := hgrow.size;rw [aD, World.size_drew] at hs3;have hbs := HBS.out;have far : ∀ k, k < Y.1.size → (Value.slice sa acc.length sc).ownBlock ≠ some k → w3.1[k]? = Y.1[k]? := fun k a c => pO hgrow a c
    have hno : ∀ k, k < z + 3 → (Value.slice sa acc.length sc).ownBlock ≠ some k := fun k hk e => by have := (hob _ e).1; omega
    have hmk : aS plI w3 base 77 (.slice (some ⟨gg, 0, none⟩) (acc.length + 1) gcap) (acc ++ [⟨q, p, p + f.len⟩]) :=
     aS.push (I := plI) (w1 := Y) hhi hown hrg HBB.out.2 nl ⟨[.int .i64 q.k, .int .u64 (q.t : Nat), .int .u64 (q.x : Nat), .int .u64 (q.w : Nat), .int .u64 (q.n : Nat), .int .u64 (q.v : Nat), .int .i64 k0, .int .u64 (k1 : Nat), .int .u64 (k2 : Nat), .slice k3 k4 k5, .slice k6 q.es.length k7], by rw [H0.out.2]; rfl, HVY.out.1⟩ (br.drew.alloc nl _) hgrow hown2 (hat.imp id (fun e => by omega))
    have hset : ∀ (u v : Value) k, k ≠ w.1.size → k ≠ w.1.size + 1 → ((w3.setCell ⟨w.1.size, 0, none⟩ u).setCell ⟨w.1.size + 1, 0, none⟩ v).1[k]? = w3.1[k]? := fun u v k a c => (ay _ _ _ _ c).trans (ay _ _ _ _ a)
    have hkeep : ∀ (u v : Value) k, w.1.size + 3 ≤ k → k < z + 3 → k < W.1.size → ((w3.setCell ⟨w.1.size, 0, none⟩ u).setCell ⟨w.1.size + 1, 0, none⟩ v).1[k]? = W.1[k]? := fun u v k a c d => (hset u v k (by omega) (by omega)).trans ((far k (by have := HBB.out.2.size; omega) (hno k c)).trans (HBB.out.2.block k d))
    refine ⟨?_, ⟨fun k a c => hkeep _ _ k a (by omega) (by omega), hkeep _ _ _ (by show w.1.size + 3 ≤ X.1.size + 2; omega) (by show X.1.size + 2 < z + 3; omega) (by show X.1.size + 2 < W.1.size; omega)⟩, _, acc ++ [⟨q, p, p + f.len⟩], ?_, (ay _ _ _ _ (by show w.1.size ≠ w.1.size + 1; omega)).trans (aM ((far _ l2 ho2).trans h2) rfl), ?_, (hset _ _ _ (by omega) (by omega)).trans ((far _ (by omega) (hno _ (by omega))).trans h4), vO HGN.out HH.out.ac, .inr ?_⟩
    ·exact ⟨hkeep _ _ _ (by omega) (by omega) (by omega), hkeep _ _ _ (by omega) (by omega) (by omega)⟩
    ·exact (((((HBB.out.1.drew.alloc (by rw [World.size_drew]; omega) _).grown hgrow (by rw [aD, World.size_drew]; omega) (fun k hk => by have := (hob k hk).1; omega))).setCell nl _).setCell (by simp) _)
    ·rw [vP, ← H0.out.2]
     exact aM ((ay _ _ _ _ (by show w.1.size + 1 ≠ w.1.size; omega)).trans ((far _ l3 ho3).trans h3)) rfl
    ·rw [hbs] at hmk
     rw [← hz];exact (hmk.tc (Tc.set w.1.size 0 _ _) (by omega)).tc (Tc.set (w.1.size + 1) 0 _ _) (by omega)
  ·have hw3' : w.1.size + 2 < W.1.size := hw3
   obtain ⟨rl, hrl⟩ : ∃ rl, rl = f.rule := ⟨_, rfl⟩;have t0 : (rl != 0) = true := (by rw [hrl]; simp [h0]);have HGN : Hid (oF x = none) := hid (by unfold oF; rw [← HX.out.2.1, if_neg h0]);have HRL : Hid (rl = lJ x) := hid (by unfold lJ; rw [← HX.out.2.1, if_neg h0, hrl]);rw [← hrl];have h2 := h.l;have h3 := h.n;have h4 := h.e;have HBB := hid (au HH.out.bel (Below.refl W.1.size W));have hne3 : w.1.size + 2 < W.1.size := (by have := (ak h4).1; exact this);have d2 : W.cell? ⟨w.1.size, 0, none⟩ = some (.slice sa acc.length sc) := (by rw [ax W _ 0 _ _ _ h2]; rfl);have d3 : W.cell? ⟨w.1.size + 1, 0, none⟩ = some (.int .i64 (ky acc : Nat)) := (by rw [ax W _ 0 _ _ _ h3]; rfl);have d4 : W.cell? ⟨w.1.size + 1 + 1, 0, none⟩ = some (.int .i64 0) := (by rw [ax W _ 0 _ _ _ h4]; rfl);have r2 : W.frozen? ⟨w.1.size, 0, none⟩ = false := (by rw [aA W _ 0 _ _ h2]);have r3 : W.frozen? ⟨w.1.size + 1, 0, none⟩ = false := (by rw [aA W _ 0 _ _ h3]);have r4 : W.frozen? ⟨w.1.size + 1 + 1, 0, none⟩ = false := (by rw [aA W _ 0 _ _ h4]);have l2 : w.1.size < W.1.size := (by omega);have l3 : w.1.size + 1 < W.1.size := (by omega);have l4 : w.1.size + 1 + 1 < W.1.size := (by omega);have hY : Kr z W ((((W.setCell ⟨w.1.size, 0, none⟩ (.slice sa acc.length sc)).setCell ⟨w.1.size + 1, 0, none⟩ (.int .i64 (p : Nat))).setCell ⟨w.1.size + 1 + 1, 0, none⟩ (.int .i64 rl)).drew) ∧ WE w z b (pre ++ [x]) ((((W.setCell ⟨w.1.size, 0, none⟩ (.slice sa acc.length sc)).setCell ⟨w.1.size + 1, 0, none⟩ (.int .i64 (p : Nat))).setCell ⟨w.1.size + 1 + 1, 0, none⟩ (.int .i64 rl)).drew) := by
    have hfar : ∀ k, w.1.size + 3 ≤ k → ((((W.setCell ⟨w.1.size, 0, none⟩ (.slice sa acc.length sc)).setCell ⟨w.1.size + 1, 0, none⟩ (.int .i64 (p : Nat))).setCell ⟨w.1.size + 1 + 1, 0, none⟩ (.int .i64 rl)).drew).1[k]? = W.1[k]? := fun k h2 =>
     (ay _ _ _ _ (by show k ≠ w.1.size + 1 + 1; omega)).trans ((ay _ _ _ _ (by show k ≠ w.1.size + 1; omega)).trans (ay _ _ _ _ (by show k ≠ w.1.size; omega)))
    refine ⟨⟨(hfar _ (by omega)).trans (HBB.out.2.block _ (by omega)), (hfar _ (by omega)).trans (HBB.out.2.block _ (by omega))⟩, (((HBB.out.1.setCell nl _).setCell (by simp) _).setCell (by simp; omega) _).drew, .slice sa acc.length sc, acc, pre, x, ?_, ?_, ?_, rfl, HH.out.ac, HGN.out, ?_⟩
    ·exact (ay _ _ _ _ (by show w.1.size ≠ w.1.size + 1 + 1; omega)).trans ((ay _ _ _ _ (by show w.1.size ≠ w.1.size + 1; omega)).trans (aM h2 rfl))
    ·rw [← HX.out.1]
     exact (ay _ _ _ _ (by show w.1.size + 1 ≠ w.1.size + 1 + 1; omega)).trans (aM ((ay _ _ _ _ (by show w.1.size + 1 ≠ w.1.size; omega)).trans h3) rfl)
    ·rw [← HRL.out]
     exact aM ((ay _ _ _ _ (by show w.1.size + 2 ≠ w.1.size + 1; omega)).trans ((ay _ _ _ _ (by show w.1.size + 2 ≠ w.1.size; omega)).trans h4)) rfl
    ·exact HH.out.row.imp id (fun m => ((((m.below HBB.out.2 nl).tc (Tc.set w.1.size 0 _ _) (by omega)).tc (Tc.set (w.1.size + 1) 0 _ _) (by omega)).tc (Tc.set (w.1.size + 1 + 1) 0 _ _) (by omega)).tc (Tc.of_below (c := w.1.size) br.drew) (by omega))
   have HY := hid hY;clear hY;clear hrl h2 h3 h4 b0 b1 h h0 hfg
   gi_wp2
   refine jc (w0 := W) rfl (by kernel_rfl) [.eq (.slice sa acc.length sc), .eq (.pointer (some ⟨g, 2, none⟩)), .eq (.int .i64 (p : Nat)), .eq (.int .i64 rl), .wr, .wr, .wr] (BZ W w.1.size (.slice sa acc.length sc) (.int .i64 (p : Nat)) (.int .i64 rl)) (by kernel_rfl) (⟨fun _ => undef, rfl⟩) ⟨?_, ?_, ?_, ?_, ?_, ?_, ?_, trivial⟩ (fun vs => [(15, .slice sa acc.length sc), (16, .pointer (some ⟨g, 2, none⟩)), (17, .int .i64 (p : Nat)), (18, .int .i64 rl)]) (fun _ => rfl) 3 (by kernel_rfl) ?_
   ·refine pZ fun t vs ac wx K Q hR hZ hK => ?_
    have t2 : ac.tmps[2]? = some (.pointer (some ⟨w.1.size, 0, none⟩)) := hR.o 2;have y0 := hZ.far (by have h : t ≤ 0 := hR.hi 4 .wr rfl rfl (by kernel_rfl); exact ⟨.inl h, .inl (by omega), .inl (by omega)⟩) d2;go_simp;exact hK _ hZ
   ·refine pZ fun t vs ac wx K Q hR hZ hK => ?_
    have t5 : ac.tmps[5]? = some (.pointer (some ⟨g, 0, none⟩)) := hR.o 5;go_simp;exact hK _ hZ
   ·refine pZ fun t vs ac wx K Q hR hZ hK => ?_
    have t16 := hR.q 1;have y0 := hZ.far (by have h : t ≤ 1 := hR.hi 5 .wr rfl rfl (by kernel_rfl); exact ⟨.inr (by omega), .inl h, .inl (by omega)⟩) b2;go_simp;exact hK _ hZ
   ·refine pZ fun t vs ac wx K Q hR hZ hK => ?_
    have t6 : ac.tmps[6]? = some (.int .i64 rl) := hR.o 6;go_simp;exact hK _ hZ
   ·refine wZ fun vs ac wx K Q hR hZ hK => ?_
    have t2 : ac.tmps[2]? = some (.pointer (some ⟨w.1.size, 0, none⟩)) := hR.o 2;have t15 := hR.q 0;have y2 := hZ.far ⟨.inl (by omega), .inl (by omega), .inl (by omega)⟩ d2;have z2 := hZ.fro ⟨.inl (by omega), .inl (by omega), .inl (by omega)⟩ r2;have e := (show wx = _ from hZ);simp only [] at e;subst e;go_simp;exact hK undef _ nofun (by unfold BZ; simp)
   ·refine wZ fun vs ac wx K Q hR hZ hK => ?_
    have t3 : ac.tmps[3]? = some (.pointer (some ⟨w.1.size + 1, 0, none⟩)) := hR.o 3;have t17 := hR.q 2;have y3 := hZ.far ⟨.inr (by omega), .inl (by omega), .inl (by omega)⟩ d3;have z3 := hZ.fro ⟨.inr (by omega), .inl (by omega), .inl (by omega)⟩ r3;have e := (show wx = _ from hZ);simp only [] at e;subst e;go_simp;exact hK undef _ nofun (by unfold BZ; simp)
   ·refine wZ fun vs ac wx K Q hR hZ hK => ?_
    have t4 : ac.tmps[4]? = some (.pointer (some ⟨w.1.size + 1 + 1, 0, none⟩)) := hR.o 4;have t18 := hR.q 3;have y4 := hZ.far ⟨.inr (by omega), .inr (by omega), .inl (by omega)⟩ d4;have z4 := hZ.fro ⟨.inr (by omega), .inr (by omega), .inl (by omega)⟩ r4;have e := (show wx = _ from hZ);simp only [] at e;subst e;go_simp;exact hK undef _ nofun (by unfold BZ; simp)
   intro vs w5 hZ;obtain rfl := (show w5 = _ from hZ);simp only [bS, List.foldl_cons, List.foldl_nil];clear hZ;go_simp
   gi_wp2
   refine ⟨?_, rfl, HY.out.2⟩;rw [← hzX];exact HY.out.1
theorem lL (S0 : Nat → Prop) (own : Bool) (b : List UInt8) (bv : Value) (w : World) (hb : aO w S0 own b bv) (hl : b.length ≤ 60000) : Calls Tryz.prog 13 #[bv] w (BP b w) :=
 jh S0 own b (fun p hp hr S pv w hv => xm S true _ _ pv w (dQ hr).2.2.1 (by have h := (dQ hr).2.2.2.1; rw [List.length_drop] at h; omega) hv) bv w hb hl
end Go.Proofs.YtlpgokcapdjgjaaGreatDoor
