/- Walks. -/
import Derived.Test.YtlpgokcapdjgjaaGreatDoorY41
set_option maxHeartbeats 8000000
set_option maxRecDepth 100000
namespace Go.Proofs.YtlpgokcapdjgjaaGreatDoor
open Go.RowKit Go
set_option linter.unusedVariables false
set_option linter.unusedSimpArgs false
def dx (k : Nat) (b : List UInt8) : Int := if 1 ≤ k ∧ k ≤ 7 then (if (bC k b).isSome then 0 else 5) else 4
def gQ (k : Nat) (b : List UInt8) (w : World) (e : Ending) (w' : World) : Prop :=
 ∃ v, e = .returned (.tuple #[v, .int .i64 (dx k b)]) ∧ bL w' (fun b => w.1.size ≤ b) true ((bC k b).getD .zero) v ∧ Below w.1.size w w'
theorem pE (W : World) (S : Nat → Prop) : bL W S true .zero (.agg #[.int .i64 0, .int .u64 0, .int .u64 0, .int .u64 0, .int .u64 0, .int .u64 0, .int .i64 0, .int .u64 0, .int .u64 0, .slice none 0 0, .slice none 0 0]) := ⟨_, _, _, _, _, rfl, by decide, by decide, ⟨by decide, by decide, by decide, by decide, by decide, bD, by simp [Rec.zero]⟩, lw W S, Sl.nil W S true 4⟩
theorem eQ {k : Nat} {b : List UInt8} {w w' : World} {rule : Int} (h1 : bC k b = none) (h2 : dx k b = rule) (hb : Below w.1.size w w') : gQ k b w (.returned (.tuple #[.agg #[.int .i64 0, .int .u64 0, .int .u64 0, .int .u64 0, .int .u64 0, .int .u64 0, .int .i64 0, .int .u64 0, .int .u64 0, .slice none 0 0, .slice none 0 0], .int .i64 rule])) w' := by
 subst h2;exact ⟨_, rfl, by rw [h1]; exact pE _ _, hb⟩
theorem qy (rb : Nat) (l r : List UInt8) (sv : Value) (w : World) (h : VrS w rb l sv (some r)) :
  Calls Tryz.prog 72 #[.pointer (some ⟨rb, 0, none⟩)] w fun e w' => e = .returned (.int .i64 (r.length : Nat)) ∧ ∃ n, w' = w.drewN n := by
 obtain ⟨a, e, h, he⟩ := h;have he0 : r = l.drop a := by
  by_cases h0 : e = 0
  ·rw [if_pos h0] at he; injection he
  ·rw [if_neg h0] at he; cases he
 refine (nu rb a e l sv w h).mono ?_;rintro x w' ⟨rfl, hn⟩;refine ⟨vX ?_, hn⟩;have := h.2.2.1;rw [he0, List.length_drop]; omega
def Gp (w : World) (g : Nat) : Prop := ∃ cur, w.1[g]? = some (.cells cur 73 (0, 0)) ∧ cur.size = 11
theorem AB {o : Oper} {a : Act} {w : World} {K : Act → World → Prop} {Q : Exit → Act → World → Prop} {i j g : Nat} {k : Int} {a1 a2 a3 a4 a5 : Int} {p q r : Int} {s1 : Option Addr} {s2 s3 : Nat} {s4 : Option Addr} {s5 s6 : Nat}
  (x y : Operand) (ho : o.op = .store 73 x y) (hx : x = .tmp i) (hy : y = .tmp j) (h7 : a.tmps[i]? = some (.pointer (some ⟨g, 0, none⟩)))
  (h31 : a.tmps[j]? = some (.agg #[.int .i64 k, .int .u64 a1, .int .u64 a2, .int .u64 a3, .int .u64 a4, .int .u64 a5, .int .i64 p, .int .u64 q, .int .u64 r, .slice s1 s2 s3, .slice s4 s5 s6])) (hr : Gp w g)
  (h : K (a.put o.dst undef) (w.setRow g #[.int .i64 k, .int .u64 a1, .int .u64 a2, .int .u64 a3, .int .u64 a4, .int .u64 a5, .int .i64 p, .int .u64 q, .int .u64 r, .slice s1 s2 s3, .slice s4 s5 s6])) : Oper.wp Tryz.prog o a w K Q := by
 obtain ⟨cur, h1, h2⟩ := hr;subst hx hy;have e1 := gZ h7;have e2 := gZ h31;unfold Oper.wp execOp;simp only [ho, e1, e2, Instr.storeAt, Instr.sureAddr, Sem.run_bind, Sem.run_pure, Result.andThen_ok, run_storeVar_row (P := Tryz.prog) w g 73 73 cur #[.int .i64 k, .int .u64 a1, .int .u64 a2, .int .u64 a3, .int .u64 a4, .int .u64 a5, .int .i64 p, .int .u64 q, .int .u64 r, .slice s1 s2 s3, .slice s4 s5 s6] h1 (by kernel_rfl) (by rw [h2]; rfl) (by simp [Value.oneCell'])];exact h
structure PaZ (W4 : World) (pb rb : Nat) (l : List UInt8) (sv : Value) (s s1 : Option (List UInt8)) (k t : Nat) (n : Nat) (vs : Nat → Value) (w : World) : Prop where
 rd : RdS w pb rb l sv (if n = 0 then s else s1) false
 rg : Rg rb W4 w
 box : vs 9 ≠ undef → n ≤ 1 → ∃ g, vs 9 = .pointer (some ⟨g, 0, none⟩) ∧ w.1[g]? = some (.cells #[.int .i64 0, .int .u64 0, .int .u64 0, .int .u64 0, .int .u64 0, .int .u64 0, .int .i64 0, .int .u64 0, .int .u64 0, .slice none 0 0, .slice none 0 0] 73 (0, 0))
 low : ∀ g, vs 9 = .pointer (some ⟨g, 0, none⟩) → W4.1.size ≤ g
 done : 2 ≤ n → ∃ g, vs 9 = .pointer (some ⟨g, 0, none⟩) ∧ w.1[g]? = some (.cells #[.int .i64 (k : Nat), .int .u64 (t : Nat), .int .u64 0, .int .u64 0, .int .u64 0, .int .u64 0, .int .i64 0, .int .u64 0, .int .u64 0, .slice none 0 0, .slice none 0 0] 73 (0, 0))
 lt : pb < W4.1.size
section
variable {W4 w w' : World} {pb rb : Nat} {l : List UInt8} {sv : Value} {s s1 : Option (List UInt8)} {k t n : Nat} {vs : Nat → Value}
theorem PaZ.vr (h : PaZ W4 pb rb l sv s s1 k t n vs w) (hn : n = 0) : VrS w rb l sv s := by have := h.rd.vr; rw [if_pos hn] at this; exact this
theorem PaZ.cell (h : PaZ W4 pb rb l sv s s1 k t n vs w) {b o : Nat} {v : Value} (h1 : b ≠ rb) (h2 : b < W4.1.size) (hc : W4.cell? ⟨b, o, none⟩ = some v) : w.cell? ⟨b, o, none⟩ = some v := h.rg.cell hc h1
theorem PaZ.num (h : PaZ W4 pb rb l sv s s1 k t 0 vs w) {v : Value} (hs : VrS w' rb l sv s1) (hg : Rg rb w w') : PaZ W4 pb rb l sv s s1 k t 1 (upd vs 7 v) w' := by
 have h9 : upd vs 7 v 9 = vs 9 := upd_ne _ _ (by omega);have hlt := h.rd.lt;refine ⟨h.rd.step hs hg, h.rg.trans hg, fun hu _ => ?_, fun g hg9 => h.low g (by rw [← h9]; exact hg9), (fun h => by omega), h.lt⟩;rw [h9] at hu ⊢;obtain ⟨g, e, hh⟩ := h.box hu (by omega);have hl := h.low g e;have hl2 := h.lt;exact ⟨g, e, (hg.keep g (ak hh).1 (by omega)).trans hh⟩
theorem PaZ.alloc (h : PaZ W4 pb rb l sv s s1 k t n vs w) (hu : vs 9 = undef) : PaZ W4 pb rb l sv s s1 k t n (upd vs 9 (.pointer (some ⟨w.1.size, 0, none⟩))) (w.alloc (.cells #[.int .i64 0, .int .u64 0, .int .u64 0, .int .u64 0, .int .u64 0, .int .u64 0, .int .i64 0, .int .u64 0, .int .u64 0, .slice none 0 0, .slice none 0 0] 73)) := by
 have hb : Below w.1.size w (w.alloc (.cells #[.int .i64 0, .int .u64 0, .int .u64 0, .int .u64 0, .int .u64 0, .int .u64 0, .int .i64 0, .int .u64 0, .int .u64 0, .slice none 0 0, .slice none 0 0] 73)) := br.alloc nl _;have hs := h.rg.size;refine ⟨h.rd.below hb, h.rg.trans (Rg.of_below hb), fun _ _ => ⟨_, upd_self _ _ _, aK _ _ _ rfl⟩, fun g hg => ?_, fun hn => ?_, h.lt⟩
 ·rw [upd_self] at hg; injection hg with hg; injection hg with hg; injection hg with hg; omega
 ·obtain ⟨g, e, _⟩ := h.done hn
  rw [hu] at e; cases e
theorem PaZ.sto (h : PaZ W4 pb rb l sv s s1 k t 1 vs w) {g : Nat} {v : Value} (hg : vs 9 = .pointer (some ⟨g, 0, none⟩)) (hh : w.1[g]? = some (.cells #[.int .i64 0, .int .u64 0, .int .u64 0, .int .u64 0, .int .u64 0, .int .u64 0, .int .i64 0, .int .u64 0, .int .u64 0, .slice none 0 0, .slice none 0 0] 73 (0, 0))) : PaZ W4 pb rb l sv s s1 k t 2 (upd vs 10 v) (w.setRow g #[.int .i64 (k : Nat), .int .u64 (t : Nat), .int .u64 0, .int .u64 0, .int .u64 0, .int .u64 0, .int .i64 0, .int .u64 0, .int .u64 0, .slice none 0 0, .slice none 0 0]) := by
 have h9 : upd vs 10 v 9 = vs 9 := upd_ne _ _ (by omega);have hl := h.low g hg;have hl2 := h.lt;have hlt := h.rd.lt;refine ⟨h.rd.keep (fun b hb => setRow_other _ _ _ _ (by omega)), ⟨h.rg.os, h.rg.tape, h.rg.output, by simpa [World.setRow] using h.rg.size, fun b hb hn => (setRow_other _ _ _ _ (by omega)).trans (h.rg.keep b hb hn)⟩, (fun _ h => by omega), fun g' hg' => h.low g' (by rw [← h9]; exact hg'), fun _ => ⟨g, h9.trans hg, aB _ _ _ _ _ _ hh⟩, hl2⟩
end
theorem oz (S : Nat → Prop) (own : Bool) (k : Nat) (hTK : 1 ≤ k → k ≤ 7 → ∃ fid, (aV k)[3]? = some (.func (.func fid) #[] #[]) ∧ Enters fid ∧ sV k fid) (b : List UInt8) (pv : Value) (w : World) (hk : k < 256) (hb : b.length ≤ 100000) (hv : aO w S own b pv) :
  Calls Tryz.prog 37 #[.agg #[.int .u8 (k : Nat), pv]] w (gQ k b w) := by
 have HTK := hid hTK;clear hTK;obtain ⟨_, ad, cap, rfl, _⟩ := hv.shape;have hbA : Below w.1.size w ((w.alloc (.cells #[.int .u8 (k : Nat), .slice ad b.length cap] 105)).alloc (.cells #[.int .i64 0, .int .u64 0, .int .u64 0, .int .u64 0, .int .u64 0, .int .u64 0, .int .i64 0, .int .u64 0, .int .u64 0, .slice none 0 0, .slice none 0 0] 73)) := (br.alloc nl _).alloc (by simp) _;have hf0 : ((w.alloc (.cells #[.int .u8 (k : Nat), .slice ad b.length cap] 105)).alloc (.cells #[.int .i64 0, .int .u64 0, .int .u64 0, .int .u64 0, .int .u64 0, .int .u64 0, .int .i64 0, .int .u64 0, .int .u64 0, .slice none 0 0, .slice none 0 0] 73)).1[w.1.size]? = some (.cells #[.int .u8 (k : Nat), .slice ad b.length cap] 105 (0, 0)) := heap_alloc2_old _ _ _;have hr0 : ((w.alloc (.cells #[.int .u8 (k : Nat), .slice ad b.length cap] 105)).alloc (.cells #[.int .i64 0, .int .u64 0, .int .u64 0, .int .u64 0, .int .u64 0, .int .u64 0, .int .i64 0, .int .u64 0, .int .u64 0, .slice none 0 0, .slice none 0 0] 73)).1[w.1.size + 1]? = some (.cells #[.int .i64 0, .int .u64 0, .int .u64 0, .int .u64 0, .int .u64 0, .int .u64 0, .int .i64 0, .int .u64 0, .int .u64 0, .slice none 0 0, .slice none 0 0] 73 (0, 0)) := aK _ _ _ (by simp);have HA := hid (au hbA (au hf0 hr0));have HV := hid hv;have y1 : (0 : Int) ≤ (k : Int) := by omega
 have y2 : (k : Int) < 256 := by omega
 clear hbA hf0 hr0 hv
 go_enter Tryz.func37, Tryz.ntmps37
 go_wp2_with fail;refine (vg (k : Int) _ (by omega) (by omega)).mono ?_;rintro e w1 ⟨⟨k', hk', h1, h7, rfl⟩ | ⟨hn, rfl⟩, hb1⟩
 ·obtain rfl : k = k' := by omega
  obtain ⟨t, s1, hn⟩ : ∃ t s1, bG (some b) = (t, s1) := ⟨_, _, rfl⟩;have ht : t < 18446744073709551616 := by have := fC (some b); rw [hn] at this; exact this
  have hend : jU (fJ k t s1 false) = bC k b := by
   have := Ci k b ⟨h1, h7⟩;unfold zU at this;rw [hn] at this;exact this
  have HEND := hid (au hn hend);have hz1 := hb1.size;simp only [aD] at hz1;have hf1 := (hb1.block w.1.size (by simp; omega)).trans HA.out.2.1;have hr1 := (hb1.block (w.1.size + 1) (by simp)).trans HA.out.2.2;have hB1 : Below w.1.size w w1 := HA.out.1.trans (hb1.mono (by simp; omega));have hf2 : ((w1.alloc (.cells #[.string ⟨#[]⟩, .nilFunc, .nilFunc, .nilFunc, .nilFunc, .nilFunc] 150)).setRow w1.1.size (aV k)).1[w.1.size]? = some (.cells #[.int .u8 (k : Nat), .slice ad b.length cap] 105 (0, 0)) := (setRow_other _ _ _ _ (by omega)).trans ((aL _ _ _ (by omega)).trans hf1);have hr2 : ((w1.alloc (.cells #[.string ⟨#[]⟩, .nilFunc, .nilFunc, .nilFunc, .nilFunc, .nilFunc] 150)).setRow w1.1.size (aV k)).1[w.1.size + 1]? = some (.cells #[.int .i64 0, .int .u64 0, .int .u64 0, .int .u64 0, .int .u64 0, .int .u64 0, .int .i64 0, .int .u64 0, .int .u64 0, .slice none 0 0, .slice none 0 0] 73 (0, 0)) := (setRow_other _ _ _ _ (by omega)).trans ((aL _ _ _ (by omega)).trans hr1);have hk2 : ((w1.alloc (.cells #[.string ⟨#[]⟩, .nilFunc, .nilFunc, .nilFunc, .nilFunc, .nilFunc] 150)).setRow w1.1.size (aV k)).1[w1.1.size]? = some (.cells (aV k) 150 (0, 0)) := aB _ _ _ _ _ _ (aK _ _ _ rfl);have hB2 : Below w.1.size w ((w1.alloc (.cells #[.string ⟨#[]⟩, .nilFunc, .nilFunc, .nilFunc, .nilFunc, .nilFunc] 150)).setRow w1.1.size (aV k)) := below_setRow (hB1.alloc (by omega) _) _ _ (by omega);have hz2 : ((w1.alloc (.cells #[.string ⟨#[]⟩, .nilFunc, .nilFunc, .nilFunc, .nilFunc, .nilFunc] 150)).setRow w1.1.size (aV k)).1.size = w1.1.size + 1 := by simp [World.setRow]
  have H2 := hid (au hf2 (au hr2 (au hk2 (au hB2 hz2))));clear hb1 hf1 hr1 hB1 hf2 hr2 hk2 hB2 hz2 hn hend hk'
  go_upto_region 2 with (refine wpList_store_row rfl 150 (.tmp 4) (.tmp 13) rfl rfl w1.1.size rfl (aV k) rfl 150 #[.string ⟨#[]⟩, .nilFunc, .nilFunc, .nilFunc, .nilFunc, .nilFunc] (aK _ _ _ rfl) (by rw [bT]; kernel_rfl) (by rw [bT]; rfl) (gX k) ?_)
  generalize (w1.alloc (.cells #[.string ⟨#[]⟩, .nilFunc, .nilFunc, .nilFunc, .nilFunc, .nilFunc] 150)).setRow w1.1.size (aV k) = W2 at H2 ⊢;have c1 : W2.cell? ⟨w.1.size, 1, none⟩ = some (.slice ad b.length cap) := by rw [ax W2 _ 1 _ _ _ H2.out.1]; rfl
  have hz2 := H2.out.2.2.2.2;go_wp2_with fail;refine (ny S own b _ W2 (HV.out.below H2.out.2.2.2.1 nl) (by omega)).mono ?_;rintro e w3 ⟨rb, sv, rfl, hv3, hrb, hb3⟩;have hz3 := hb3.size;have hvl := hv3.lt;have H3 := hid (au hv3 hb3);clear hv3 hb3 c1;go_wp2_with fail;obtain ⟨W4, hW4⟩ : ∃ W4, W4 = w3.alloc (.cells #[.pointer (some ⟨rb, 0, none⟩), .bool false] 175) := ⟨_, rfl⟩;obtain ⟨pb, hpb⟩ : ∃ pb, pb = w3.1.size := ⟨_, rfl⟩;have hb4 : Below w3.1.size w3 W4 := by rw [hW4]; exact br.alloc nl _
  have hz4 : W4.1.size = pb + 1 := by rw [hW4, hpb]; simp
  have hrd4 : RdS W4 pb rb b sv (some b) false := ⟨by rw [hW4, hpb]; exact aK _ _ _ rfl, ⟨0, 0, H3.out.1.below hb4, by simp⟩, by omega⟩;have hb24 : Below W2.1.size W2 W4 := H3.out.2.trans (hb4.mono hz3);have hf4 := (hb24.block w.1.size (by omega)).trans H2.out.1;have hr4 := (hb24.block (w.1.size + 1) (by omega)).trans H2.out.2.1;have hk4 := (hb24.block w1.1.size (by omega)).trans H2.out.2.2.1;have hB4 : Below w.1.size w W4 := H2.out.2.2.2.1.trans (hb24.mono (by omega));rw [← hW4, ← hpb];have c0 : W4.cell? ⟨w.1.size, 0, none⟩ = some (.int .u8 (k : Nat)) := by rw [ax W4 _ 0 _ _ _ hf4]; rfl
  have cp := hrd4.c0;have H4 := hid (au hrd4 (au hr4 (au hk4 hB4)));have l0 : w.1.size < W4.1.size := by omega
  have lp : pb < W4.1.size := by omega
  have hlt : rb < pb := by omega
  have hle : w.1.size + 1 < w1.1.size ∧ w1.1.size < rb := by omega
  clear hW4 hb4 hrd4 hb24 hf4 hr4 hk4 hB4 hpb;have HZ : Hid (PaZ W4 pb rb b sv (some b) s1 k t 0 (fun _ => undef) W4.drew) := hid ⟨H4.out.1.below br.drew, Rg.of_below br.drew, (fun h => absurd rfl h), (fun g h => by cases h), (fun h => by omega), lp⟩;refine wV (w0 := W4) rfl [.eq (.pointer (some ⟨w.1.size, 0, none⟩)), .eq (.int .u8 (k : Nat)), .eq (.int .i64 (k : Nat)), .eq (.pointer (some ⟨pb, 0, none⟩)), .eq (.pointer (some ⟨pb, 0, none⟩)), .eq (.pointer (some ⟨pb, 0, none⟩)), .eq (.pointer (some ⟨rb, 0, none⟩)), .weq (.int .u64 (t : Nat)), .eq (.agg #[.int .i64 (k : Nat), .int .u64 (t : Nat), .int .u64 0, .int .u64 0, .int .u64 0, .int .u64 0, .int .i64 0, .int .u64 0, .int .u64 0, .slice none 0 0, .slice none 0 0]), .al, .wr] (PaZ W4 pb rb b sv (some b) s1 k t) (by kernel_rfl) (⟨fun _ => undef, HZ.out, fun _ _ => rfl⟩) ⟨?_, ?_, ?_, ?_, ?_, ?_, ?_, ?_, ?_, ?_, ?_, trivial⟩ (fun vs => [(23, .pointer (some ⟨w.1.size, 0, none⟩)), (24, .int .u8 (k : Nat)), (25, .int .i64 (k : Nat)), (26, .pointer (some ⟨pb, 0, none⟩)), (27, .pointer (some ⟨pb, 0, none⟩)), (28, .pointer (some ⟨pb, 0, none⟩)), (29, .pointer (some ⟨rb, 0, none⟩)), (30, .int .u64 (t : Nat)), (31, .agg #[.int .i64 (k : Nat), .int .u64 (t : Nat), .int .u64 0, .int .u64 0, .int .u64 0, .int .u64 0, .int .i64 0, .int .u64 0, .int .u64 0, .slice none 0 0, .slice none 0 0]), (7, vs 9)]) (fun _ => rfl) 2 (by kernel_rfl) ?_
  ·refine jH.mk rfl rfl (fun t vs ac wx K Q hR hZ hK => ?_)
   have t1 : ac.tmps[1]? = some (.pointer (some ⟨w.1.size, 0, none⟩)) := hR.o 1;go_simp;exact hK _ hZ
  ·refine jH.mk rfl rfl (fun t vs ac wx K Q hR hZ hK => ?_)
   have t23 := hR.q 0;have y0 := hZ.cell (by omega) (by omega) c0;go_simp;exact hK _ hZ
  ·refine jH.mk rfl rfl (fun t vs ac wx K Q hR hZ hK => ?_)
   have t24 := hR.q 1;go_simp
   (try go_ints)
   exact hK _ hZ
  ·refine jH.mk rfl rfl (fun t vs ac wx K Q hR hZ hK => ?_)
   have t6 : ac.tmps[6]? = some (.pointer (some ⟨pb, 0, none⟩)) := hR.o 6;go_simp;exact hK _ hZ
  ·refine jH.mk rfl rfl (fun t vs ac wx K Q hR hZ hK => ?_)
   have t26 := hR.q 3;go_simp;exact hK _ hZ
  ·refine jH.mk rfl rfl (fun t vs ac wx K Q hR hZ hK => ?_)
   have t27 := hR.q 4;go_simp;exact hK _ hZ
  ·refine jH.mk rfl rfl (fun t vs ac wx K Q hR hZ hK => ?_)
   have t28 := hR.q 5;have y0 := hZ.cell (by omega) (by omega) cp;go_simp;exact hK _ hZ
  ·refine lq.mk rfl rfl (fun vs ac wx K Q hR hZ hK => ?_)
   have t29 := hR.q 6;go_simp
   go_at_call 70
   refine (gH rb b sv _ s1 t _ (hZ.vr rfl) HEND.out.1).mono ?_;rintro e w' ⟨rfl, hs', hg'⟩;exact hK _ _ DY (hZ.num hs' hg')
  ·refine jH.mk rfl rfl (fun t vs ac wx K Q hR hZ hK => ?_)
   have t25 := hR.q 2;have t30 := hR.weq 7 (by kernel_rfl) rfl rfl;go_simp;exact hK _ hZ
  ·refine rY.mk rfl (fun t vs ac wx K Q hR hu hZ hK => ?_)
   go_simp;exact hK _ _ nofun (hZ.alloc hu)
  ·refine lq.mk rfl rfl (fun vs ac wx K Q hR hZ hK => ?_)
   have t7 := hR.al 9 (by kernel_rfl) rfl rfl;have t31 := hR.q 8;obtain ⟨g, hg, hh⟩ := hZ.box (hR.made 9 rfl (by kernel_rfl)) (by omega);rw [hg] at t7;have hr11 : Gp wx g := ⟨_, hh, rfl⟩;refine AB (.tmp 7) (.tmp 31) rfl rfl rfl t7 t31 hr11 ?_;exact hK undef _ nofun (hZ.sto hg hh)
  intro vs wN hZ hM;obtain ⟨g, hg, hbx⟩ := hZ.done (by omega);have hgl := hZ.low g hg;have HN := hid (au hbx (au hZ.rd hZ.rg));simp only [bS, List.foldl_cons, List.foldl_nil];rw [hg];clear hZ hM hg hbx c0 cp;have hkw : wN.1[w1.1.size]? = some (.cells (aV k) 150 (0, 0)) := (HN.out.2.2.keep w1.1.size (by omega) (by omega)).trans H4.out.2.2.1;have hrw : wN.1[w.1.size + 1]? = some (.cells #[.int .i64 0, .int .u64 0, .int .u64 0, .int .u64 0, .int .u64 0, .int .u64 0, .int .i64 0, .int .u64 0, .int .u64 0, .slice none 0 0, .slice none 0 0] 73 (0, 0)) := (HN.out.2.2.keep _ (by omega) (by omega)).trans H4.out.2.1;have hBN : Below w.1.size w wN := H4.out.2.2.2.trans ((HN.out.2.2.below (by omega)).mono (by omega));obtain ⟨fid, hf1, hf2, hf3⟩ := HTK.out h1 h7;have c3 : wN.cell? ⟨w1.1.size, 3, none⟩ = some (.func (.func fid) #[] #[]) := by rw [ax wN _ 3 _ _ _ hkw]; exact hf1
  have hsN := HN.out.2.2.size;have HF := hid (au hf2 hf3);have HW := hid (au hrw hBN);clear hkw hrw hBN hf1 hf2 hf3;go_simp;have hcall := HF.out.1;unfold Enters at hcall;go_wp2_with fail;clear hcall;refine (HF.out.2 t pb rb g b sv s1 false wN ht hb HN.out.2.1 (by omega) HN.out.1).mono ?_;rintro e w7 ⟨rfl, cs7, hh7, hrep, hrd7, hrk7⟩;obtain ⟨r7, s7, f7, htk⟩ : ∃ r7 s7 f7, fJ k t s1 false = (r7, s7, f7) := ⟨_, _, _, rfl⟩;rw [htk] at hrep hrd7;have hend2 : jU (r7, s7, f7) = bC k b := by rw [← htk]; exact HEND.out.2
  have hz7 := hrk7.size;have hr7 : w7.1[w.1.size + 1]? = some (.cells #[.int .i64 0, .int .u64 0, .int .u64 0, .int .u64 0, .int .u64 0, .int .u64 0, .int .i64 0, .int .u64 0, .int .u64 0, .slice none 0 0, .slice none 0 0] 73 (0, 0)) := (hrk7.keep _ (by omega) (by intro e; rcases e with e | e | e <;> omega)).trans HW.out.1;have hB7 : Below w.1.size w w7 := HW.out.2.trans (hrk7.below (B := w.1.size) (by omega) (by intro b' e; rcases e with e | e | e <;> omega));have c70 := hrd7.c0;obtain ⟨c71, _⟩ := hrd7.c1;have HR7 := hid (au hr7 (au hB7 (au hh7 (au hrep (au hrd7 hend2)))));have hno : (f7 = true ∨ s7 ≠ some []) → dx k b = 5 ∧ bC k b = none := fun h => by
   have h2 : bC k b = none := by
    rw [← hend2]; unfold jU;rcases h with h | h
    ·simp [h]
    ·simp [h]
   exact ⟨by unfold dx; rw [if_pos ⟨h1, h7⟩, h2]; rfl, h2⟩
  have HNO := hid hno;clear hr7 hB7 hh7 hrep hrd7 hend2 hno htk c3 hrk7;simp only [] at c71 c70;have hc : f7 = true ∨ (f7 = false ∧ s7 = none) ∨ (f7 = false ∧ ∃ x r, s7 = some (x :: r)) ∨ (f7 = false ∧ s7 = some []) := by
   cases f7
   ·cases s7 with
    | none => simp
    | some l => cases l <;> simp
   ·simp
  rcases hc with hf | ⟨hf, hs⟩ | ⟨hf, x, r, hs⟩ | ⟨hf, hs⟩
  ·subst hf
   have HE := hid (HNO.out (.inl rfl))
   go_wp2_with (refine wpList_store_row rfl 73 (.tmp 2) (.tmp 56) rfl rfl (w.1.size + 1) rfl #[.int .i64 0, .int .u64 0, .int .u64 0, .int .u64 0, .int .u64 0, .int .u64 0, .int .i64 0, .int .u64 0, .int .u64 0, .slice none 0 0, .slice none 0 0] rfl 73 #[.int .i64 0, .int .u64 0, .int .u64 0, .int .u64 0, .int .u64 0, .int .u64 0, .int .i64 0, .int .u64 0, .int .u64 0, .slice none 0 0, .slice none 0 0] HR7.out.1 (by kernel_rfl) rfl (by simp [Value.oneCell']) ?_)
   exact aC (v := .tuple #[.agg #[.int .i64 0, .int .u64 0, .int .u64 0, .int .u64 0, .int .u64 0, .int .u64 0, .int .i64 0, .int .u64 0, .int .u64 0, .slice none 0 0, .slice none 0 0], .int .i64 5]) (aN rfl _ _ (w.1.size + 1) 73 _ _ _ _ rfl (aB _ _ _ _ _ _ HR7.out.1) Tryz.underlying73 rfl (by kernel_rfl) rfl) rfl (eQ HE.out.2 HE.out.1 (below_setRow HR7.out.2.1 _ _ (by omega)))
  ·subst hf hs
   have HE := hid (HNO.out (.inr (by simp)));go_wp2_with fail;refine (je rb b sv none w7 HR7.out.2.2.2.2.1.vr).mono ?_;rintro e w0 ⟨ev, rfl, hev, rfl⟩;have hev2 : (ev != 0) = true := by
    have : ¬ ev = 0 := fun h => by simpa using hev.1 h
    simpa using this
   clear hev
   go_wp2_with (refine wpList_store_row rfl 73 (.tmp 2) (.tmp 56) rfl rfl (w.1.size + 1) rfl #[.int .i64 0, .int .u64 0, .int .u64 0, .int .u64 0, .int .u64 0, .int .u64 0, .int .i64 0, .int .u64 0, .int .u64 0, .slice none 0 0, .slice none 0 0] rfl 73 #[.int .i64 0, .int .u64 0, .int .u64 0, .int .u64 0, .int .u64 0, .int .u64 0, .int .i64 0, .int .u64 0, .int .u64 0, .slice none 0 0, .slice none 0 0] HR7.out.1 (by kernel_rfl) rfl (by simp [Value.oneCell']) ?_)
   exact aC (v := .tuple #[.agg #[.int .i64 0, .int .u64 0, .int .u64 0, .int .u64 0, .int .u64 0, .int .u64 0, .int .i64 0, .int .u64 0, .int .u64 0, .slice none 0 0, .slice none 0 0], .int .i64 5]) (aN rfl _ _ (w.1.size + 1) 73 _ _ _ _ rfl (aB _ _ _ _ _ _ HR7.out.1) Tryz.underlying73 rfl (by kernel_rfl) rfl) rfl (eQ HE.out.2 HE.out.1 (below_setRow HR7.out.2.1 _ _ (by omega)))
  ·subst hf hs
   have HE := hid (HNO.out (.inr (by simp)));go_wp2_with fail;refine (je rb b sv (some (x :: r)) w7 HR7.out.2.2.2.2.1.vr).mono ?_;rintro e w0 ⟨ev, rfl, hev, rfl⟩;obtain rfl : ev = 0 := hev.2 rfl;clear hev;go_wp2_with fail;refine (qy rb b (x :: r) sv w7 HR7.out.2.2.2.2.1.vr).mono ?_;rintro e w0 ⟨rfl, nq, rfl⟩;have tl : 0 < (x :: r).length := (by simp);have hb8 : Below w7.1.size w7 (w7.drewN nq) := below_drewN br _;have H8 := hid (au ((hb8.block _ (by omega)).trans HR7.out.1) (HR7.out.2.1.trans (hb8.mono HR7.out.2.1.size)));clear hb8;generalize w7.drewN nq = w8 at H8 ⊢;generalize (x :: r).length = ln at tl ⊢
   go_wp2_with (refine wpList_store_row rfl 73 (.tmp 2) (.tmp 56) rfl rfl (w.1.size + 1) rfl #[.int .i64 0, .int .u64 0, .int .u64 0, .int .u64 0, .int .u64 0, .int .u64 0, .int .i64 0, .int .u64 0, .int .u64 0, .slice none 0 0, .slice none 0 0] rfl 73 #[.int .i64 0, .int .u64 0, .int .u64 0, .int .u64 0, .int .u64 0, .int .u64 0, .int .i64 0, .int .u64 0, .int .u64 0, .slice none 0 0, .slice none 0 0] H8.out.1 (by kernel_rfl) rfl (by simp [Value.oneCell']) ?_)
   exact aC (v := .tuple #[.agg #[.int .i64 0, .int .u64 0, .int .u64 0, .int .u64 0, .int .u64 0, .int .u64 0, .int .i64 0, .int .u64 0, .int .u64 0, .slice none 0 0, .slice none 0 0], .int .i64 5]) (aN rfl _ _ (w.1.size + 1) 73 _ _ _ _ rfl (aB _ _ _ _ _ _ H8.out.1) Tryz.underlying73 rfl (by kernel_rfl) rfl) rfl (eQ HE.out.2 HE.out.1 (below_setRow H8.out.2 _ _ (by omega)))
  ·subst hf hs
   obtain ⟨m0, m1, m2, m3, m4, m5, m6, m7, hcs, _⟩ := HR7.out.2.2.2.1.conc;injection hcs with hcs
   have hyes : bC k b = some r7 ∧ dx k b = 0 := by
    have h2 : bC k b = some r7 := (by rw [← HR7.out.2.2.2.2.2]; rfl);exact ⟨h2, by unfold dx; rw [if_pos ⟨h1, h7⟩, h2]; rfl⟩
   have HE := hid hyes;clear hyes;go_wp2_with fail;refine (je rb b sv (some []) w7 HR7.out.2.2.2.2.1.vr).mono ?_;rintro e w0 ⟨ev, rfl, hev, rfl⟩;obtain rfl : ev = 0 := hev.2 rfl;clear hev;go_wp2_with fail;refine (qy rb b [] sv w7 HR7.out.2.2.2.2.1.vr).mono ?_;rintro e w0 ⟨rfl, nq, rfl⟩;have hb8 : Below w7.1.size w7 (w7.drewN nq) := below_drewN br _;have hg8 := (hb8.block g (ak HR7.out.2.2.1).1).trans HR7.out.2.2.1;rw [hcs] at hg8;have H8 := hid (au ((hb8.block _ (by omega)).trans HR7.out.1) (au (HR7.out.2.1.trans (hb8.mono HR7.out.2.1.size)) (au hg8 (HR7.out.2.2.2.1.below hb8 nl))));have hz8 := hb8.size;rw [hcs] at H8;have hres := HE.out.1;clear hb8 hg8 hcs;generalize w7.drewN nq = w8 at H8 hz8 ⊢;have e0 : w8.cell? ⟨g, 0, none⟩ = some (.int .i64 r7.k) := (by rw [ax w8 _ 0 _ _ _ H8.out.2.2.1]; rfl);have e1 : w8.cell? ⟨g, 1, none⟩ = some (.int .u64 r7.t) := (by rw [ax w8 _ 1 _ _ _ H8.out.2.2.1]; rfl);have e2 : w8.cell? ⟨g, 2, none⟩ = some (.int .u64 r7.x) := (by rw [ax w8 _ 2 _ _ _ H8.out.2.2.1]; rfl);have e3 : w8.cell? ⟨g, 3, none⟩ = some (.int .u64 r7.w) := (by rw [ax w8 _ 3 _ _ _ H8.out.2.2.1]; rfl);have e4 : w8.cell? ⟨g, 4, none⟩ = some (.int .u64 r7.n) := (by rw [ax w8 _ 4 _ _ _ H8.out.2.2.1]; rfl);have e5 : w8.cell? ⟨g, 5, none⟩ = some (.int .u64 r7.v) := (by rw [ax w8 _ 5 _ _ _ H8.out.2.2.1]; rfl);have e6 : w8.cell? ⟨g, 6, none⟩ = some (.int .i64 m0) := (by rw [ax w8 _ 6 _ _ _ H8.out.2.2.1]; rfl);have e7 : w8.cell? ⟨g, 7, none⟩ = some (.int .u64 m1) := (by rw [ax w8 _ 7 _ _ _ H8.out.2.2.1]; rfl);have e8 : w8.cell? ⟨g, 8, none⟩ = some (.int .u64 m2) := (by rw [ax w8 _ 8 _ _ _ H8.out.2.2.1]; rfl);have e9 : w8.cell? ⟨g, 9, none⟩ = some (.slice m3 m4 m5) := (by rw [ax w8 _ 9 _ _ _ H8.out.2.2.1]; rfl);have e10 : w8.cell? ⟨g, 10, none⟩ = some (.slice m6 r7.es.length m7) := by rw [ax w8 _ 10 _ _ _ H8.out.2.2.1]; rfl
   go_upto_region 9 with fail
   go_wp2_with (first | (refine wpList_load_row rfl 73 (.tmp 7) rfl g rfl 73 _ (0, 0) _ H8.out.2.2.1 Tryz.underlying73 rfl (by kernel_rfl) ?_) | refine wpList_store_row rfl 73 (.tmp 2) (.tmp 57) rfl rfl (w.1.size + 1) rfl #[.int .i64 r7.k, .int .u64 r7.t, .int .u64 r7.x, .int .u64 r7.w, .int .u64 r7.n, .int .u64 r7.v, .int .i64 m0, .int .u64 (m1 : Nat), .int .u64 (m2 : Nat), .slice m3 m4 m5, .slice m6 r7.es.length m7] rfl 73 #[.int .i64 0, .int .u64 0, .int .u64 0, .int .u64 0, .int .u64 0, .int .u64 0, .int .i64 0, .int .u64 0, .int .u64 0, .slice none 0 0, .slice none 0 0] H8.out.1 (by kernel_rfl) rfl (by simp [Value.oneCell']) ?_)
   refine aC (v := .tuple #[.agg #[.int .i64 r7.k, .int .u64 r7.t, .int .u64 r7.x, .int .u64 r7.w, .int .u64 r7.n, .int .u64 r7.v, .int .i64 m0, .int .u64 (m1 : Nat), .int .u64 (m2 : Nat), .slice m3 m4 m5, .slice m6 r7.es.length m7], .int .i64 0]) (aN rfl _ _ (w.1.size + 1) 73 _ _ _ _ rfl (aB _ _ _ _ _ _ H8.out.1) Tryz.underlying73 rfl (by kernel_rfl) rfl) rfl ?_;refine ⟨_, by rw [HE.out.2], ?_, below_setRow H8.out.2.1 _ _ (by omega)⟩;rw [HE.out.1];exact bL.keep (w := w8) (S := fun b => wN.1.size ≤ b) H8.out.2.2.2 (fun b' hb' _ => setRow_other _ _ _ _ (by omega)) (fun b' _ hb' => by omega)
 ·have hz1 := hb1.size
  simp only [aD] at hz1;have hr1 := (hb1.block (w.1.size + 1) (by simp)).trans HA.out.2.2;have hB1 : Below w.1.size w w1 := HA.out.1.trans (hb1.mono (by simp; omega));have hrule : dx k b = 4 := by unfold dx; rw [if_neg (by omega)]
  have hfr : bC k b = none := by unfold bC; rw [if_neg (by omega)]
  have hh2 : ((w1.alloc (.cells #[.string ⟨#[]⟩, .nilFunc, .nilFunc, .nilFunc, .nilFunc, .nilFunc] 150)).setRow w1.1.size #[.string ⟨#[]⟩, .nilFunc, .nilFunc, .nilFunc, .nilFunc, .nilFunc]).1[w.1.size + 1]? = some (.cells #[.int .i64 0, .int .u64 0, .int .u64 0, .int .u64 0, .int .u64 0, .int .u64 0, .int .i64 0, .int .u64 0, .int .u64 0, .slice none 0 0, .slice none 0 0] 73 (0, 0)) := (setRow_other _ _ _ _ (by omega)).trans ((aL _ _ _ (by omega)).trans hr1);have hB2 : Below w.1.size w ((w1.alloc (.cells #[.string ⟨#[]⟩, .nilFunc, .nilFunc, .nilFunc, .nilFunc, .nilFunc] 150)).setRow w1.1.size #[.string ⟨#[]⟩, .nilFunc, .nilFunc, .nilFunc, .nilFunc, .nilFunc]) := below_setRow (hB1.alloc (by omega) _) _ _ (by omega);have H2 := hid (au hh2 (au hB2 (au hrule hfr)));clear hb1 hr1 hB1 hrule hfr hh2 hB2 hn
  go_upto_region 2 with (refine wpList_store_row rfl 150 (.tmp 4) (.tmp 13) rfl rfl w1.1.size rfl #[.string ⟨#[]⟩, .nilFunc, .nilFunc, .nilFunc, .nilFunc, .nilFunc] rfl 150 #[.string ⟨#[]⟩, .nilFunc, .nilFunc, .nilFunc, .nilFunc, .nilFunc] (aK _ _ _ rfl) (by kernel_rfl) rfl (by simp [Value.oneCell']) ?_)
  generalize (w1.alloc (.cells #[.string ⟨#[]⟩, .nilFunc, .nilFunc, .nilFunc, .nilFunc, .nilFunc] 150)).setRow w1.1.size #[.string ⟨#[]⟩, .nilFunc, .nilFunc, .nilFunc, .nilFunc, .nilFunc] = W2 at H2 ⊢
  go_wp2_with (refine wpList_store_row rfl 73 (.tmp 2) (.tmp 17) rfl rfl (w.1.size + 1) rfl #[.int .i64 0, .int .u64 0, .int .u64 0, .int .u64 0, .int .u64 0, .int .u64 0, .int .i64 0, .int .u64 0, .int .u64 0, .slice none 0 0, .slice none 0 0] rfl 73 #[.int .i64 0, .int .u64 0, .int .u64 0, .int .u64 0, .int .u64 0, .int .u64 0, .int .i64 0, .int .u64 0, .int .u64 0, .slice none 0 0, .slice none 0 0] H2.out.1 (by kernel_rfl) rfl (by simp [Value.oneCell']) ?_)
  exact aC (v := .tuple #[.agg #[.int .i64 0, .int .u64 0, .int .u64 0, .int .u64 0, .int .u64 0, .int .u64 0, .int .i64 0, .int .u64 0, .int .u64 0, .slice none 0 0, .slice none 0 0], .int .i64 4]) (aN rfl _ _ (w.1.size + 1) 73 _ _ _ _ rfl (aB _ _ _ _ _ _ H2.out.1) Tryz.underlying73 rfl (by kernel_rfl) rfl) rfl (eQ H2.out.2.2.2 H2.out.2.2.1 (below_setRow H2.out.2.1 _ _ (by omega)))
theorem xm (S : Nat → Prop) (own : Bool) (k : Nat) (b : List UInt8) (pv : Value) (w : World) (hk : k < 256) (hb : b.length ≤ 100000) (hv : aO w S own b pv) :
  Calls Tryz.prog 37 #[.agg #[.int .u8 (k : Nat), pv]] w (gQ k b w) := oz S own k (CQ k) b pv w hk hb hv
theorem mH (S : Nat → Prop) (own : Bool) (k : Nat) (h16 : k = 1 ∨ k = 6) (b : List UInt8) (pv : Value) (w : World) (hb : b.length ≤ 100000) (hv : aO w S own b pv) :
  Calls Tryz.prog 37 #[.agg #[.int .u8 (k : Nat), pv]] w (gQ k b w) := by
 refine oz S own k (fun _ _ => ?_) b pv w (by omega) hb hv;rcases h16 with rfl | rfl
 ·exact ⟨100, rfl, (fun _ _ => by kernel_rfl), jf 1 (by omega)⟩
 ·exact ⟨100, rfl, (fun _ _ => by kernel_rfl), jf 6 (by omega)⟩
end Go.Proofs.YtlpgokcapdjgjaaGreatDoor
