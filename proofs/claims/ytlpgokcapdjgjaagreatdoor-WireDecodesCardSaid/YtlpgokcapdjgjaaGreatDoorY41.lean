/- Walks. -/
import Derived.Test.YtlpgokcapdjgjaaGreatDoorY82
set_option maxHeartbeats 8000000
set_option maxRecDepth 100000
namespace Go.Proofs.YtlpgokcapdjgjaaGreatDoor
open Go.RowKit Go
set_option linter.unusedVariables false
set_option linter.unusedSimpArgs false
theorem FQ (s : Option (List UInt8)) (f : Bool) : (jw s f).1.ok := ⟨fC _, (qL _).1, (qL _).2⟩
theorem yQ : ∀ (n : Nat) (s : Option (List UInt8)) (f : Bool), ∀ e ∈ (bZ n s f).1, e.ok
 | 0, s, f, e, h => by simp [bZ] at h
 | n + 1, none, f, e, h => by simp [bZ] at h
 | n + 1, some l, f, e, h => by
  simp only [bZ, List.mem_cons] at h;rcases h with rfl | h
  ·exact FQ _ _
  ·exact yQ n _ _ e h
theorem CO {r r' : List UInt8} {v : Nat} (h : bG (some r) = (v, some r')) : r'.length < r.length := by
 cases h1 : bf r with
 | none => rw [di h1] at h; simp at h
 | some x => obtain ⟨y, r2⟩ := x; rw [aY h1] at h; simp only [Prod.mk.injEq, Option.some.injEq] at h; have := dX h1; rw [← h.2]; omega
theorem iB {s : Option (List UInt8)} {v : Nat} {r' : List UInt8} (h : bG s = (v, some r')) : ∃ r, s = some r ∧ r'.length < r.length := by
 cases s with
 | none => simp [bG] at h
 | some r => exact ⟨r, rfl, CO h⟩
theorem CP {r r' : List UInt8} {f : Bool} (h : (jw (some r) f).2.1 = some r') : r'.length < r.length := by
 unfold jw at h;simp only at h;unfold dF at h;cases h2 : (iX (bG (some r)).2).2 with
 | none => rw [h2] at h; simp at h
 | some r3 =>
  rw [h2] at h;simp only at h;split at h
  ·injection h with h
   unfold iX at h2;simp only at h2;obtain ⟨q2, e2, l2⟩ := iB (v := (bG (bG (bG (some r)).2).2).1) (r' := r3) (by rw [← h2]);obtain ⟨q1, e1, l1⟩ := iB (v := (bG (bG (some r)).2).1) (r' := q2) (by rw [← e2]);obtain ⟨q0, e0, l0⟩ := iB (v := (bG (some r)).1) (r' := q1) (by rw [← e1]);injection e0 with e0
   rw [← h]; simp; rw [e0]; omega
  ·simp at h
structure EnR (n0 : Nat) (s0 : Option (List UInt8)) (f0 : Bool) (pb rb base : Nat) (l : List UInt8) (sv : Value) (w0 : World) (m : Nat) (sl : Value) (wr : World) : Prop where
 ex : ∃ (es : List Ent) (s : Option (List UInt8)) (f : Bool), es ++ (bZ m s f).1 = (bZ n0 s0 f0).1 ∧ (bZ m s f).2 = (bZ n0 s0 f0).2 ∧ RdS wr pb rb l sv s f ∧ wr.ownsRow base 135 4 sl es.length (aZ es) ∧ (∀ r, s = some r → r.length + es.length ≤ l.length) ∧ es.length ≤ l.length + 1
 rk : Rk (fun b => b = rb ∨ b = pb) w0 wr
theorem Gn {w w' : World} {rb pb : Nat} (h : Rg rb w w') : Rk (fun b => b = rb ∨ b = pb) w w' := ⟨h.os, h.tape, h.output, h.size, fun b hb hn => h.keep b hb (fun e => hn (.inl e))⟩
theorem FR {w w' : World} {base rb pb n : Nat} {T : TypeId} {v : Value} {xs : List Value} (h : w.ownsRow base T 4 v n xs) (hk : Rk (fun b => b = rb ∨ b = pb) w w') (hb : rb < base ∧ pb < base) : w'.ownsRow base T 4 v n xs :=
 iE h (fun b hb2 hl => hk.keep b hl (by omega))
theorem uL (pb rb : Nat) (l : List UInt8) (sv : Value) (s s1 : Option (List UInt8)) (f : Bool) (n : Nat) (w : World) (hl : l.length ≤ 100000) (h : RdS w pb rb l sv s f) (hn : bG s = (n, s1)) :
  Calls Tryz.prog 168 #[.pointer (some ⟨pb, 0, none⟩)] w fun e w' => ∃ v, e = .returned v ∧ fQ w' (fun b => w.1.size ≤ b) true (bZ n s1 f).1 v ∧ RdS w' pb rb l sv (bZ n s1 f).2.1 (bZ n s1 f).2.2 ∧ Rk (fun b => b = rb ∨ b = pb) w w' := by
 obtain ⟨i0, hi0, hz0, hz1, hz2⟩ := info_parts FB;have HI := hid (au hi0 (au hz0 (au hz1 hz2)));clear hi0 hz0 hz1 hz2;have c0 := h.c0;have hplt := h.plt;have hrlt := h.lt;have hn64 : n < 18446744073709551616 := by have := fC s; rw [hn] at this; exact this
 obtain ⟨base, hbase⟩ : ∃ base, base = w.1.size := ⟨_, rfl⟩;have HBS := hid hbase;have H := hid (au h hn);rw [← hbase];have hpb : rb < base ∧ pb < base := by omega
 clear h hn hbase
 go_enter Tryz.func168, Tryz.ntmps168
 go_wp2_with fail;refine (gH rb l sv s s1 n w H.out.1.vr H.out.2).mono ?_;rintro e w1 ⟨rfl, hs1, hg1⟩;have H1 := hid (au (H.out.1.step hs1 hg1) (Gn (pb := pb) hg1));have HS1 : Hid (∀ r, s1 = some r → r.length ≤ l.length) := hid (fun r hr => by have h1 := hs1; rw [hr] at h1; exact h1.left);clear hs1 hg1 c0;go_wp2_with fail
 go_loopw [2, 3] (fun sl nn wr => ∃ m : Nat, m ≤ n ∧ nn = .int .u64 (m : Nat) ∧ EnR n s1 f pb rb base l sv w m sl wr) (fun _ nn _ => (intOf nn).toNat)
 case atStart => exact ⟨n, Nat.le_refl _, rfl, ⟨[], s1, f, rfl, rfl, H1.out.1, World.ownsRow_nil _ _ _ _, fun r hr => by simpa using HS1.out r hr, by simp⟩, H1.out.2⟩
 case round =>
  obtain ⟨m, hmn, rfl, ⟨es, sj, fj, he1, he2, hrd, hown, hle, hll⟩, hrk⟩ := hrel;obtain ⟨j, hj⟩ : ∃ j, j = es.length := ⟨_, rfl⟩;rw [← hj] at hown hll;obtain ⟨sa, sc, rfl⟩ := aQ hown;have c0 := hrd.c0;have hplt2 := hrd.plt;have hwb : base ≤ wr.1.size := by have := hrk.size; have := HBS.out; omega
  have HO := hid (au he1 (au he2 (au hrd (au hown (au hle hrk)))));have HJ := hid hj;clear he1 he2 hrd hown hle hrk hj;by_cases hm : m = 0
  ·subst hm
   have HD : Hid (es = (bZ n s1 f).1 ∧ (bZ n s1 f).2.1 = sj ∧ (bZ n s1 f).2.2 = fj) := hid (by
    have h1 := HO.out.1;have h2 := HO.out.2.1;simp only [bZ, List.append_nil] at h1 h2;rw [← h2]; exact ⟨h1, rfl, rfl⟩)
   go_wp2_with fail;go_ret
   refine ⟨_, rfl, ?_, ?_, HO.out.2.2.2.2.2⟩
   ·have hq := HO.out.2.2.2.1
    rw [HJ.out] at hq ⊢;rw [← HD.out.1];exact Sl.keep (Sl.of_owns hq (by omega)) (by omega) (fun _ _ _ => rfl) (fun b _ hb => hb.2)
   ·rw [HD.out.2.1, HD.out.2.2]; exact HO.out.2.2.1
  ·have t1 : decide ((0 : Int) < (m : Int)) = true := by simp; omega
   cases sj with
   | none =>
    have HD : Hid (es = (bZ n s1 f).1 ∧ (bZ n s1 f).2.1 = none ∧ (bZ n s1 f).2.2 = fj) := hid (by
     have h1 := HO.out.1;have h2 := HO.out.2.1;rw [gK] at h1 h2;simp only [List.append_nil] at h1;rw [← h2]; exact ⟨h1, rfl, rfl⟩)
    go_wp2_with fail;refine (je rb l sv none wr HO.out.2.2.1.vr).mono ?_;rintro e w0 ⟨ev, rfl, hev, rfl⟩;have hev2 : (ev == 0) = false := by
     have : ¬ ev = 0 := fun h => by simpa using hev.1 h
     simpa using this
    clear hev;go_wp2_with fail;go_ret
    refine ⟨_, rfl, ?_, ?_, HO.out.2.2.2.2.2⟩
    ·have hq := HO.out.2.2.2.1
     rw [HJ.out] at hq ⊢;rw [← HD.out.1];exact Sl.keep (Sl.of_owns hq (by omega)) (by omega) (fun _ _ _ => rfl) (fun b _ hb => hb.2)
    ·rw [HD.out.2.1, HD.out.2.2]; exact HO.out.2.2.1
   | some r =>
    obtain ⟨m, rfl⟩ : ∃ k, m = k + 1 := ⟨m - 1, by omega⟩;clear hm;obtain ⟨x, sx, hx⟩ : ∃ x s, bG (some r) = (x, s) := ⟨_, _, rfl⟩;obtain ⟨a, b, sy, hv⟩ : ∃ a b s, iX sx = ((a, b), s) := ⟨_, _, _, rfl⟩;obtain ⟨p, sz, hp⟩ : ∃ p s, dF 1 sy = (p, s) := ⟨_, _, rfl⟩;obtain ⟨mo, hmo⟩ : ∃ mo, mo = bP p := ⟨_, rfl⟩;obtain ⟨fo, hfo⟩ : ∃ fo, fo = (fj || bq p) := ⟨_, rfl⟩;have HMO := hid (au hmo hfo);have he : jw (some r) fj = (⟨x, a, b, mo⟩, sz, fo) := (by unfold jw; simp only [hx, hv, hp, hmo, hfo]);clear hmo hfo;have hjl : j + 1 ≤ l.length + 1 := (by have := HO.out.2.2.2.2.1 r rfl; have := HJ.out; omega);have HE : Hid (es ++ (⟨x, a, b, mo⟩ : Ent) :: (bZ m sz fo).1 = (bZ n s1 f).1 ∧ (bZ m sz fo).2 = (bZ n s1 f).2 ∧ (∀ r2, sz = some r2 → r2.length + (j + 1) ≤ l.length) ∧ (p = [] ∨ ∃ c, p = [c])) := hid (by
     have h1 := HO.out.1;have h2 := HO.out.2.1;simp only [bZ, he] at h1 h2;refine ⟨h1, h2, fun r2 hr2 => ?_, ?_⟩
     ·have h3 := CP (r := r) (r' := r2) (f := fj) (by rw [he]; exact hr2)
      have := HO.out.2.2.2.2.1 r rfl;have := HJ.out;omega
     ·unfold dF at hp
      cases sy with
      | none => simp only [Prod.mk.injEq] at hp; exact .inl hp.1.symm
      | some q =>
       simp only at hp;split at hp
       ·simp only [Prod.mk.injEq] at hp
        cases q with
        | nil => simp at hp; exact .inl hp.1
        | cons c q => simp at hp; exact .inr ⟨c, hp.1.symm⟩
       ·simp only [Prod.mk.injEq] at hp; exact .inl hp.1.symm)
    have hax := fC (some r);rw [hx] at hax;have hab := qL sx;rw [hv] at hab;have HX := hid (au hx (au hv hp));have HLT := hid (au hax hab);clear hx hv hp he hax hab;go_wp2_with fail;refine (je rb l sv (some r) wr HO.out.2.2.1.vr).mono ?_;rintro e w0 ⟨ev, rfl, hev, rfl⟩;obtain rfl : ev = 0 := hev.2 rfl;clear hev;go_wp2_with fail;refine (gH rb l sv (some r) sx x wr HO.out.2.2.1.vr HX.out.1).mono ?_;rintro e w1 ⟨rfl, hs1, hg1⟩;have HR1 := hid (au (HO.out.2.2.1.step hs1 hg1) hg1);clear hs1 hg1 c0;go_wp2_with fail;refine (mG pb rb l sv sx sy fj a b w1 HR1.out.1 HX.out.2.1).mono ?_;rintro e w2 ⟨rfl, hs2, hg2⟩;have hb2 : Below w2.1.size w2 (w2.alloc (.cells #[.int .u64 (x : Nat), .int .u64 (a : Nat), .int .u64 (b : Nat), .bool false] 135)) := br.alloc nl _;have hrd2 := (HR1.out.1.step hs2 hg2).below hb2;have c0 := hrd2.c0;have HR2 := hid (au hrd2 (HR1.out.2.trans hg2));have HB2 := hid hb2;clear hs2 hg2 hrd2 hb2;go_wp2_with fail;refine (sU rb 1 l sv sy _ HR2.out.1.vr (by omega)).mono ?_;rintro e w3 ⟨u, rfl, hs3, hg3, ho3⟩;rw [HX.out.2.2] at hs3 ho3;simp only at hs3 ho3;obtain ⟨ua, uc, rfl⟩ := aQ ho3;have hz3 := hg3.size;simp only [aD] at hz3 ho3;have hrd3 := HR2.out.1.step hs3 hg3;obtain ⟨c1, f1⟩ := hrd3.c1;have hz2 := HR2.out.2.size;have hx3 : w3.1[w2.1.size]? = some (.cells #[.int .u64 (x : Nat), .int .u64 (a : Nat), .int .u64 (b : Nat), .bool false] 135 (0, 0)) := (hg3.keep _ (by simp) (by omega)).trans (aK _ _ _ rfl);have x3 : w3.cell? ⟨w2.1.size, 3, none⟩ = some (.bool false) := (by rw [ax w3 _ 3 _ _ _ hx3]; rfl);have fx3 : w3.frozen? ⟨w2.1.size, 3, none⟩ = false := (by rw [aA w3 _ 3 _ _ hx3]);have hpw : pb < w2.1.size := (by omega);have hpw2 : ¬ pb = w2.1.size := (by omega);have hpw3 : ¬ w2.1.size = pb := (by omega);have hrg3 : Rg rb wr w3 := (HR2.out.2.trans (Rg.of_below HB2.out)).trans hg3;have H3 := hid (au hrd3 (au hx3 (au hrg3 ho3)));clear hs3 hg3 ho3 hrd3 hx3 hrg3 c0;have hfin : ∀ (fb mb : Bool) (W4 : World), fb = fo → mb = mo → W4 = (w3.setCell ⟨pb, 1, none⟩ (.bool fb)).setCell ⟨w2.1.size, 3, none⟩ (.bool mb) →
      w3.1.size ≤ W4.1.size ∧ W4.1[w2.1.size]? = some (.cells (eY ⟨x, a, b, mb⟩) 135 (0, 0)) ∧ RdS W4 pb rb l sv sz fb ∧ W4.ownsRow base 135 4 (.slice sa j sc) j (aZ es) ∧ Rk (fun b => b = rb ∨ b = pb) w W4 := by
     intro fb mb W4 hfb hmb hW4;have hkp : ∀ b, b < w3.1.size → b ≠ pb → b ≠ w2.1.size → W4.1[b]? = w3.1[b]? := fun b hb hn hn2 => by
      rw [hW4];exact (ay _ _ _ _ (by simpa using hn2)).trans (ay _ _ _ _ (by simpa using hn))
     have hz4 : W4.1.size = w3.1.size := (by rw [hW4]; simp);have hkr : Rk (fun b => b = rb ∨ b = pb) wr W4 := by
      refine yP (Gn H3.out.2.2.1) (by omega) (by rw [hW4]; exact ⟨rfl, rfl, rfl⟩) (fun b hb hn hl => hkp b hb hn (by omega))
     refine ⟨by omega, ?_, ⟨?_, H3.out.1.vr.keep (fun b hb => hkp b (by omega) (by omega) (by omega)), hrlt⟩, ?_, HO.out.2.2.2.2.2.trans hkr⟩
     ·rw [hW4]
      exact aM ((ay _ _ _ _ (by simp; omega)).trans H3.out.2.1) rfl
     ·rw [hW4]
      exact (ay _ _ _ _ (by simp; omega)).trans (aM H3.out.1.hd rfl)
     ·exact FR HO.out.2.2.2.1 hkr hpb
    have HF := hid hfin;clear hfin;rcases HE.out.2.2.2 with hp0 | ⟨c, hpc⟩
    ·subst hp0
     cases fj with
     | true =>
      have HFF := hid (HF.out true false _ (HMO.out.2.trans (show true = (true || bq []) from rfl).symm).symm (HMO.out.1.trans (show false = bP [] from rfl).symm).symm rfl)
      go_upto_region 8 with fail
      generalize (w3.setCell ⟨pb, 1, none⟩ (.bool true)).setCell ⟨w2.1.size, 3, none⟩ (.bool false) = W4 at HFF ⊢;have HO4 := HFF;have hz4 := HO4.out.1;have hob := HO4.out.2.2.2.1.lt;have hx4 := HO4.out.2.1;have e0 : W4.cell? ⟨w2.1.size, 0, none⟩ = some (.int .u64 (x : Nat)) := (by rw [ax W4 _ 0 _ _ _ hx4]; rfl);have e1 : W4.cell? ⟨w2.1.size, 1, none⟩ = some (.int .u64 (a : Nat)) := (by rw [ax W4 _ 1 _ _ _ hx4]; rfl);have e2 : W4.cell? ⟨w2.1.size, 2, none⟩ = some (.int .u64 (b : Nat)) := (by rw [ax W4 _ 2 _ _ _ hx4]; rfl);have e3 : W4.cell? ⟨w2.1.size, 3, none⟩ = some (.bool false) := (by rw [ax W4 _ 3 _ _ _ hx4]; rfl);clear hx4 c1 f1 x3 fx3
      go_wp2_with (at_builtin; go_loud (refine wpList_append_lies _ rfl (.tmp 64) (.tmp 66) 71 rfl base 135 i0 _ 4 32 Tryz.underlying71 HI.out.1 HI.out.2.1 HI.out.2.2.1 HI.out.2.2.2 rfl (by omega) (.slice sa j sc) j (aZ es) rfl (HO4.out.2.2.2.1.alloc _) ⟨W4.1.size, 0, none⟩ 1 1 (eY (⟨x, a, b, false⟩ : Ent)).toList rfl rfl (World.news_of_block (cs := eY (⟨x, a, b, false⟩ : Ent)) (t := 135) (fr := (0, 0)) (aK _ _ _ rfl)) (by simp [eY, Ent.cells, Value.oneCell']) (by omega) (by unfold maxLen; omega) (by omega) (by simp; omega) (W4.1.size + 1) (by simp) ?_); intro gg gcap w6 hown2 hgrow hat hlt2)
      have HE2 : Hid (mo = false ∧ fo = true) := hid ⟨HMO.out.1.trans (show false = bP [] from rfl).symm, HMO.out.2.trans (show true = (true || bq []) from rfl).symm⟩;have H6 := hid (au hown2 hgrow);clear hown2 hgrow hat;have hwm : IntKind.u64.wrap (((m + 1 : Nat) : Int) - 1) = (m : Int) := (by rw [IntKind.wrap_u64]; omega);go_wp2_with fail;go_roundw
      case rel =>
       have hfar : ∀ b, b < W4.1.size → b < base → w6.1[b]? = W4.1[b]? := fun b hb hbb => (H6.out.2.block _ (by simp; omega) (fun e => by have := (hob _ e.symm).1; omega)).trans (aL _ _ _ hb)
       have hz6 := H6.out.2.size;simp only [aD] at hz6;refine ⟨m, by omega, by go_num, ⟨es ++ [⟨x, a, b, false⟩], sz, true, ?_, ?_, ?_, ?_, ?_, ?_⟩, ?_⟩
       ·have h1 := HE.out.1
        rw [HE2.out.1, HE2.out.2] at h1;rw [List.append_assoc]; exact h1
       ·have h1 := HE.out.2.1
        rw [HE2.out.2] at h1; exact h1
       ·exact HO4.out.2.2.1.keep (fun b hb => hfar b (by omega) (by omega))
       ·have h1 := H6.out.1
        rw [← gB, HJ.out] at h1;have e7 : (es ++ [(⟨x, a, b, false⟩ : Ent)]).length = es.length + 1 := (by simp);rw [e7]; rw [HJ.out]; exact h1
       ·intro r2 hr2
        have := HE.out.2.2.1 r2 hr2;have := HJ.out;simp only [aI, aJ, List.length_nil]; omega
       ·have := HJ.out
        simp only [aI, aJ, List.length_nil]; omega
       ·have hk4 := HO4.out.2.2.2.2
        have hs4 := hk4.size;have hbw := HBS.out;exact ⟨H6.out.2.os.trans hk4.os, H6.out.2.tape.trans hk4.tape, H6.out.2.output.trans hk4.output, by omega, fun b hb hn => (hfar b (by omega) (by omega)).trans (hk4.keep b hb hn)⟩
      case measure => simp [intOf]
     | false =>
      have HFF := hid (HF.out true false _ (HMO.out.2.trans (show true = (false || bq []) from rfl).symm).symm (HMO.out.1.trans (show false = bP [] from rfl).symm).symm rfl)
      go_upto_region 8 with fail
      generalize (w3.setCell ⟨pb, 1, none⟩ (.bool true)).setCell ⟨w2.1.size, 3, none⟩ (.bool false) = W4 at HFF ⊢;have HO4 := HFF;have hz4 := HO4.out.1;have hob := HO4.out.2.2.2.1.lt;have hx4 := HO4.out.2.1;have e0 : W4.cell? ⟨w2.1.size, 0, none⟩ = some (.int .u64 (x : Nat)) := (by rw [ax W4 _ 0 _ _ _ hx4]; rfl);have e1 : W4.cell? ⟨w2.1.size, 1, none⟩ = some (.int .u64 (a : Nat)) := (by rw [ax W4 _ 1 _ _ _ hx4]; rfl);have e2 : W4.cell? ⟨w2.1.size, 2, none⟩ = some (.int .u64 (b : Nat)) := (by rw [ax W4 _ 2 _ _ _ hx4]; rfl);have e3 : W4.cell? ⟨w2.1.size, 3, none⟩ = some (.bool false) := (by rw [ax W4 _ 3 _ _ _ hx4]; rfl);clear hx4 c1 f1 x3 fx3
      go_wp2_with (at_builtin; go_loud (refine wpList_append_lies _ rfl (.tmp 64) (.tmp 66) 71 rfl base 135 i0 _ 4 32 Tryz.underlying71 HI.out.1 HI.out.2.1 HI.out.2.2.1 HI.out.2.2.2 rfl (by omega) (.slice sa j sc) j (aZ es) rfl (HO4.out.2.2.2.1.alloc _) ⟨W4.1.size, 0, none⟩ 1 1 (eY (⟨x, a, b, false⟩ : Ent)).toList rfl rfl (World.news_of_block (cs := eY (⟨x, a, b, false⟩ : Ent)) (t := 135) (fr := (0, 0)) (aK _ _ _ rfl)) (by simp [eY, Ent.cells, Value.oneCell']) (by omega) (by unfold maxLen; omega) (by omega) (by simp; omega) (W4.1.size + 1) (by simp) ?_); intro gg gcap w6 hown2 hgrow hat hlt2)
      have HE2 : Hid (mo = false ∧ fo = true) := hid ⟨HMO.out.1.trans (show false = bP [] from rfl).symm, HMO.out.2.trans (show true = (false || bq []) from rfl).symm⟩;have H6 := hid (au hown2 hgrow);clear hown2 hgrow hat;have hwm : IntKind.u64.wrap (((m + 1 : Nat) : Int) - 1) = (m : Int) := (by rw [IntKind.wrap_u64]; omega);go_wp2_with fail;go_roundw
      case rel =>
       have hfar : ∀ b, b < W4.1.size → b < base → w6.1[b]? = W4.1[b]? := fun b hb hbb => (H6.out.2.block _ (by simp; omega) (fun e => by have := (hob _ e.symm).1; omega)).trans (aL _ _ _ hb)
       have hz6 := H6.out.2.size;simp only [aD] at hz6;refine ⟨m, by omega, by go_num, ⟨es ++ [⟨x, a, b, false⟩], sz, true, ?_, ?_, ?_, ?_, ?_, ?_⟩, ?_⟩
       ·have h1 := HE.out.1
        rw [HE2.out.1, HE2.out.2] at h1;rw [List.append_assoc]; exact h1
       ·have h1 := HE.out.2.1
        rw [HE2.out.2] at h1; exact h1
       ·exact HO4.out.2.2.1.keep (fun b hb => hfar b (by omega) (by omega))
       ·have h1 := H6.out.1
        rw [← gB, HJ.out] at h1;have e7 : (es ++ [(⟨x, a, b, false⟩ : Ent)]).length = es.length + 1 := (by simp);rw [e7]; rw [HJ.out]; exact h1
       ·intro r2 hr2
        have := HE.out.2.2.1 r2 hr2;have := HJ.out;simp only [aI, aJ, List.length_nil]; omega
       ·have := HJ.out
        simp only [aI, aJ, List.length_nil]; omega
       ·have hk4 := HO4.out.2.2.2.2
        have hs4 := hk4.size;have hbw := HBS.out;exact ⟨H6.out.2.os.trans hk4.os, H6.out.2.tape.trans hk4.tape, H6.out.2.output.trans hk4.output, by omega, fun b hb hn => (hfar b (by omega) (by omega)).trans (hk4.keep b hb hn)⟩
      case measure => simp [intOf]
    ·subst hpc
     obtain ⟨bb, boff, rfl, _, hcc⟩ := (aO.of_owns H3.out.2.2.2).cell (by simp);have u0 := (hcc 0 (by simp)).1;simp only [Nat.add_zero, List.getElem_cons_zero] at u0;have hc256 := c.toNat_lt;have u0' : w3.cell? ⟨bb, boff, none⟩ = some (.int .u8 (c.toNat : Int)) := u0;have hbb : bb ≠ pb ∧ bb ≠ w2.1.size ∧ bb < w3.1.size := by
      obtain ⟨hl, hx⟩ := H3.out.2.2.2;rcases hx with ⟨hx, _⟩ | ⟨g, cap, cur, hx, hg, hh, _⟩
      ·cases hx
      ·injection hx with hx; injection hx with hx; injection hx with hx
       have := (ak hh).1;omega
     have u1 : ((w3.setCell ⟨pb, 1, none⟩ (.bool true))).cell? ⟨bb, boff, none⟩ = some (.int .u8 (c.toNat : Int)) := by
      rw [World.cell?_of_block (w := w3) (a := ⟨bb, boff, none⟩) (ay _ _ _ _ (by simpa using hbb.1))]; exact u0'
     have u2 : ((w3.setCell ⟨pb, 1, none⟩ (.bool false))).cell? ⟨bb, boff, none⟩ = some (.int .u8 (c.toNat : Int)) := by
      rw [World.cell?_of_block (w := w3) (a := ⟨bb, boff, none⟩) (ay _ _ _ _ (by simpa using hbb.1))]; exact u0'
     clear hcc u0;have hc4 : c.toNat = 0 ∨ c.toNat = 1 ∨ 1 < c.toNat := (by omega);cases fj with
     | true =>
      rcases hc4 with h0 | h1 | h2
      ·have ta : ((c.toNat : Int) == 1) = false := by simp; omega
       have tb : decide ((1 : Int) < (c.toNat : Int)) = false := (by simp; omega);have HFF := hid (HF.out true false _ (HMO.out.2.trans (show true = (true || bq [c]) from by simp [bq] <;> omega).symm).symm (HMO.out.1.trans (show false = bP [c] from by simp [bP] <;> omega).symm).symm rfl)
       go_upto_region 8 with fail
       generalize (w3.setCell ⟨pb, 1, none⟩ (.bool true)).setCell ⟨w2.1.size, 3, none⟩ (.bool false) = W4 at HFF ⊢;have HO4 := HFF;have hz4 := HO4.out.1;have hob := HO4.out.2.2.2.1.lt;have hx4 := HO4.out.2.1;have e0 : W4.cell? ⟨w2.1.size, 0, none⟩ = some (.int .u64 (x : Nat)) := (by rw [ax W4 _ 0 _ _ _ hx4]; rfl);have e1 : W4.cell? ⟨w2.1.size, 1, none⟩ = some (.int .u64 (a : Nat)) := (by rw [ax W4 _ 1 _ _ _ hx4]; rfl);have e2 : W4.cell? ⟨w2.1.size, 2, none⟩ = some (.int .u64 (b : Nat)) := (by rw [ax W4 _ 2 _ _ _ hx4]; rfl);have e3 : W4.cell? ⟨w2.1.size, 3, none⟩ = some (.bool false) := (by rw [ax W4 _ 3 _ _ _ hx4]; rfl);clear hx4 c1 f1 x3 fx3 u0' u1 u2
       go_wp2_with (at_builtin; go_loud (refine wpList_append_lies _ rfl (.tmp 64) (.tmp 66) 71 rfl base 135 i0 _ 4 32 Tryz.underlying71 HI.out.1 HI.out.2.1 HI.out.2.2.1 HI.out.2.2.2 rfl (by omega) (.slice sa j sc) j (aZ es) rfl (HO4.out.2.2.2.1.alloc _) ⟨W4.1.size, 0, none⟩ 1 1 (eY (⟨x, a, b, false⟩ : Ent)).toList rfl rfl (World.news_of_block (cs := eY (⟨x, a, b, false⟩ : Ent)) (t := 135) (fr := (0, 0)) (aK _ _ _ rfl)) (by simp [eY, Ent.cells, Value.oneCell']) (by omega) (by unfold maxLen; omega) (by omega) (by simp; omega) (W4.1.size + 1) (by simp) ?_); intro gg gcap w6 hown2 hgrow hat hlt2)
       have HE2 : Hid (mo = false ∧ fo = true) := hid ⟨HMO.out.1.trans (show false = bP [c] from by simp [bP] <;> omega).symm, HMO.out.2.trans (show true = (true || bq [c]) from by simp [bq] <;> omega).symm⟩;have H6 := hid (au hown2 hgrow);clear hown2 hgrow hat;have hwm : IntKind.u64.wrap (((m + 1 : Nat) : Int) - 1) = (m : Int) := (by rw [IntKind.wrap_u64]; omega);go_wp2_with fail;go_roundw
       case rel =>
        have hfar : ∀ b, b < W4.1.size → b < base → w6.1[b]? = W4.1[b]? := fun b hb hbb => (H6.out.2.block _ (by simp; omega) (fun e => by have := (hob _ e.symm).1; omega)).trans (aL _ _ _ hb)
        have hz6 := H6.out.2.size;simp only [aD] at hz6;refine ⟨m, by omega, by go_num, ⟨es ++ [⟨x, a, b, false⟩], sz, true, ?_, ?_, ?_, ?_, ?_, ?_⟩, ?_⟩
        ·have h1 := HE.out.1
         rw [HE2.out.1, HE2.out.2] at h1;rw [List.append_assoc]; exact h1
        ·have h1 := HE.out.2.1
         rw [HE2.out.2] at h1; exact h1
        ·exact HO4.out.2.2.1.keep (fun b hb => hfar b (by omega) (by omega))
        ·have h1 := H6.out.1
         rw [← gB, HJ.out] at h1;have e7 : (es ++ [(⟨x, a, b, false⟩ : Ent)]).length = es.length + 1 := (by simp);rw [e7]; rw [HJ.out]; exact h1
        ·intro r2 hr2
         have := HE.out.2.2.1 r2 hr2;have := HJ.out;simp only [aI, aJ, List.length_nil]; omega
        ·have := HJ.out
         simp only [aI, aJ, List.length_nil]; omega
        ·have hk4 := HO4.out.2.2.2.2
         have hs4 := hk4.size;have hbw := HBS.out;exact ⟨H6.out.2.os.trans hk4.os, H6.out.2.tape.trans hk4.tape, H6.out.2.output.trans hk4.output, by omega, fun b hb hn => (hfar b (by omega) (by omega)).trans (hk4.keep b hb hn)⟩
       case measure => simp [intOf]
      ·have ta : ((c.toNat : Int) == 1) = true := by simp; omega
       have tb : decide ((1 : Int) < (c.toNat : Int)) = false := (by simp; omega);have HFF := hid (HF.out true true _ (HMO.out.2.trans (show true = (true || bq [c]) from by simp [bq] <;> omega).symm).symm (HMO.out.1.trans (show true = bP [c] from by simp [bP] <;> omega).symm).symm rfl)
       go_upto_region 8 with fail
       generalize (w3.setCell ⟨pb, 1, none⟩ (.bool true)).setCell ⟨w2.1.size, 3, none⟩ (.bool true) = W4 at HFF ⊢;have HO4 := HFF;have hz4 := HO4.out.1;have hob := HO4.out.2.2.2.1.lt;have hx4 := HO4.out.2.1;have e0 : W4.cell? ⟨w2.1.size, 0, none⟩ = some (.int .u64 (x : Nat)) := (by rw [ax W4 _ 0 _ _ _ hx4]; rfl);have e1 : W4.cell? ⟨w2.1.size, 1, none⟩ = some (.int .u64 (a : Nat)) := (by rw [ax W4 _ 1 _ _ _ hx4]; rfl);have e2 : W4.cell? ⟨w2.1.size, 2, none⟩ = some (.int .u64 (b : Nat)) := (by rw [ax W4 _ 2 _ _ _ hx4]; rfl);have e3 : W4.cell? ⟨w2.1.size, 3, none⟩ = some (.bool true) := (by rw [ax W4 _ 3 _ _ _ hx4]; rfl);clear hx4 c1 f1 x3 fx3 u0' u1 u2
       go_wp2_with (at_builtin; go_loud (refine wpList_append_lies _ rfl (.tmp 64) (.tmp 66) 71 rfl base 135 i0 _ 4 32 Tryz.underlying71 HI.out.1 HI.out.2.1 HI.out.2.2.1 HI.out.2.2.2 rfl (by omega) (.slice sa j sc) j (aZ es) rfl (HO4.out.2.2.2.1.alloc _) ⟨W4.1.size, 0, none⟩ 1 1 (eY (⟨x, a, b, true⟩ : Ent)).toList rfl rfl (World.news_of_block (cs := eY (⟨x, a, b, true⟩ : Ent)) (t := 135) (fr := (0, 0)) (aK _ _ _ rfl)) (by simp [eY, Ent.cells, Value.oneCell']) (by omega) (by unfold maxLen; omega) (by omega) (by simp; omega) (W4.1.size + 1) (by simp) ?_); intro gg gcap w6 hown2 hgrow hat hlt2)
       have HE2 : Hid (mo = true ∧ fo = true) := hid ⟨HMO.out.1.trans (show true = bP [c] from by simp [bP] <;> omega).symm, HMO.out.2.trans (show true = (true || bq [c]) from by simp [bq] <;> omega).symm⟩;have H6 := hid (au hown2 hgrow);clear hown2 hgrow hat;have hwm : IntKind.u64.wrap (((m + 1 : Nat) : Int) - 1) = (m : Int) := (by rw [IntKind.wrap_u64]; omega);go_wp2_with fail;go_roundw
       case rel =>
        have hfar : ∀ b, b < W4.1.size → b < base → w6.1[b]? = W4.1[b]? := fun b hb hbb => (H6.out.2.block _ (by simp; omega) (fun e => by have := (hob _ e.symm).1; omega)).trans (aL _ _ _ hb)
        have hz6 := H6.out.2.size;simp only [aD] at hz6;refine ⟨m, by omega, by go_num, ⟨es ++ [⟨x, a, b, true⟩], sz, true, ?_, ?_, ?_, ?_, ?_, ?_⟩, ?_⟩
        ·have h1 := HE.out.1
         rw [HE2.out.1, HE2.out.2] at h1;rw [List.append_assoc]; exact h1
        ·have h1 := HE.out.2.1
         rw [HE2.out.2] at h1; exact h1
        ·exact HO4.out.2.2.1.keep (fun b hb => hfar b (by omega) (by omega))
        ·have h1 := H6.out.1
         rw [← gB, HJ.out] at h1;have e7 : (es ++ [(⟨x, a, b, true⟩ : Ent)]).length = es.length + 1 := (by simp);rw [e7]; rw [HJ.out]; exact h1
        ·intro r2 hr2
         have := HE.out.2.2.1 r2 hr2;have := HJ.out;simp only [aI, aJ, List.length_nil]; omega
        ·have := HJ.out
         simp only [aI, aJ, List.length_nil]; omega
        ·have hk4 := HO4.out.2.2.2.2
         have hs4 := hk4.size;have hbw := HBS.out;exact ⟨H6.out.2.os.trans hk4.os, H6.out.2.tape.trans hk4.tape, H6.out.2.output.trans hk4.output, by omega, fun b hb hn => (hfar b (by omega) (by omega)).trans (hk4.keep b hb hn)⟩
       case measure => simp [intOf]
      ·have ta : ((c.toNat : Int) == 1) = false := by simp; omega
       have tb : decide ((1 : Int) < (c.toNat : Int)) = true := (by simp; omega);have HFF := hid (HF.out true false _ (HMO.out.2.trans (show true = (true || bq [c]) from by simp [bq] <;> omega).symm).symm (HMO.out.1.trans (show false = bP [c] from by simp [bP] <;> omega).symm).symm rfl)
       go_upto_region 8 with fail
       generalize (w3.setCell ⟨pb, 1, none⟩ (.bool true)).setCell ⟨w2.1.size, 3, none⟩ (.bool false) = W4 at HFF ⊢;have HO4 := HFF;have hz4 := HO4.out.1;have hob := HO4.out.2.2.2.1.lt;have hx4 := HO4.out.2.1;have e0 : W4.cell? ⟨w2.1.size, 0, none⟩ = some (.int .u64 (x : Nat)) := (by rw [ax W4 _ 0 _ _ _ hx4]; rfl);have e1 : W4.cell? ⟨w2.1.size, 1, none⟩ = some (.int .u64 (a : Nat)) := (by rw [ax W4 _ 1 _ _ _ hx4]; rfl);have e2 : W4.cell? ⟨w2.1.size, 2, none⟩ = some (.int .u64 (b : Nat)) := (by rw [ax W4 _ 2 _ _ _ hx4]; rfl);have e3 : W4.cell? ⟨w2.1.size, 3, none⟩ = some (.bool false) := (by rw [ax W4 _ 3 _ _ _ hx4]; rfl);clear hx4 c1 f1 x3 fx3 u0' u1 u2
       go_wp2_with (at_builtin; go_loud (refine wpList_append_lies _ rfl (.tmp 64) (.tmp 66) 71 rfl base 135 i0 _ 4 32 Tryz.underlying71 HI.out.1 HI.out.2.1 HI.out.2.2.1 HI.out.2.2.2 rfl (by omega) (.slice sa j sc) j (aZ es) rfl (HO4.out.2.2.2.1.alloc _) ⟨W4.1.size, 0, none⟩ 1 1 (eY (⟨x, a, b, false⟩ : Ent)).toList rfl rfl (World.news_of_block (cs := eY (⟨x, a, b, false⟩ : Ent)) (t := 135) (fr := (0, 0)) (aK _ _ _ rfl)) (by simp [eY, Ent.cells, Value.oneCell']) (by omega) (by unfold maxLen; omega) (by omega) (by simp; omega) (W4.1.size + 1) (by simp) ?_); intro gg gcap w6 hown2 hgrow hat hlt2)
       have HE2 : Hid (mo = false ∧ fo = true) := hid ⟨HMO.out.1.trans (show false = bP [c] from by simp [bP] <;> omega).symm, HMO.out.2.trans (show true = (true || bq [c]) from by simp [bq] <;> omega).symm⟩;have H6 := hid (au hown2 hgrow);clear hown2 hgrow hat;have hwm : IntKind.u64.wrap (((m + 1 : Nat) : Int) - 1) = (m : Int) := (by rw [IntKind.wrap_u64]; omega);go_wp2_with fail;go_roundw
       case rel =>
        have hfar : ∀ b, b < W4.1.size → b < base → w6.1[b]? = W4.1[b]? := fun b hb hbb => (H6.out.2.block _ (by simp; omega) (fun e => by have := (hob _ e.symm).1; omega)).trans (aL _ _ _ hb)
        have hz6 := H6.out.2.size;simp only [aD] at hz6;refine ⟨m, by omega, by go_num, ⟨es ++ [⟨x, a, b, false⟩], sz, true, ?_, ?_, ?_, ?_, ?_, ?_⟩, ?_⟩
        ·have h1 := HE.out.1
         rw [HE2.out.1, HE2.out.2] at h1;rw [List.append_assoc]; exact h1
        ·have h1 := HE.out.2.1
         rw [HE2.out.2] at h1; exact h1
        ·exact HO4.out.2.2.1.keep (fun b hb => hfar b (by omega) (by omega))
        ·have h1 := H6.out.1
         rw [← gB, HJ.out] at h1;have e7 : (es ++ [(⟨x, a, b, false⟩ : Ent)]).length = es.length + 1 := (by simp);rw [e7]; rw [HJ.out]; exact h1
        ·intro r2 hr2
         have := HE.out.2.2.1 r2 hr2;have := HJ.out;simp only [aI, aJ, List.length_nil]; omega
        ·have := HJ.out
         simp only [aI, aJ, List.length_nil]; omega
        ·have hk4 := HO4.out.2.2.2.2
         have hs4 := hk4.size;have hbw := HBS.out;exact ⟨H6.out.2.os.trans hk4.os, H6.out.2.tape.trans hk4.tape, H6.out.2.output.trans hk4.output, by omega, fun b hb hn => (hfar b (by omega) (by omega)).trans (hk4.keep b hb hn)⟩
       case measure => simp [intOf]
     | false =>
      rcases hc4 with h0 | h1 | h2
      ·have ta : ((c.toNat : Int) == 1) = false := by simp; omega
       have tb : decide ((1 : Int) < (c.toNat : Int)) = false := (by simp; omega);have HFF := hid (HF.out false false _ (HMO.out.2.trans (show false = (false || bq [c]) from by simp [bq] <;> omega).symm).symm (HMO.out.1.trans (show false = bP [c] from by simp [bP] <;> omega).symm).symm rfl)
       go_upto_region 8 with fail
       generalize (w3.setCell ⟨pb, 1, none⟩ (.bool false)).setCell ⟨w2.1.size, 3, none⟩ (.bool false) = W4 at HFF ⊢;have HO4 := HFF;have hz4 := HO4.out.1;have hob := HO4.out.2.2.2.1.lt;have hx4 := HO4.out.2.1;have e0 : W4.cell? ⟨w2.1.size, 0, none⟩ = some (.int .u64 (x : Nat)) := (by rw [ax W4 _ 0 _ _ _ hx4]; rfl);have e1 : W4.cell? ⟨w2.1.size, 1, none⟩ = some (.int .u64 (a : Nat)) := (by rw [ax W4 _ 1 _ _ _ hx4]; rfl);have e2 : W4.cell? ⟨w2.1.size, 2, none⟩ = some (.int .u64 (b : Nat)) := (by rw [ax W4 _ 2 _ _ _ hx4]; rfl);have e3 : W4.cell? ⟨w2.1.size, 3, none⟩ = some (.bool false) := (by rw [ax W4 _ 3 _ _ _ hx4]; rfl);clear hx4 c1 f1 x3 fx3 u0' u1 u2
       go_wp2_with (at_builtin; go_loud (refine wpList_append_lies _ rfl (.tmp 64) (.tmp 66) 71 rfl base 135 i0 _ 4 32 Tryz.underlying71 HI.out.1 HI.out.2.1 HI.out.2.2.1 HI.out.2.2.2 rfl (by omega) (.slice sa j sc) j (aZ es) rfl (HO4.out.2.2.2.1.alloc _) ⟨W4.1.size, 0, none⟩ 1 1 (eY (⟨x, a, b, false⟩ : Ent)).toList rfl rfl (World.news_of_block (cs := eY (⟨x, a, b, false⟩ : Ent)) (t := 135) (fr := (0, 0)) (aK _ _ _ rfl)) (by simp [eY, Ent.cells, Value.oneCell']) (by omega) (by unfold maxLen; omega) (by omega) (by simp; omega) (W4.1.size + 1) (by simp) ?_); intro gg gcap w6 hown2 hgrow hat hlt2)
       have HE2 : Hid (mo = false ∧ fo = false) := hid ⟨HMO.out.1.trans (show false = bP [c] from by simp [bP] <;> omega).symm, HMO.out.2.trans (show false = (false || bq [c]) from by simp [bq] <;> omega).symm⟩;have H6 := hid (au hown2 hgrow);clear hown2 hgrow hat;have hwm : IntKind.u64.wrap (((m + 1 : Nat) : Int) - 1) = (m : Int) := (by rw [IntKind.wrap_u64]; omega);go_wp2_with fail;go_roundw
       case rel =>
        have hfar : ∀ b, b < W4.1.size → b < base → w6.1[b]? = W4.1[b]? := fun b hb hbb => (H6.out.2.block _ (by simp; omega) (fun e => by have := (hob _ e.symm).1; omega)).trans (aL _ _ _ hb)
        have hz6 := H6.out.2.size;simp only [aD] at hz6;refine ⟨m, by omega, by go_num, ⟨es ++ [⟨x, a, b, false⟩], sz, false, ?_, ?_, ?_, ?_, ?_, ?_⟩, ?_⟩
        ·have h1 := HE.out.1
         rw [HE2.out.1, HE2.out.2] at h1;rw [List.append_assoc]; exact h1
        ·have h1 := HE.out.2.1
         rw [HE2.out.2] at h1; exact h1
        ·exact HO4.out.2.2.1.keep (fun b hb => hfar b (by omega) (by omega))
        ·have h1 := H6.out.1
         rw [← gB, HJ.out] at h1;have e7 : (es ++ [(⟨x, a, b, false⟩ : Ent)]).length = es.length + 1 := (by simp);rw [e7]; rw [HJ.out]; exact h1
        ·intro r2 hr2
         have := HE.out.2.2.1 r2 hr2;have := HJ.out;simp only [aI, aJ, List.length_nil]; omega
        ·have := HJ.out
         simp only [aI, aJ, List.length_nil]; omega
        ·have hk4 := HO4.out.2.2.2.2
         have hs4 := hk4.size;have hbw := HBS.out;exact ⟨H6.out.2.os.trans hk4.os, H6.out.2.tape.trans hk4.tape, H6.out.2.output.trans hk4.output, by omega, fun b hb hn => (hfar b (by omega) (by omega)).trans (hk4.keep b hb hn)⟩
       case measure => simp [intOf]
      ·have ta : ((c.toNat : Int) == 1) = true := by simp; omega
       have tb : decide ((1 : Int) < (c.toNat : Int)) = false := (by simp; omega);have HFF := hid (HF.out false true _ (HMO.out.2.trans (show false = (false || bq [c]) from by simp [bq] <;> omega).symm).symm (HMO.out.1.trans (show true = bP [c] from by simp [bP] <;> omega).symm).symm rfl)
       go_upto_region 8 with fail
       generalize (w3.setCell ⟨pb, 1, none⟩ (.bool false)).setCell ⟨w2.1.size, 3, none⟩ (.bool true) = W4 at HFF ⊢;have HO4 := HFF;have hz4 := HO4.out.1;have hob := HO4.out.2.2.2.1.lt;have hx4 := HO4.out.2.1;have e0 : W4.cell? ⟨w2.1.size, 0, none⟩ = some (.int .u64 (x : Nat)) := (by rw [ax W4 _ 0 _ _ _ hx4]; rfl);have e1 : W4.cell? ⟨w2.1.size, 1, none⟩ = some (.int .u64 (a : Nat)) := (by rw [ax W4 _ 1 _ _ _ hx4]; rfl);have e2 : W4.cell? ⟨w2.1.size, 2, none⟩ = some (.int .u64 (b : Nat)) := (by rw [ax W4 _ 2 _ _ _ hx4]; rfl);have e3 : W4.cell? ⟨w2.1.size, 3, none⟩ = some (.bool true) := (by rw [ax W4 _ 3 _ _ _ hx4]; rfl);clear hx4 c1 f1 x3 fx3 u0' u1 u2
       go_wp2_with (at_builtin; go_loud (refine wpList_append_lies _ rfl (.tmp 64) (.tmp 66) 71 rfl base 135 i0 _ 4 32 Tryz.underlying71 HI.out.1 HI.out.2.1 HI.out.2.2.1 HI.out.2.2.2 rfl (by omega) (.slice sa j sc) j (aZ es) rfl (HO4.out.2.2.2.1.alloc _) ⟨W4.1.size, 0, none⟩ 1 1 (eY (⟨x, a, b, true⟩ : Ent)).toList rfl rfl (World.news_of_block (cs := eY (⟨x, a, b, true⟩ : Ent)) (t := 135) (fr := (0, 0)) (aK _ _ _ rfl)) (by simp [eY, Ent.cells, Value.oneCell']) (by omega) (by unfold maxLen; omega) (by omega) (by simp; omega) (W4.1.size + 1) (by simp) ?_); intro gg gcap w6 hown2 hgrow hat hlt2)
       have HE2 : Hid (mo = true ∧ fo = false) := hid ⟨HMO.out.1.trans (show true = bP [c] from by simp [bP] <;> omega).symm, HMO.out.2.trans (show false = (false || bq [c]) from by simp [bq] <;> omega).symm⟩;have H6 := hid (au hown2 hgrow);clear hown2 hgrow hat;have hwm : IntKind.u64.wrap (((m + 1 : Nat) : Int) - 1) = (m : Int) := (by rw [IntKind.wrap_u64]; omega);go_wp2_with fail;go_roundw
       case rel =>
        have hfar : ∀ b, b < W4.1.size → b < base → w6.1[b]? = W4.1[b]? := fun b hb hbb => (H6.out.2.block _ (by simp; omega) (fun e => by have := (hob _ e.symm).1; omega)).trans (aL _ _ _ hb)
        have hz6 := H6.out.2.size;simp only [aD] at hz6;refine ⟨m, by omega, by go_num, ⟨es ++ [⟨x, a, b, true⟩], sz, false, ?_, ?_, ?_, ?_, ?_, ?_⟩, ?_⟩
        ·have h1 := HE.out.1
         rw [HE2.out.1, HE2.out.2] at h1;rw [List.append_assoc]; exact h1
        ·have h1 := HE.out.2.1
         rw [HE2.out.2] at h1; exact h1
        ·exact HO4.out.2.2.1.keep (fun b hb => hfar b (by omega) (by omega))
        ·have h1 := H6.out.1
         rw [← gB, HJ.out] at h1;have e7 : (es ++ [(⟨x, a, b, true⟩ : Ent)]).length = es.length + 1 := (by simp);rw [e7]; rw [HJ.out]; exact h1
        ·intro r2 hr2
         have := HE.out.2.2.1 r2 hr2;have := HJ.out;simp only [aI, aJ, List.length_nil]; omega
        ·have := HJ.out
         simp only [aI, aJ, List.length_nil]; omega
        ·have hk4 := HO4.out.2.2.2.2
         have hs4 := hk4.size;have hbw := HBS.out;exact ⟨H6.out.2.os.trans hk4.os, H6.out.2.tape.trans hk4.tape, H6.out.2.output.trans hk4.output, by omega, fun b hb hn => (hfar b (by omega) (by omega)).trans (hk4.keep b hb hn)⟩
       case measure => simp [intOf]
      ·have ta : ((c.toNat : Int) == 1) = false := by simp; omega
       have tb : decide ((1 : Int) < (c.toNat : Int)) = true := (by simp; omega);have HFF := hid (HF.out true false _ (HMO.out.2.trans (show true = (false || bq [c]) from by simp [bq] <;> omega).symm).symm (HMO.out.1.trans (show false = bP [c] from by simp [bP] <;> omega).symm).symm rfl)
       go_upto_region 8 with fail
       generalize (w3.setCell ⟨pb, 1, none⟩ (.bool true)).setCell ⟨w2.1.size, 3, none⟩ (.bool false) = W4 at HFF ⊢;have HO4 := HFF;have hz4 := HO4.out.1;have hob := HO4.out.2.2.2.1.lt;have hx4 := HO4.out.2.1;have e0 : W4.cell? ⟨w2.1.size, 0, none⟩ = some (.int .u64 (x : Nat)) := (by rw [ax W4 _ 0 _ _ _ hx4]; rfl);have e1 : W4.cell? ⟨w2.1.size, 1, none⟩ = some (.int .u64 (a : Nat)) := (by rw [ax W4 _ 1 _ _ _ hx4]; rfl);have e2 : W4.cell? ⟨w2.1.size, 2, none⟩ = some (.int .u64 (b : Nat)) := (by rw [ax W4 _ 2 _ _ _ hx4]; rfl);have e3 : W4.cell? ⟨w2.1.size, 3, none⟩ = some (.bool false) := (by rw [ax W4 _ 3 _ _ _ hx4]; rfl);clear hx4 c1 f1 x3 fx3 u0' u1 u2
       go_wp2_with (at_builtin; go_loud (refine wpList_append_lies _ rfl (.tmp 64) (.tmp 66) 71 rfl base 135 i0 _ 4 32 Tryz.underlying71 HI.out.1 HI.out.2.1 HI.out.2.2.1 HI.out.2.2.2 rfl (by omega) (.slice sa j sc) j (aZ es) rfl (HO4.out.2.2.2.1.alloc _) ⟨W4.1.size, 0, none⟩ 1 1 (eY (⟨x, a, b, false⟩ : Ent)).toList rfl rfl (World.news_of_block (cs := eY (⟨x, a, b, false⟩ : Ent)) (t := 135) (fr := (0, 0)) (aK _ _ _ rfl)) (by simp [eY, Ent.cells, Value.oneCell']) (by omega) (by unfold maxLen; omega) (by omega) (by simp; omega) (W4.1.size + 1) (by simp) ?_); intro gg gcap w6 hown2 hgrow hat hlt2)
       have HE2 : Hid (mo = false ∧ fo = true) := hid ⟨HMO.out.1.trans (show false = bP [c] from by simp [bP] <;> omega).symm, HMO.out.2.trans (show true = (false || bq [c]) from by simp [bq] <;> omega).symm⟩;have H6 := hid (au hown2 hgrow);clear hown2 hgrow hat;have hwm : IntKind.u64.wrap (((m + 1 : Nat) : Int) - 1) = (m : Int) := (by rw [IntKind.wrap_u64]; omega);go_wp2_with fail;go_roundw
       case rel =>
        have hfar : ∀ b, b < W4.1.size → b < base → w6.1[b]? = W4.1[b]? := fun b hb hbb => (H6.out.2.block _ (by simp; omega) (fun e => by have := (hob _ e.symm).1; omega)).trans (aL _ _ _ hb)
        have hz6 := H6.out.2.size;simp only [aD] at hz6;refine ⟨m, by omega, by go_num, ⟨es ++ [⟨x, a, b, false⟩], sz, true, ?_, ?_, ?_, ?_, ?_, ?_⟩, ?_⟩
        ·have h1 := HE.out.1
         rw [HE2.out.1, HE2.out.2] at h1;rw [List.append_assoc]; exact h1
        ·have h1 := HE.out.2.1
         rw [HE2.out.2] at h1; exact h1
        ·exact HO4.out.2.2.1.keep (fun b hb => hfar b (by omega) (by omega))
        ·have h1 := H6.out.1
         rw [← gB, HJ.out] at h1;have e7 : (es ++ [(⟨x, a, b, false⟩ : Ent)]).length = es.length + 1 := (by simp);rw [e7]; rw [HJ.out]; exact h1
        ·intro r2 hr2
         have := HE.out.2.2.1 r2 hr2;have := HJ.out;simp only [aI, aJ, List.length_nil]; omega
        ·have := HJ.out
         simp only [aI, aJ, List.length_nil]; omega
        ·have hk4 := HO4.out.2.2.2.2
         have hs4 := hk4.size;have hbw := HBS.out;exact ⟨H6.out.2.os.trans hk4.os, H6.out.2.tape.trans hk4.tape, H6.out.2.output.trans hk4.output, by omega, fun b hb hn => (hfar b (by omega) (by omega)).trans (hk4.keep b hb hn)⟩
       case measure => simp [intOf]
theorem En {w w' : World} {pb rb g : Nat} (h : Rk (fun b => b = rb ∨ b = pb) w w') : Rk (fun b => b = rb ∨ b = pb ∨ b = g) w w' := h.mono (fun b hb => hb.elim .inl (fun e => .inr (.inl e)))
theorem Az {b : List UInt8} : ((bM b).getD .zero).nums := by
 cases h : bM b with
 | none => exact bD
 | some e => exact (qj h).2.1
theorem AA : sV 5 166 := by
 intro t pb rb g l sv s f w ht hl h hg hh;obtain ⟨p, s1, f1, hp⟩ : ∃ p s1 f1, gI s f = (p, s1, f1) := ⟨_, _, _, rfl⟩;obtain ⟨n, s2, hn⟩ : ∃ n s2, bG s1 = (n, s2) := ⟨_, _, rfl⟩;obtain ⟨es, s3, f3, he⟩ : ∃ es s3 f3, bZ n s2 f1 = (es, s3, f3) := ⟨_, _, _, rfl⟩;have h1 : fJ 5 t s f = (⟨5, t, 0, 0, 0, 0, p, es⟩, s3, f3) := by unfold fJ; simp [hp, hn, he]
 have hpn : p.nums := by unfold gI at hp; simp only [Prod.mk.injEq] at hp; rw [← hp.1]; exact Az
 have hen : ∀ e ∈ es, e.ok := by have := yQ n s2 f1; rw [he] at this; exact this
 have hlt := h.lt;have hgl : g < w.1.size := (ak hh).1;have H := hid (au h1 (au h hh));have HX := hid (au hp (au hn he));have HN := hid (au hpn hen);clear h1 h hh hp hn he hpn hen
 go_enter Tryz.func166, Tryz.ntmps166
 go_wp2_with fail;refine (qF pb rb l sv s s1 f f1 p w hl H.out.2.1 HX.out.1).mono ?_;rintro e w1 ⟨v, rfl, hv, hr1, hk1⟩;obtain ⟨q0, q1, q2, q3, q4, q5, rfl⟩ := hv.conc;have H1 := hid (au hv (au hr1 hk1));clear hv hr1 hk1;go_wp2_with fail;refine (uL pb rb l sv s1 s2 f1 n w1 hl H1.out.2.1 HX.out.2.1).mono ?_;rw [HX.out.2.2];rintro e w2 ⟨u, rfl, hu, hr2, hk2⟩;obtain ⟨_, uad, ucap, rfl, _⟩ := hu.shape;have hk12 := H1.out.2.2.trans hk2;have hh1 : w2.1[g]? = some (.cells _ 73 (0, 0)) := (hk12.keep g hgl (by omega)).trans H.out.2.2;have b6 : w2.cell? ⟨g, 6, none⟩ = some (.int .i64 0) := by rw [ax w2 _ 6 _ _ _ hh1]; rfl
 have b7 : w2.cell? ⟨g, 7, none⟩ = some (.int .u64 0) := by rw [ax w2 _ 7 _ _ _ hh1]; rfl
 have b8 : w2.cell? ⟨g, 8, none⟩ = some (.int .u64 0) := by rw [ax w2 _ 8 _ _ _ hh1]; rfl
 have b9 : w2.cell? ⟨g, 9, none⟩ = some (.slice none 0 0) := by rw [ax w2 _ 9 _ _ _ hh1]; rfl
 have b10 : w2.cell? ⟨g, 10, none⟩ = some (.slice none 0 0) := by rw [ax w2 _ 10 _ _ _ hh1]; rfl
 have f6 : w2.frozen? ⟨g, 6, none⟩ = false := by rw [aA w2 _ 6 _ _ hh1]
 have f7 : w2.frozen? ⟨g, 7, none⟩ = false := by rw [aA w2 _ 7 _ _ hh1]
 have f8 : w2.frozen? ⟨g, 8, none⟩ = false := by rw [aA w2 _ 8 _ _ hh1]
 have f9 : w2.frozen? ⟨g, 9, none⟩ = false := by rw [aA w2 _ 9 _ _ hh1]
 have f10 : w2.frozen? ⟨g, 10, none⟩ = false := by rw [aA w2 _ 10 _ _ hh1]
 have hz1 := H1.out.2.2.size;have hz2 := hk2.size;have hv2 : aT w2 (fun b => w.1.size ≤ b) true p (.agg #[.int .i64 q0, .int .u64 q1, .int .u64 q2, .slice q3 q4 q5]) := aT.keep (fun b hb hl => hk2.keep b hl (by omega)) (fun _ _ h => h) H1.out.1;have hu2 : fQ w2 (fun b => w.1.size ≤ b) true es (.slice uad es.length ucap) := hu.keep (fun _ _ _ => rfl) (fun b _ hb => by omega);have HQ := hid (au hh1 (au hr2 (au hk12 (au hv2 hu2))));clear hh1 hr2 hk12 hv2 hu hu2 hk2;go_wp2_with fail
 go_end0
 have hg3 : (g = rb ∨ g = pb ∨ g = g) := .inr (.inr rfl);have hkp : ∀ b, b ≠ g → (((((w2.setCell ⟨g, 6, none⟩ (.int .i64 q0)).setCell ⟨g, 7, none⟩ (.int .u64 q1)).setCell ⟨g, 8, none⟩ (.int .u64 q2)).setCell ⟨g, 9, none⟩ (.slice q3 q4 q5)).setCell ⟨g, 10, none⟩ (.slice uad es.length ucap)).1[b]? = w2.1[b]? := fun b hb => by
  rw [ay _ _ _ _ (by simpa using hb), ay _ _ _ _ (by simpa using hb), ay _ _ _ _ (by simpa using hb), ay _ _ _ _ (by simpa using hb), ay _ _ _ _ (by simpa using hb)]
 refine ⟨rfl, _, aM (aM (aM (aM (aM HQ.out.1 rfl) rfl) rfl) rfl) rfl, ?_, ?_, (((((En HQ.out.2.2.1).setCell g (.inr hg3) 6 _).setCell g (.inr hg3) 7 _).setCell g (.inr hg3) 8 _).setCell g (.inr hg3) 9 _).setCell g (.inr hg3) 10 _⟩
 ·rw [H.out.1]
  refine ⟨_, _, _, _, _, rfl, by dsimp only; omega, by dsimp only; omega, ⟨ht, by dsimp only; omega, by dsimp only; omega, by dsimp only; omega, by dsimp only; omega, HN.out.1, HN.out.2⟩, ?_, ?_⟩
  ·exact aT.keep (w := w2) (fun b hb _ => hkp b (by omega)) (fun _ _ h => h) HQ.out.2.2.2.1
  ·exact fQ.keep (w := w2) HQ.out.2.2.2.2 (fun b hb _ => hkp b (by omega)) (fun _ _ h => h)
 ·rw [H.out.1]; exact HQ.out.2.1.keep (fun b hb => hkp b (by omega))
theorem CQ (k : Nat) (h1 : 1 ≤ k) (h7 : k ≤ 7) : ∃ fid, (aV k)[3]? = some (.func (.func fid) #[] #[]) ∧ Enters fid ∧ sV k fid := by
 have hc : k = 1 ∨ k = 2 ∨ k = 3 ∨ k = 4 ∨ k = 5 ∨ k = 6 ∨ k = 7 := by omega
 rcases hc with rfl | rfl | rfl | rfl | rfl | rfl | rfl
 ·exact ⟨100, rfl, (fun _ _ => by kernel_rfl), jf 1 (by omega)⟩
 ·exact ⟨146, rfl, (fun _ _ => by kernel_rfl), Ay⟩
 ·exact ⟨154, rfl, (fun _ _ => by kernel_rfl), yO⟩
 ·exact ⟨159, rfl, (fun _ _ => by kernel_rfl), xk⟩
 ·exact ⟨166, rfl, (fun _ _ => by kernel_rfl), AA⟩
 ·exact ⟨100, rfl, (fun _ _ => by kernel_rfl), jf 6 (by omega)⟩
 ·exact ⟨100, rfl, (fun _ _ => by kernel_rfl), jf 7 (by omega)⟩
end Go.Proofs.YtlpgokcapdjgjaaGreatDoor
