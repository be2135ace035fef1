/- Walks. -/
import Derived.Test.YtlpgokcapdjgjaaGreatDoorY42
set_option maxHeartbeats 4000000
set_option maxRecDepth 100000
namespace Go.Proofs.YtlpgokcapdjgjaaGreatDoor
open Go.RowKit Go
set_option linter.unusedVariables false
set_option linter.unusedSimpArgs false
def VrS (w : World) (rb : Nat) (l : List UInt8) (sv : Value) (s : Option (List UInt8)) : Prop := ∃ a e, Vr w rb a e l sv ∧ s = if e = 0 then some (l.drop a) else none
theorem VrS.lt {w : World} {rb : Nat} {l : List UInt8} {sv : Value} {s : Option (List UInt8)} (h : VrS w rb l sv s) : rb < w.1.size := by
 obtain ⟨a, e, h, _⟩ := h;exact h.lt
theorem VrS.left {w : World} {rb : Nat} {l r : List UInt8} {sv : Value} (h : VrS w rb l sv (some r)) : r.length ≤ l.length := by
 obtain ⟨a, e, h, h2⟩ := h;by_cases he : e = 0
 ·rw [if_pos he] at h2; injection h2 with h2; rw [h2]; simp
 ·rw [if_neg he] at h2; cases h2
theorem VrS.below {w w' : World} {rb : Nat} {l : List UInt8} {sv : Value} {s : Option (List UInt8)} (h : VrS w rb l sv s) (hb : Below w.1.size w w') : VrS w' rb l sv s := by
 obtain ⟨a, e, h, h2⟩ := h;exact ⟨a, e, h.below hb, h2⟩
theorem VrS.keep {w w' : World} {rb : Nat} {l : List UInt8} {sv : Value} {s : Option (List UInt8)} (h : VrS w rb l sv s) (hk : ∀ b, b ≤ rb → w'.1[b]? = w.1[b]?) : VrS w' rb l sv s := by
 obtain ⟨a, e, h, h2⟩ := h;exact ⟨a, e, h.keep hk, h2⟩
theorem je (rb : Nat) (l : List UInt8) (sv : Value) (s : Option (List UInt8)) (w : World) (h : VrS w rb l sv s) :
  Calls Tryz.prog 71 #[.pointer (some ⟨rb, 0, none⟩)] w fun r w' => ∃ e : Int, r = .returned (.int .i64 e) ∧ (e = 0 ↔ s.isSome = true) ∧ w = w' := by
 obtain ⟨a, e, h, rfl⟩ := h;refine (dn rb a e l sv w h).mono ?_;rintro r w' ⟨rfl, rfl⟩;refine ⟨e, rfl, ?_, rfl⟩;by_cases he : e = 0 <;> simp [he]
theorem qx (rb : Nat) (l : List UInt8) (sv : Value) (s : Option (List UInt8)) (w : World) (h : VrS w rb l sv s) :
  Calls Tryz.prog 116 #[.pointer (some ⟨rb, 0, none⟩)] w fun r w' => r = .returned (.bool s.isSome) ∧ w = w' := by
 obtain ⟨a, e, h, rfl⟩ := h;refine (eu rb a e l sv w h).mono ?_;rintro r w' ⟨rfl, rfl⟩;refine ⟨aR ?_, rfl⟩;by_cases he : e = 0 <;> simp [he]
theorem uK (rb : Nat) (l : List UInt8) (sv : Value) (s : Option (List UInt8)) (w : World) (h : VrS w rb l sv s) :
  Calls Tryz.prog 70 #[.pointer (some ⟨rb, 0, none⟩)] w fun r w' => r = .returned (.int .u64 ((bG s).1 : Nat)) ∧ VrS w' rb l sv (bG s).2 ∧ Rg rb w w' := by
 obtain ⟨a, e, h, rfl⟩ := h;by_cases he : e = 0
 ·subst he
  refine (kv rb a l sv w h).mono ?_;rintro r w' ⟨v, a', e', rfl, hv, hv', hg, _, h1, h2⟩;by_cases he : e' = 0
  ·have := h1 he
   rw [if_pos rfl, aY this];exact ⟨rfl, ⟨a', e', hv', by rw [if_pos he]⟩, hg⟩
  ·obtain ⟨rfl, rfl, h3, _⟩ := h2 he
   rw [if_pos rfl, di h3];exact ⟨rfl, ⟨a', e', hv', by rw [if_neg he]⟩, hg⟩
 ·refine (ow rb a e l sv w h he).mono ?_
  rintro r w' ⟨rfl, rfl⟩;rw [if_neg he];exact ⟨rfl, ⟨a, e, h, by rw [if_neg he]; rfl⟩, Rg.refl _ _⟩
theorem Aw (rb a : Nat) (n : Int) (l : List UInt8) (sv : Value) (w : World) (h : Vr w rb a 0 l sv) (h1 : (l.length : Int) - (a : Int) < n) (h2 : n ≤ 9223372036854775807) :
  Calls Tryz.prog 200 #[.pointer (some ⟨rb, 0, none⟩), .int .i64 n] w fun r w' => r = .returned (.slice none 0 0) ∧ Vr w' rb a 4 l sv ∧ Rg rb w w' := by
 have ha := h.2.2;have HWl := hid (eu rb a 0 l sv w h);have HLf := hid (nu rb a 0 l sv w h);have HV := hid h;clear h;have t0 : ¬ n < 0 := by omega
 go_enter Tryz.func200, Tryz.ntmps200
 go_wp2_with fail;refine HWl.out.mono ?_;rintro r w0 ⟨rfl, rfl⟩;go_wp2_with fail;refine HLf.out.mono ?_;rintro r w0 ⟨rfl, nq, rfl⟩;have hb0 : Below w.1.size w (w.drewN nq) := below_drewN br _;have HV0 := hid (HV.out.below hb0);have HB0 := hid hb0;clear hb0;go_wp2_with fail;refine (jm rb a 4 l _ _ HV0.out).mono ?_;rintro r w3 ⟨rfl, hv3, hg3, hz3⟩;go_wp2_with fail;go_ret
 exact ⟨rfl, hv3, (Rg.of_below HB0.out).trans hg3⟩
def Gm (rb : Nat) (l : List UInt8) (sv : Value) (p : List UInt8) (s' : Option (List UInt8)) (w : World) (r : Ending) (w' : World) : Prop :=
 ∃ v, r = .returned v ∧ VrS w' rb l sv s' ∧ Rg rb w w' ∧ w'.ownsRow w.1.size 5 1 v p.length (bytes p)
theorem sU (rb n : Nat) (l : List UInt8) (sv : Value) (s : Option (List UInt8)) (w : World) (h : VrS w rb l sv s) (hn : n ≤ 9223372036854775807) :
  Calls Tryz.prog 200 #[.pointer (some ⟨rb, 0, none⟩), .int .i64 n] w (Gm rb l sv (dF n s).1 (dF n s).2 w) := by
 obtain ⟨a, e, h, rfl⟩ := h;by_cases he : e = 0
 ·subst he
  have ha := h.2.2;rw [if_pos rfl];by_cases hle : n ≤ l.length - a
  ·have e1 : dF n (some (l.drop a)) = ((l.drop a).take n, some ((l.drop a).drop n)) := by show (if n ≤ (l.drop a).length then _ else _) = _; rw [if_pos (by simp; omega)]
   rw [e1];refine (fO rb a n l sv w h (by omega)).mono ?_;rintro r w' ⟨v, p, a', e', rfl, hv, hg, ho, h3, _⟩;obtain ⟨rfl, rfl, rfl⟩ := h3 hle;exact ⟨v, rfl, ⟨a + n, 0, hv, by simp⟩, hg, ho⟩
  ·have e1 : dF n (some (l.drop a)) = ([], none) := by show (if n ≤ (l.drop a).length then _ else _) = _; rw [if_neg (by simp; omega)]
   rw [e1];refine (Aw rb a n l sv w h (by omega) (by omega)).mono ?_;rintro r w' ⟨rfl, hv, hg⟩;exact ⟨_, rfl, ⟨a, 4, hv, by simp⟩, hg, World.ownsRow_nil _ _ _ _⟩
 ·rw [if_neg he]
  refine (pI rb a e n l sv w h he).mono ?_;rintro r w' ⟨rfl, rfl⟩;exact ⟨_, rfl, ⟨a, e, h, by rw [if_neg he]; rfl⟩, Rg.refl _ _, World.ownsRow_nil _ _ _ _⟩
theorem Ht (v : Nat) (h : v < 18446744073709551616) : bits BinOp.and IntKind.u64 (v : Int) 9223372036854775807 = ((v % 9223372036854775808 : Nat) : Int) := by
 have h1 := bits_and_u64_nat v 9223372036854775807 h (by omega);have h2 : v &&& 9223372036854775807 = v % 9223372036854775808 := Nat.and_two_pow_sub_one_eq_mod v 63;rw [h2] at h1;exact h1
theorem VrS.move {w : World} {rb : Nat} {l : List UInt8} {sv : Value} (h : VrS w rb l sv none) (a : Nat) (ha : a ≤ l.length) : VrS (w.setCell ⟨rb, 0, none⟩ (.int .i64 a)) rb l sv none := by
 obtain ⟨a', e, h, h2⟩ := h;refine ⟨a, e, h.move a ha, ?_⟩;by_cases he : e = 0
 ·rw [if_pos he] at h2; cases h2
 ·rw [if_neg he]
theorem VrS.cell0 {w : World} {rb : Nat} {l : List UInt8} {sv : Value} {s : Option (List UInt8)} (h : VrS w rb l sv s) : ∃ a : Nat, w.cell? ⟨rb, 0, none⟩ = some (.int .i64 a) ∧ w.frozen? ⟨rb, 0, none⟩ = false := by
 obtain ⟨a', e, h, h2⟩ := h;exact ⟨a', h.cells.1, h.cells.2.2.2 0⟩
theorem yM (rb : Nat) (l : List UInt8) (sv : Value) (s : Option (List UInt8)) (w : World) (h : VrS w rb l sv s) :
  Calls Tryz.prog 199 #[.pointer (some ⟨rb, 0, none⟩)] w (Gm rb l sv (dD s).1 (dD s).2 w) := by
 have HWl := hid (qx rb l sv s w h);have hlt := h.lt;cases s with
 | none =>
  have H := hid h;clear h
  go_enter Tryz.func199, Tryz.ntmps199
  go_wp2_with fail;refine HWl.out.mono ?_;rintro r w0 ⟨rfl, rfl⟩;go_wp2_with fail;go_ret
  exact ⟨_, rfl, H.out, Rg.refl _ _, World.ownsRow_nil _ _ _ _⟩
 | some rest =>
  obtain ⟨a, e, h, he⟩ := h;have he0 : e = 0 := by
   by_cases h0 : e = 0
   ·exact h0
   ·rw [if_neg h0] at he; cases he
  subst he0;rw [if_pos rfl] at he;injection he with he
  obtain ⟨c0, c1, c2, f⟩ := h.cells;have ha := h.2.2.1;have H := hid h;have HE := hid he;clear h f he c1 c2
  go_enter Tryz.func199, Tryz.ntmps199
  go_wp2_with fail;refine HWl.out.mono ?_;rintro r w0 ⟨rfl, rfl⟩;go_wp2_with fail;refine (kv rb a l sv w H.out).mono ?_;rintro r w1 ⟨v, a', e', rfl, hv, hv1, hg1, haa, h1, h2⟩;have hm := Ht v hv;by_cases he' : e' = 0
  ·subst he'
   have hget := h1 rfl;have HT : Hid (dD (some rest) = dF v (some (l.drop a'))) := hid (by unfold dD; rw [HE.out, aY hget]);have hl1 := hv1.2.2;by_cases hbig : v ≤ 9223372036854775807
   ·have q1 : v % 9223372036854775808 = v := Nat.mod_eq_of_lt (by omega)
    have q2 : IntKind.i64.wrap (v : Int) = (v : Int) := IntWalk.i64_in _ (by omega);rw [q1] at hm;have t1 : decide ((9223372036854775807 : Int) < (v : Int)) = false := (by simp; omega);have HV1 := hid (au hv1 hg1);clear h1 h2 hget hv1 hg1 q1;go_wp2_with fail;refine (sU rb v l sv (some (l.drop a')) w1 ⟨a', 0, HV1.out.1, by simp⟩ hbig).mono ?_;rintro r w2 ⟨u, rfl, hs2, hg2, ho2⟩;obtain ⟨sa, sc, rfl⟩ := aQ ho2;have HS2 := hid (au hs2 (au (HV1.out.2.trans hg2) (iD ho2 HV1.out.2.size)));have HW2 := hid (qx rb l sv _ w2 hs2);clear hs2 hg2 ho2;cases hst : (dF v (some (l.drop a'))).2 with
    | some r2 =>
     rw [hst] at HW2;have HST := hid hst;clear hst;go_wp2_with fail;refine HW2.out.mono ?_;rintro r w0 ⟨rfl, rfl⟩;go_wp2_with fail;go_ret
     rw [HT.out];exact ⟨_, rfl, HS2.out.1, HS2.out.2.1, HS2.out.2.2⟩
    | none =>
     rw [hst] at HW2;have HST := hid hst;obtain ⟨a2, k0, f0⟩ := HS2.out.1.cell0;clear hst;go_wp2_with fail;refine HW2.out.mono ?_;rintro r w0 ⟨rfl, rfl⟩;go_wp2_with fail;go_ret
     rw [HT.out];have hmv := HS2.out.1;rw [HST.out] at hmv;refine ⟨_, rfl, ?_, HS2.out.2.1.setCell _ _, ?_⟩
     ·rw [HST.out]; exact hmv.move a ha
     ·exact iE HS2.out.2.2 (fun b hb _ => ay _ _ _ _ (by simp; omega))
   ·have q1 : v % 9223372036854775808 = v - 9223372036854775808 := by omega
    rw [q1] at hm;have q2 : IntKind.i64.wrap ((v - 9223372036854775808 : Nat) : Int) = ((v - 9223372036854775808 : Nat) : Int) := IntWalk.i64_in _ (by omega);have t1 : decide ((9223372036854775807 : Int) < (v : Int)) = true := (by simp; omega);have HV1 := hid (au hv1 hg1);have HR : Hid (dF v (some (l.drop a')) = ([], none)) := hid (by show (if v ≤ (l.drop a').length then _ else _) = _; rw [if_neg (by simp; omega)]);generalize v - 9223372036854775808 = m at hm q2;clear h1 h2 hget hv1 hg1 q1;go_wp2_with fail;refine (jm rb a' 4 l sv w1 HV1.out.1).mono ?_;rintro r w2 ⟨rfl, hv2, hg2, hz2⟩;have HV2 := hid (au hv2 (HV1.out.2.trans hg2));clear hv2 hg2;go_wp2_with fail;refine (pI rb a' 4 _ l sv w2 HV2.out.1 (by omega)).mono ?_;rintro r w0 ⟨rfl, rfl⟩;have hw2 := eu rb a' 4 l sv w2 HV2.out.1;rw [show ((4 : Int) == 0) = false from rfl] at hw2;have HW2 := hid hw2;obtain ⟨k0, _, _, f⟩ := HV2.out.1.cells;have f0 := f 0;clear f hw2;go_wp2_with fail;refine HW2.out.mono ?_;rintro r w0 ⟨rfl, rfl⟩;go_wp2_with fail;go_ret
    rw [HT.out, HR.out];exact ⟨_, rfl, ⟨a, 4, HV2.out.1.move a ha, by simp⟩, HV2.out.2.setCell _ _, World.ownsRow_nil _ _ _ _⟩
  ·obtain ⟨rfl, rfl, hget, hc⟩ := h2 he'
   have HT : Hid (dD (some rest) = ([], none)) := hid (by unfold dD; rw [HE.out, di hget]; rfl);have HV1 := hid (au hv1 hg1);have q2 : IntKind.i64.wrap ((0 : Nat) : Int) = ((0 : Nat) : Int) := IntWalk.i64_in _ (by omega);have hw2 := eu rb a' e' l sv w1 hv1;rw [show (e' == 0) = false from by simpa using he'] at hw2;have HW2 := hid hw2;have HNE := hid he';obtain ⟨k0, _, _, f⟩ := hv1.cells;have f0 := f 0;clear f hw2 h1 h2 hget hc hv1 hg1 he';go_wp2_with fail;refine (pI rb a' e' _ l sv w1 HV1.out.1 HNE.out).mono ?_;rintro r w0 ⟨rfl, rfl⟩;go_wp2_with fail;refine HW2.out.mono ?_;rintro r w0 ⟨rfl, rfl⟩;go_wp2_with fail;go_ret
   rw [HT.out];exact ⟨_, rfl, ⟨a', e', HV1.out.1.move a' ha, by rw [if_neg HNE.out]⟩, HV1.out.2.setCell _ _, World.ownsRow_nil _ _ _ _⟩
theorem gH (rb : Nat) (l : List UInt8) (sv : Value) (s s1 : Option (List UInt8)) (n : Nat) (w : World) (h : VrS w rb l sv s) (hn : bG s = (n, s1)) :
  Calls Tryz.prog 70 #[.pointer (some ⟨rb, 0, none⟩)] w fun r w' => r = .returned (.int .u64 (n : Nat)) ∧ VrS w' rb l sv s1 ∧ Rg rb w w' := by
 have := uK rb l sv s w h;rw [hn] at this;exact this
structure RdS (w : World) (pb rb : Nat) (l : List UInt8) (sv : Value) (s : Option (List UInt8)) (f : Bool) : Prop where
 hd : w.1[pb]? = some (.cells #[.pointer (some ⟨rb, 0, none⟩), .bool f] 175 (0, 0))
 vr : VrS w rb l sv s
 lt : rb < pb
theorem RdS.plt {w : World} {pb rb : Nat} {l : List UInt8} {sv : Value} {s : Option (List UInt8)} {f : Bool} (h : RdS w pb rb l sv s f) : pb < w.1.size := (ak h.hd).1
theorem RdS.c0 {w : World} {pb rb : Nat} {l : List UInt8} {sv : Value} {s : Option (List UInt8)} {f : Bool} (h : RdS w pb rb l sv s f) : w.cell? ⟨pb, 0, none⟩ = some (.pointer (some ⟨rb, 0, none⟩)) := by rw [ax w _ 0 _ _ _ h.hd]; rfl
theorem RdS.c1 {w : World} {pb rb : Nat} {l : List UInt8} {sv : Value} {s : Option (List UInt8)} {f : Bool} (h : RdS w pb rb l sv s f) : w.cell? ⟨pb, 1, none⟩ = some (.bool f) ∧ w.frozen? ⟨pb, 1, none⟩ = false := ⟨by rw [ax w _ 1 _ _ _ h.hd]; rfl, by rw [aA w _ 1 _ _ h.hd]⟩
theorem RdS.below {w w' : World} {pb rb : Nat} {l : List UInt8} {sv : Value} {s : Option (List UInt8)} {f : Bool} (h : RdS w pb rb l sv s f) (hb : Below w.1.size w w') : RdS w' pb rb l sv s f := ⟨(hb.block _ h.plt).trans h.hd, h.vr.below hb, h.lt⟩
theorem RdS.step {w w' : World} {pb rb : Nat} {l : List UInt8} {sv : Value} {s s' : Option (List UInt8)} {f : Bool} (h : RdS w pb rb l sv s f) (hv : VrS w' rb l sv s') (hg : Rg rb w w') : RdS w' pb rb l sv s' f := ⟨(hg.keep _ h.plt (by have := h.lt; omega)).trans h.hd, hv, h.lt⟩
theorem RdS.keep {w w' : World} {pb rb : Nat} {l : List UInt8} {sv : Value} {s : Option (List UInt8)} {f : Bool} (h : RdS w pb rb l sv s f) (hk : ∀ b, b ≤ pb → w'.1[b]? = w.1[b]?) : RdS w' pb rb l sv s f := ⟨(hk pb nl).trans h.hd, h.vr.keep (fun b hb => hk b (by have := h.lt; omega)), h.lt⟩
structure RdZ (W : World) (pb rb gg : Nat) (l : List UInt8) (sv : Value) (f : Bool) (T : TypeId) (sts : List (Option (List UInt8))) (rows : List (Array Value)) (t : Nat) (vs : Nat → Value) (w : World) : Prop where
 rd : ∃ s, sts[t]? = some s ∧ RdS w pb rb l sv s f
 bx : ∃ r, rows[t]? = some r ∧ w.1[gg]? = some (.cells r T (0, 0))
 rk : Rk (fun b => b = rb ∨ b = gg) W w
 lt : pb < gg
section
variable {W w w' : World} {pb rb gg : Nat} {l : List UInt8} {sv : Value} {f : Bool} {T : TypeId} {sts : List (Option (List UInt8))} {rows : List (Array Value)} {t : Nat} {vs : Nat → Value}
theorem RdZ.at (h : RdZ W pb rb gg l sv f T sts rows t vs w) {s : Option (List UInt8)} (hs : sts[t]? = some s) : RdS w pb rb l sv s f := by
 obtain ⟨s', h1, h2⟩ := h.rd;rw [hs] at h1;injection h1 with h1
 rw [h1]; exact h2
theorem RdZ.st (h : RdZ W pb rb gg l sv f T sts rows t vs w) {s : Option (List UInt8)} (hs : sts[t]? = some s) : VrS w rb l sv s := (h.at hs).vr
theorem RdZ.box (h : RdZ W pb rb gg l sv f T sts rows t vs w) {r : Array Value} (hr : rows[t]? = some r) : w.1[gg]? = some (.cells r T (0, 0)) := by
 obtain ⟨r', h1, h2⟩ := h.bx;rw [hr] at h1;injection h1 with h1
 rw [h1]; exact h2
theorem RdZ.c0 (h : RdZ W pb rb gg l sv f T sts rows t vs w) : w.cell? ⟨pb, 0, none⟩ = some (.pointer (some ⟨rb, 0, none⟩)) := by
 obtain ⟨s', h1, h2⟩ := h.rd;exact h2.c0
theorem RdZ.num {s1 : Option (List UInt8)} {r : Array Value} {i : Nat} {u : Value} (h : RdZ W pb rb gg l sv f T sts rows t vs w) (hs : sts[t + 1]? = some s1) (hr : rows[t]? = some r) (hr2 : rows[t + 1]? = some r) (hv : VrS w' rb l sv s1) (hg : Rg rb w w') :
  RdZ W pb rb gg l sv f T sts rows (t + 1) (upd vs i u) w' := by
 obtain ⟨s', h1, h2⟩ := h.rd;have hb := h.box hr;have hl := h.lt;have hl2 := h2.lt;exact ⟨⟨s1, hs, h2.step hv hg⟩, ⟨r, hr2, (hg.keep _ (ak hb).1 (by omega)).trans hb⟩, h.rk.trans' ⟨hg.os, hg.tape, hg.output, hg.size, fun b hb hn => hg.keep b hb hn⟩ (fun i _ hi => .inl hi), hl⟩
theorem RdZ.sto {s : Option (List UInt8)} {r : Array Value} {i : Nat} {u : Value} (h : RdZ W pb rb gg l sv f T sts rows t vs w) (o : Nat) (v : Value) (hs : sts[t]? = some s) (hs2 : sts[t + 1]? = some s) (hr : rows[t]? = some r) (hr2 : rows[t + 1]? = some (r.setIfInBounds o v)) :
  RdZ W pb rb gg l sv f T sts rows (t + 1) (upd vs i u) (w.setCell ⟨gg, o, none⟩ v) := by
 have h2 := h.at hs;have hb := h.box hr;have hl := h.lt;have hsz := h.rk.size;refine ⟨⟨s, hs2, h2.keep (fun b hb => ay _ _ _ _ (by simp; omega))⟩, ⟨_, hr2, aM hb rfl⟩, ⟨h.rk.os, h.rk.tape, h.rk.output, by simpa using hsz, fun b hbl hn => ?_⟩, hl⟩;exact (ay _ _ _ _ (by simp only [ne_eq]; intro e; exact hn (.inr e))).trans (h.rk.keep b hbl hn)
theorem RdZ.start {s : Option (List UInt8)} {r : Array Value} (h : RdS w pb rb l sv s f) (hb : w.1[gg]? = some (.cells r T (0, 0))) (hl : pb < gg) (hs : sts[0]? = some s) (hr : rows[0]? = some r) : RdZ w pb rb gg l sv f T sts rows 0 vs w.drew :=
 ⟨⟨s, hs, h.below br.drew⟩, ⟨r, hr, hb⟩, Rk.of_below br.drew, hl⟩
end
theorem Hu {W W0 w : World} {rb gg : Nat} (h : Rk (fun b => b = rb ∨ b = gg) W w) (h0 : Below W0.1.size W0 W) (hg : W0.1.size ≤ gg) : Rg rb W0 w :=
 ⟨h.os.trans h0.os, h.tape.trans h0.tape, h.output.trans h0.output, Nat.le_trans h0.size h.size, fun b hb hn => (h.keep b (by have := h0.size; omega) (by intro e; rcases e with e | e <;> omega)).trans (h0.block b hb)⟩
theorem RdZ.sto2 {W w : World} {pb rb gg : Nat} {l : List UInt8} {sv : Value} {f : Bool} {T : TypeId} {sts : List (Option (List UInt8))} {rows : List (Array Value)} {t : Nat} {vs : Nat → Value} {s : Option (List UInt8)} {r : Array Value} {i : Nat} {u : Value} (h : RdZ W pb rb gg l sv f T sts rows t vs w) (o o' : Nat) (v v' : Value) (hs : sts[t]? = some s) (hs2 : sts[t + 1]? = some s) (hr : rows[t]? = some r) (hr2 : rows[t + 1]? = some ((r.setIfInBounds o v).setIfInBounds o' v')) :
  RdZ W pb rb gg l sv f T sts rows (t + 1) (upd vs i u) ((w.setCell ⟨gg, o, none⟩ v).setCell ⟨gg, o', none⟩ v') := by
 have h2 := h.at hs;have hb := h.box hr;have hl := h.lt;have hsz := h.rk.size;refine ⟨⟨s, hs2, h2.keep (fun b hb => (ay _ _ _ _ (by simp; omega)).trans (ay _ _ _ _ (by simp; omega)))⟩, ⟨_, hr2, aM (aM hb rfl) rfl⟩, ⟨h.rk.os, h.rk.tape, h.rk.output, by simpa using hsz, fun b hbl hn => ?_⟩, hl⟩;exact ((ay _ _ _ _ (by simp only [ne_eq]; intro e; exact hn (.inr e))).trans (ay _ _ _ _ (by simp only [ne_eq]; intro e; exact hn (.inr e)))).trans (h.rk.keep b hbl hn)
theorem mG (pb rb : Nat) (l : List UInt8) (sv : Value) (s s2 : Option (List UInt8)) (f : Bool) (a b : Nat) (w : World) (h : RdS w pb rb l sv s f) (hv : iX s = ((a, b), s2)) :
  Calls Tryz.prog 147 #[.pointer (some ⟨pb, 0, none⟩)] w fun e w' => e = .returned (.agg #[.int .u64 (a : Nat), .int .u64 (b : Nat)]) ∧ VrS w' rb l sv s2 ∧ Rg rb w w' := by
 obtain ⟨s1, ha, hb⟩ : ∃ s1, bG s = (a, s1) ∧ bG s1 = (b, s2) := by
  unfold iX at hv;simp only [Prod.mk.injEq] at hv;obtain ⟨⟨rfl, rfl⟩, rfl⟩ := hv;exact ⟨_, rfl, rfl⟩
 have hb1 : Below w.1.size w (w.alloc (.cells #[.int .u64 0, .int .u64 0] 67)) := br.alloc nl _;have hbx : (w.alloc (.cells #[.int .u64 0, .int .u64 0] 67)).1[w.1.size]? = some (.cells #[.int .u64 0, .int .u64 0] 67 (0, 0)) := aK _ _ _ rfl;have hp := h.plt;have HA := hid ha;have HB := hid hb;have HH := hid (au (h.below hb1) (au hbx hb1));clear h hv ha hb hb1 hbx
 go_enter Tryz.func147, Tryz.ntmps147
 go_wp2_with fail;generalize w.alloc (.cells #[.int .u64 0, .int .u64 0] 67) = W1 at HH ⊢;obtain ⟨gg, hgg⟩ : ∃ gg, gg = w.1.size := ⟨_, rfl⟩;rw [← hgg] at HH ⊢;have HG := hid hgg;clear hgg;have HZ := hid (RdZ.start (sts := [s, s1, s2, s2]) (rows := [#[.int .u64 0, .int .u64 0], #[.int .u64 0, .int .u64 0], #[.int .u64 0, .int .u64 0], #[.int .u64 (a : Nat), .int .u64 (b : Nat)]]) (vs := fun _ => undef) HH.out.1 HH.out.2.1 (by have := HG.out; omega) rfl rfl);refine dC (w0 := W1) rfl [.eq (.pointer (some ⟨pb, 0, none⟩)), .eq (.pointer (some ⟨pb, 0, none⟩)), .eq (.pointer (some ⟨pb, 0, none⟩)), .eq (.pointer (some ⟨rb, 0, none⟩)), .weq (.int .u64 (a : Nat)), .eq (.pointer (some ⟨pb, 0, none⟩)), .eq (.pointer (some ⟨pb, 0, none⟩)), .eq (.pointer (some ⟨pb, 0, none⟩)), .eq (.pointer (some ⟨rb, 0, none⟩)), .weq (.int .u64 (b : Nat)), .eq (.agg #[.int .u64 (a : Nat), .int .u64 (b : Nat)]), .wr] (RdZ W1 pb rb gg l sv f 67 [s, s1, s2, s2] [#[.int .u64 0, .int .u64 0], #[.int .u64 0, .int .u64 0], #[.int .u64 0, .int .u64 0], #[.int .u64 (a : Nat), .int .u64 (b : Nat)]]) (by kernel_rfl) (⟨fun _ => undef, HZ.out⟩) ⟨?_, ?_, ?_, ?_, ?_, ?_, ?_, ?_, ?_, ?_, ?_, ?_, trivial⟩ (fun vs => [(3, .pointer (some ⟨pb, 0, none⟩)), (4, .pointer (some ⟨pb, 0, none⟩)), (5, .pointer (some ⟨pb, 0, none⟩)), (6, .pointer (some ⟨rb, 0, none⟩)), (7, .int .u64 (a : Nat)), (8, .pointer (some ⟨pb, 0, none⟩)), (9, .pointer (some ⟨pb, 0, none⟩)), (10, .pointer (some ⟨pb, 0, none⟩)), (11, .pointer (some ⟨rb, 0, none⟩)), (12, .int .u64 (b : Nat)), (13, .agg #[.int .u64 (a : Nat), .int .u64 (b : Nat)])]) (fun _ => rfl) 3 (by kernel_rfl) ?_
 ·refine pZ fun t vs ac wx K Q hR hZ hK => ?_
  have t0 : ac.tmps[0]? = some (.pointer (some ⟨pb, 0, none⟩)) := hR.o 0;go_simp;exact hK _ hZ
 ·refine pZ fun t vs ac wx K Q hR hZ hK => ?_
  have t3 := hR.q 0;go_simp;exact hK _ hZ
 ·refine pZ fun t vs ac wx K Q hR hZ hK => ?_
  have t4 := hR.q 1;go_simp;exact hK _ hZ
 ·refine pZ fun t vs ac wx K Q hR hZ hK => ?_
  have t5 := hR.q 2;have y0 := hZ.c0;go_simp;exact hK _ hZ
 ·refine wZ fun vs ac wx K Q hR hZ hK => ?_
  have t6 := hR.q 3;go_simp
  go_at_call 70
  refine (gH rb l sv _ _ _ _ (hZ.st rfl) HA.out).mono ?_;rintro e w' ⟨rfl, hs', hg'⟩;exact hK _ _ gz (hZ.num rfl rfl rfl hs' hg')
 ·refine pZ fun t vs ac wx K Q hR hZ hK => ?_
  have t0 : ac.tmps[0]? = some (.pointer (some ⟨pb, 0, none⟩)) := hR.o 0;go_simp;exact hK _ hZ
 ·refine pZ fun t vs ac wx K Q hR hZ hK => ?_
  have t8 := hR.q 5;go_simp;exact hK _ hZ
 ·refine pZ fun t vs ac wx K Q hR hZ hK => ?_
  have t9 := hR.q 6;go_simp;exact hK _ hZ
 ·refine pZ fun t vs ac wx K Q hR hZ hK => ?_
  have t10 := hR.q 7;have y0 := hZ.c0;go_simp;exact hK _ hZ
 ·refine wZ fun vs ac wx K Q hR hZ hK => ?_
  have t11 := hR.q 8;go_simp
  go_at_call 70
  refine (gH rb l sv _ _ _ _ (hZ.st rfl) HB.out).mono ?_;rintro e w' ⟨rfl, hs', hg'⟩;exact hK _ _ gz (hZ.num rfl rfl rfl hs' hg')
 ·refine pZ fun t vs ac wx K Q hR hZ hK => ?_
  have t7 := hR.weq 4 (by kernel_rfl) rfl rfl;have t12 := hR.weq 9 (by kernel_rfl) rfl rfl;go_simp;exact hK _ hZ
 ·refine wZ fun vs ac wx K Q hR hZ hK => ?_
  have t2 : ac.tmps[2]? = some (.pointer (some ⟨gg, 0, none⟩)) := hR.o 2;have t13 := hR.q 10;have hh := hZ.box rfl;have c0 : wx.cell? ⟨gg, 0, none⟩ = some (.int .u64 0) := by rw [ax wx _ 0 _ _ _ hh]; rfl
  have c1 : wx.cell? ⟨gg, 1, none⟩ = some (.int .u64 0) := by rw [ax wx _ 1 _ _ _ hh]; rfl
  have f0 : wx.frozen? ⟨gg, 0, none⟩ = false := by rw [aA wx _ 0 _ _ hh]
  have f1 : wx.frozen? ⟨gg, 1, none⟩ = false := by rw [aA wx _ 1 _ _ hh]
  go_simp;exact hK undef _ nofun (hZ.sto2 0 1 (.int .u64 (a : Nat)) (.int .u64 (b : Nat)) rfl rfl rfl rfl)
 intro vs wN hZ;simp only [bS, List.foldl_cons, List.foldl_nil];have HN := hid (au (hZ.box rfl) (au (hZ.st rfl) hZ.rk));clear hZ;go_simp;go_wp2_with fail;exact aC (v := .agg #[.int .u64 (a : Nat), .int .u64 (b : Nat)]) (results_cell_row rfl _ _ gg 67 _ _ _ rfl HN.out.1 Tryz.underlying67 rfl (by kernel_rfl)) rfl ⟨rfl, HN.out.2.1, Hu HN.out.2.2 (by have := HH.out.2.2; rw [HG.out] at this; exact this) (by have := HG.out; omega)⟩
def CL (k t pb rb g : Nat) (l : List UInt8) (sv : Value) (s : Option (List UInt8)) (f : Bool) (w : World) (e : Ending) (w' : World) : Prop :=
 e = .returned (.tuple #[]) ∧ ∃ cs', w'.1[g]? = some (.cells cs' 73 (0, 0)) ∧ bL w' (fun b => w.1.size ≤ b) true (fJ k t s f).1 (.agg cs') ∧ RdS w' pb rb l sv (fJ k t s f).2.1 (fJ k t s f).2.2 ∧ Rk (fun b => b = rb ∨ b = pb ∨ b = g) w w'
def sV (k fid : Nat) : Prop := ∀ (t pb rb g : Nat) (l : List UInt8) (sv : Value) (s : Option (List UInt8)) (f : Bool) (w : World), t < 18446744073709551616 → l.length ≤ 100000 → RdS w pb rb l sv s f → pb < g → w.1[g]? = some (.cells #[.int .i64 (k : Nat), .int .u64 (t : Nat), .int .u64 0, .int .u64 0, .int .u64 0, .int .u64 0, .int .i64 0, .int .u64 0, .int .u64 0, .slice none 0 0, .slice none 0 0] 73 (0, 0)) →
 Calls Tryz.prog fid #[.pointer (some ⟨pb, 0, none⟩), .pointer (some ⟨g, 0, none⟩)] w (CL k t pb rb g l sv s f w)
theorem jf (k : Nat) (hk : k = 1 ∨ k = 6 ∨ k = 7) : sV k 100 := by
 intro t pb rb g l sv s f w ht hl h hg hh;have h1 : fJ k t s f = (⟨k, t, 0, 0, 0, 0, .zero, []⟩, s, f) := by unfold fJ; rw [if_neg (by omega), if_neg (by omega), if_neg (by omega), if_neg (by omega)]
 have H := hid (au h1 (au h hh));clear h1 h hh
 go_enter Tryz.func100, Tryz.ntmps100
 go_wp2_with fail
 go_end0
 refine ⟨rfl, _, H.out.2.2, ?_, ?_, Rk.refl _ _⟩
 ·rw [H.out.1]; exact gN w _ k t 0 0 0 0 (by omega) ht (by omega) (by omega) (by omega) (by omega)
 ·rw [H.out.1]; exact H.out.2.1
theorem yN {w w' : World} {pb rb g : Nat} (h : Rg rb w w') : Rk (fun b => b = rb ∨ b = pb ∨ b = g) w w' := ⟨h.os, h.tape, h.output, h.size, fun b hb hn => h.keep b hb (fun e => hn (.inl e))⟩
theorem xk : sV 4 159 := by
 intro t pb rb g l sv s f w ht hl h hg hh;obtain ⟨x, s1, hx⟩ : ∃ x s1, bG s = (x, s1) := ⟨_, _, rfl⟩;have h1 : fJ 4 t s f = (⟨4, t, x, 0, 0, 0, .zero, []⟩, s1, f) := by unfold fJ; simp [hx]
 have hxl : x < 18446744073709551616 := by have := fC s; rw [hx] at this; exact this
 have c0 := h.c0;have H := hid (au h1 (au h hh));have HX := hid hx;have hlt := h.lt;have hgl : g < w.1.size := (ak hh).1;clear h1 h hh hx
 go_enter Tryz.func159, Tryz.ntmps159
 go_wp2_with fail;refine (gH rb l sv s s1 x w H.out.2.1.vr HX.out).mono ?_;rintro e w1 ⟨rfl, hs1, hg1⟩;have hh1 : w1.1[g]? = some (.cells _ 73 (0, 0)) := (hg1.keep g hgl (by omega)).trans H.out.2.2;have b2 : w1.cell? ⟨g, 2, none⟩ = some (.int .u64 0) := by rw [ax w1 _ 2 _ _ _ hh1]; rfl
 have f2 : w1.frozen? ⟨g, 2, none⟩ = false := by rw [aA w1 _ 2 _ _ hh1]
 have HQ := hid (au hh1 (au (H.out.2.1.step hs1 hg1) hg1));clear hh1 hs1 hg1 c0;go_wp2_with fail
 go_end0
 refine ⟨rfl, _, aM HQ.out.1 rfl, ?_, ?_, (yN HQ.out.2.2).setCell g (.inr (.inr (.inr rfl))) 2 _⟩
 ·rw [H.out.1]; exact gN _ _ 4 t x 0 0 0 (by omega) ht hxl (by omega) (by omega) (by omega)
 ·rw [H.out.1]; exact HQ.out.2.1.keep (fun b hb => ay _ _ _ _ (by simp; omega))
theorem Ay : sV 2 146 := by
 intro t pb rb g l sv s f w ht hl h hg hh;obtain ⟨x, s1, hx⟩ : ∃ x s1, bG s = (x, s1) := ⟨_, _, rfl⟩;obtain ⟨a, b, s2, hv⟩ : ∃ a b s2, iX s1 = ((a, b), s2) := ⟨_, _, _, rfl⟩;have h1 : fJ 2 t s f = (⟨2, t, x, a, b, 0, .zero, []⟩, s2, f) := by unfold fJ; simp [hx, hv]
 have hxl : x < 18446744073709551616 := by have := fC s; rw [hx] at this; exact this
 have hvl := qL s1;rw [hv] at hvl;have c0 := h.c0;have H := hid (au h1 (au h hh));have HX := hid (au hx hv);have HL := hid hvl;have hlt := h.lt;have hgl : g < w.1.size := (ak hh).1;clear h1 h hh hx hv hvl
 go_enter Tryz.func146, Tryz.ntmps146
 go_wp2_with fail;refine (gH rb l sv s s1 x w H.out.2.1.vr HX.out.1).mono ?_;rintro e w1 ⟨rfl, hs1, hg1⟩;have HR1 := hid (au (H.out.2.1.step hs1 hg1) hg1);clear hs1 hg1 c0;go_wp2_with fail;refine (mG pb rb l sv s1 s2 f a b w1 HR1.out.1 HX.out.2).mono ?_;rintro e w2 ⟨rfl, hs2, hg2⟩;have hh1 : w2.1[g]? = some (.cells _ 73 (0, 0)) := ((HR1.out.2.trans hg2).keep g hgl (by omega)).trans H.out.2.2;have b2 : w2.cell? ⟨g, 2, none⟩ = some (.int .u64 0) := by rw [ax w2 _ 2 _ _ _ hh1]; rfl
 have b3 : w2.cell? ⟨g, 3, none⟩ = some (.int .u64 0) := by rw [ax w2 _ 3 _ _ _ hh1]; rfl
 have b4 : w2.cell? ⟨g, 4, none⟩ = some (.int .u64 0) := by rw [ax w2 _ 4 _ _ _ hh1]; rfl
 have f2 : w2.frozen? ⟨g, 2, none⟩ = false := by rw [aA w2 _ 2 _ _ hh1]
 have f3 : w2.frozen? ⟨g, 3, none⟩ = false := by rw [aA w2 _ 3 _ _ hh1]
 have f4 : w2.frozen? ⟨g, 4, none⟩ = false := by rw [aA w2 _ 4 _ _ hh1]
 have HQ := hid (au hh1 (au (HR1.out.1.step hs2 hg2) (HR1.out.2.trans hg2)));clear hh1 hs2 hg2;go_wp2_with fail
 go_end0
 refine ⟨rfl, _, aM (aM (aM HQ.out.1 rfl) rfl) rfl, ?_, ?_, (((yN HQ.out.2.2).setCell g (.inr (.inr (.inr rfl))) 2 _).setCell g (.inr (.inr (.inr rfl))) 3 _).setCell g (.inr (.inr (.inr rfl))) 4 _⟩
 ·rw [H.out.1]; exact gN _ _ 2 t x a b 0 (by omega) ht hxl HL.out.1 HL.out.2 (by omega)
 ·rw [H.out.1]; exact HQ.out.2.1.keep (fun b hb => (ay _ _ _ _ (by simp; omega)).trans ((ay _ _ _ _ (by simp; omega)).trans (ay _ _ _ _ (by simp; omega))))
theorem yO : sV 3 154 := by
 intro t pb rb gg l sv s f w ht hl h hg hh;obtain ⟨x, s1, hx⟩ : ∃ x s1, bG s = (x, s1) := ⟨_, _, rfl⟩;obtain ⟨v, s2, hv⟩ : ∃ v s2, bG s1 = (v, s2) := ⟨_, _, rfl⟩;have h1 : fJ 3 t s f = (⟨3, t, x, 0, 0, v, .zero, []⟩, s2, f) := by unfold fJ; simp [hx, hv]
 have hxl : x < 18446744073709551616 := by have := fC s; rw [hx] at this; exact this
 have hvl : v < 18446744073709551616 := by have := fC s1; rw [hv] at this; exact this
 have HA := hid hx;have HB := hid hv;have H := hid h1;have HZ := hid (RdZ.start (sts := [s, s1, s2, s2, s2]) (rows := [#[.int .i64 3, .int .u64 (t : Nat), .int .u64 0, .int .u64 0, .int .u64 0, .int .u64 0, .int .i64 0, .int .u64 0, .int .u64 0, .slice none 0 0, .slice none 0 0], #[.int .i64 3, .int .u64 (t : Nat), .int .u64 0, .int .u64 0, .int .u64 0, .int .u64 0, .int .i64 0, .int .u64 0, .int .u64 0, .slice none 0 0, .slice none 0 0], #[.int .i64 3, .int .u64 (t : Nat), .int .u64 0, .int .u64 0, .int .u64 0, .int .u64 0, .int .i64 0, .int .u64 0, .int .u64 0, .slice none 0 0, .slice none 0 0], #[.int .i64 3, .int .u64 (t : Nat), .int .u64 (x : Nat), .int .u64 0, .int .u64 0, .int .u64 0, .int .i64 0, .int .u64 0, .int .u64 0, .slice none 0 0, .slice none 0 0], #[.int .i64 3, .int .u64 (t : Nat), .int .u64 (x : Nat), .int .u64 0, .int .u64 0, .int .u64 (v : Nat), .int .i64 0, .int .u64 0, .int .u64 0, .slice none 0 0, .slice none 0 0]]) (vs := fun _ => undef) h hh hg rfl rfl);clear h1 h hh hx hv
 go_enter Tryz.func154, Tryz.ntmps154
 go_wp2_with fail;refine dC (w0 := w) rfl [.eq (.pointer (some ⟨gg, 0, none⟩)), .eq (.pointer (some ⟨gg, 0, none⟩)), .eq (.pointer (some ⟨pb, 0, none⟩)), .eq (.pointer (some ⟨pb, 0, none⟩)), .eq (.pointer (some ⟨pb, 0, none⟩)), .eq (.pointer (some ⟨rb, 0, none⟩)), .weq (.int .u64 (x : Nat)), .eq (.pointer (some ⟨pb, 0, none⟩)), .eq (.pointer (some ⟨pb, 0, none⟩)), .eq (.pointer (some ⟨pb, 0, none⟩)), .eq (.pointer (some ⟨rb, 0, none⟩)), .weq (.int .u64 (v : Nat)), .eq (.pointer (some ⟨gg, 0, none⟩)), .eq (.pointer (some ⟨gg, 2, none⟩)), .wr, .eq (.pointer (some ⟨gg, 0, none⟩)), .eq (.pointer (some ⟨gg, 5, none⟩)), .wr] (RdZ w pb rb gg l sv f 73 [s, s1, s2, s2, s2] [#[.int .i64 3, .int .u64 (t : Nat), .int .u64 0, .int .u64 0, .int .u64 0, .int .u64 0, .int .i64 0, .int .u64 0, .int .u64 0, .slice none 0 0, .slice none 0 0], #[.int .i64 3, .int .u64 (t : Nat), .int .u64 0, .int .u64 0, .int .u64 0, .int .u64 0, .int .i64 0, .int .u64 0, .int .u64 0, .slice none 0 0, .slice none 0 0], #[.int .i64 3, .int .u64 (t : Nat), .int .u64 0, .int .u64 0, .int .u64 0, .int .u64 0, .int .i64 0, .int .u64 0, .int .u64 0, .slice none 0 0, .slice none 0 0], #[.int .i64 3, .int .u64 (t : Nat), .int .u64 (x : Nat), .int .u64 0, .int .u64 0, .int .u64 0, .int .i64 0, .int .u64 0, .int .u64 0, .slice none 0 0, .slice none 0 0], #[.int .i64 3, .int .u64 (t : Nat), .int .u64 (x : Nat), .int .u64 0, .int .u64 0, .int .u64 (v : Nat), .int .i64 0, .int .u64 0, .int .u64 0, .slice none 0 0, .slice none 0 0]]) (by kernel_rfl) (⟨fun _ => undef, HZ.out⟩) ⟨?_, ?_, ?_, ?_, ?_, ?_, ?_, ?_, ?_, ?_, ?_, ?_, ?_, ?_, ?_, ?_, ?_, ?_, trivial⟩ (fun vs => [(4, .pointer (some ⟨gg, 0, none⟩)), (5, .pointer (some ⟨gg, 0, none⟩)), (6, .pointer (some ⟨pb, 0, none⟩)), (7, .pointer (some ⟨pb, 0, none⟩)), (8, .pointer (some ⟨pb, 0, none⟩)), (9, .pointer (some ⟨rb, 0, none⟩)), (10, .int .u64 (x : Nat)), (11, .pointer (some ⟨pb, 0, none⟩)), (12, .pointer (some ⟨pb, 0, none⟩)), (13, .pointer (some ⟨pb, 0, none⟩)), (14, .pointer (some ⟨rb, 0, none⟩)), (15, .int .u64 (v : Nat)), (16, .pointer (some ⟨gg, 0, none⟩)), (17, .pointer (some ⟨gg, 2, none⟩)), (18, .pointer (some ⟨gg, 0, none⟩)), (19, .pointer (some ⟨gg, 5, none⟩))]) (fun _ => rfl) 4 (by kernel_rfl) ?_
 ·refine pZ fun t vs ac wx K Q hR hZ hK => ?_
  have t1 : ac.tmps[1]? = some (.pointer (some ⟨gg, 0, none⟩)) := hR.o 1;go_simp;exact hK _ hZ
 ·refine pZ fun t vs ac wx K Q hR hZ hK => ?_
  have t1 : ac.tmps[1]? = some (.pointer (some ⟨gg, 0, none⟩)) := hR.o 1;go_simp;exact hK _ hZ
 ·refine pZ fun t vs ac wx K Q hR hZ hK => ?_
  have t0 : ac.tmps[0]? = some (.pointer (some ⟨pb, 0, none⟩)) := hR.o 0;go_simp;exact hK _ hZ
 ·refine pZ fun t vs ac wx K Q hR hZ hK => ?_
  have t6 := hR.q 2;go_simp;exact hK _ hZ
 ·refine pZ fun t vs ac wx K Q hR hZ hK => ?_
  have t7 := hR.q 3;go_simp;exact hK _ hZ
 ·refine pZ fun t vs ac wx K Q hR hZ hK => ?_
  have t8 := hR.q 4;have y0 := hZ.c0;go_simp;exact hK _ hZ
 ·refine wZ fun vs ac wx K Q hR hZ hK => ?_
  have t9 := hR.q 5;go_simp
  go_at_call 70
  refine (gH rb l sv _ _ _ _ (hZ.st rfl) HA.out).mono ?_;rintro e w' ⟨rfl, hs', hg'⟩;exact hK _ _ gz (hZ.num rfl rfl rfl hs' hg')
 ·refine pZ fun t vs ac wx K Q hR hZ hK => ?_
  have t0 : ac.tmps[0]? = some (.pointer (some ⟨pb, 0, none⟩)) := hR.o 0;go_simp;exact hK _ hZ
 ·refine pZ fun t vs ac wx K Q hR hZ hK => ?_
  have t11 := hR.q 7;go_simp;exact hK _ hZ
 ·refine pZ fun t vs ac wx K Q hR hZ hK => ?_
  have t12 := hR.q 8;go_simp;exact hK _ hZ
 ·refine pZ fun t vs ac wx K Q hR hZ hK => ?_
  have t13 := hR.q 9;have y0 := hZ.c0;go_simp;exact hK _ hZ
 ·refine wZ fun vs ac wx K Q hR hZ hK => ?_
  have t14 := hR.q 10;go_simp
  go_at_call 70
  refine (gH rb l sv _ _ _ _ (hZ.st rfl) HB.out).mono ?_;rintro e w' ⟨rfl, hs', hg'⟩;exact hK _ _ gz (hZ.num rfl rfl rfl hs' hg')
 ·refine pZ fun t vs ac wx K Q hR hZ hK => ?_
  have t4 := hR.q 0;go_simp;exact hK _ hZ
 ·refine pZ fun t vs ac wx K Q hR hZ hK => ?_
  have t16 := hR.q 12;go_simp;exact hK _ hZ
 ·refine wZ fun vs ac wx K Q hR hZ hK => ?_
  have t17 := hR.q 13;have t10 := hR.weq 6 (by kernel_rfl) rfl rfl;have hh := hZ.box rfl;have c0 : wx.cell? ⟨gg, 2, none⟩ = some (.int .u64 0) := by rw [ax wx _ 2 _ _ _ hh]; rfl
  have f0 : wx.frozen? ⟨gg, 2, none⟩ = false := by rw [aA wx _ 2 _ _ hh]
  go_simp;exact hK undef _ nofun (hZ.sto 2 (.int .u64 (x : Nat)) rfl rfl rfl rfl)
 ·refine pZ fun t vs ac wx K Q hR hZ hK => ?_
  have t5 := hR.q 1;go_simp;exact hK _ hZ
 ·refine pZ fun t vs ac wx K Q hR hZ hK => ?_
  have t18 := hR.q 15;go_simp;exact hK _ hZ
 ·refine wZ fun vs ac wx K Q hR hZ hK => ?_
  have t19 := hR.q 16;have t15 := hR.weq 11 (by kernel_rfl) rfl rfl;have hh := hZ.box rfl;have c0 : wx.cell? ⟨gg, 5, none⟩ = some (.int .u64 0) := by rw [ax wx _ 5 _ _ _ hh]; rfl
  have f0 : wx.frozen? ⟨gg, 5, none⟩ = false := by rw [aA wx _ 5 _ _ hh]
  go_simp;exact hK undef _ nofun (hZ.sto 5 (.int .u64 (v : Nat)) rfl rfl rfl rfl)
 intro vs wN hZ;simp only [bS, List.foldl_cons, List.foldl_nil];have HN := hid (au (hZ.box rfl) (au (hZ.at rfl) hZ.rk));clear hZ;go_simp;go_wp2_with fail
 go_end0
 refine ⟨rfl, _, HN.out.1, ?_, ?_, ⟨HN.out.2.2.os, HN.out.2.2.tape, HN.out.2.2.output, HN.out.2.2.size, fun b hb hn => HN.out.2.2.keep b hb (fun e => hn (e.elim .inl (fun e => .inr (.inr e))))⟩⟩
 ·rw [H.out]; exact gN _ _ 3 t x 0 0 v (by omega) ht hxl (by omega) (by omega) hvl
 ·rw [H.out]; exact HN.out.2.1
theorem vI {s : Option (List UInt8)} {n : Nat} (h : ∀ r, s = some r → r.length ≤ n) : (dD s).1.length ≤ n := by
 cases s with
 | none => simp [dD, bG, dF]
 | some r =>
  have hr := h r rfl;unfold dD;cases h1 : bf r with
  | none => simp [di h1, dF]
  | some x =>
   obtain ⟨v, r'⟩ := x;have h2 := dX h1;rw [aY h1];show (if v ≤ r'.length then (r'.take v, some (r'.drop v)) else ([], none) : List UInt8 × Option (List UInt8)).1.length ≤ n;split
   ·simp; omega
   ·simp
theorem yP {w0 w1 w2 : World} {rb pb : Nat} (h : Rk (fun b => b = rb ∨ b = pb) w0 w1) (hs : w1.1.size ≤ w2.1.size) (ho : w2.os = w1.os ∧ w2.tape = w1.tape ∧ w2.output = w1.output) (hk : ∀ b, b < w1.1.size → b ≠ pb → b < w0.1.size → w2.1[b]? = w1.1[b]?) : Rk (fun b => b = rb ∨ b = pb) w0 w2 :=
 ⟨ho.1.trans h.os, ho.2.1.trans h.tape, ho.2.2.trans h.output, Nat.le_trans h.size hs, fun b hb hn => (hk b (by have := h.size; omega) (fun e => hn (.inr e)) hb).trans (h.keep b hb hn)⟩
theorem qF (pb rb : Nat) (l : List UInt8) (sv : Value) (s s' : Option (List UInt8)) (f f' : Bool) (p : Ex) (w : World) (hl : l.length ≤ 100000) (h : RdS w pb rb l sv s f) (hp : gI s f = (p, s', f')) :
  Calls Tryz.prog 167 #[.pointer (some ⟨pb, 0, none⟩)] w fun e w' => ∃ v, e = .returned v ∧ aT w' (fun b => w.1.size ≤ b) true p v ∧ RdS w' pb rb l sv s' f' ∧ Rk (fun b => b = rb ∨ b = pb) w w' := by
 obtain ⟨tx, htx⟩ : ∃ tx, dD s = (tx, s') := by unfold gI at hp; simp only [Prod.mk.injEq] at hp; exact ⟨(dD s).1, by rw [← hp.2.1]⟩
 have htl : tx.length ≤ 100000 := by
  have := vI (s := s) (n := 100000) (fun r hr => by have h1 := h.vr; rw [hr] at h1; have := h1.left; omega);rw [htx] at this; exact this
 have hpf : p = (bM tx).getD .zero ∧ f' = (f || (bM tx).isNone) := by unfold gI at hp; rw [htx] at hp; simp only [Prod.mk.injEq] at hp; exact ⟨hp.1.symm, hp.2.2.symm⟩
 have hb1 : Below w.1.size w (w.alloc (.cells #[.int .i64 0, .int .u64 0, .int .u64 0, .slice none 0 0] 70)) := br.alloc nl _;have hz : (w.alloc (.cells #[.int .i64 0, .int .u64 0, .int .u64 0, .slice none 0 0] 70)).1[w.1.size]? = some (.cells #[.int .i64 0, .int .u64 0, .int .u64 0, .slice none 0 0] 70 (0, 0)) := aK _ _ _ rfl;have hr1 := h.below hb1;have c0 := hr1.c0;have hplt := h.plt;have hrlt := h.lt;have HT := hid (yM rb l sv s _ hr1.vr);rw [htx] at HT;have HH := hid (au hr1 (au hz hb1));have HPF := hid hpf;clear h hp htx hpf hb1 hz hr1
 go_enter Tryz.func167, Tryz.ntmps167
 go_wp2_with fail;refine HT.out.mono ?_;rintro e w1 ⟨v1, rfl, hs1, hg1, ho1⟩;obtain ⟨sa, sc, rfl⟩ := aQ ho1;have hz1 := hg1.size;simp only [aD] at hz1;have hrd1 := HH.out.1.step hs1 hg1;have hbx1 : w1.1[w.1.size]? = some (.cells #[.int .i64 0, .int .u64 0, .int .u64 0, .slice none 0 0] 70 (0, 0)) := (hg1.keep _ (by simp) (by omega)).trans HH.out.2.1;have hk1 : Rk (fun b => b = rb ∨ b = pb) w w1 := (Rk.of_below HH.out.2.2).trans' ⟨hg1.os, hg1.tape, hg1.output, hg1.size, fun b hb hn => hg1.keep b hb hn⟩ (fun i _ hi => .inl hi);have HP := hid (uJ _ true tx _ w1 (aO.of_owns ho1) htl);have H1 := hid (au hrd1 (au hbx1 hk1));clear hs1 hg1 ho1 hrd1 hbx1 hk1 c0;go_wp2_with fail;refine HP.out.mono ?_;rintro e w2 ⟨v2, rfl, hv2, hb2⟩;obtain ⟨q0, q1, q2, q3, q4, q5, rfl⟩ := hv2.conc;have hz2 := hb2.size;have lp2 : pb < w2.1.size := by omega
 have hrd2 := H1.out.1.below hb2;obtain ⟨c1, f1⟩ := hrd2.c1;have hbx2 : w2.1[w.1.size]? = some (.cells #[.int .i64 0, .int .u64 0, .int .u64 0, .slice none 0 0] 70 (0, 0)) := (hb2.block _ (by omega)).trans H1.out.2.1;have hk2 : Rk (fun b => b = rb ∨ b = pb) w w2 := H1.out.2.2.trans (Rk.of_below hb2);have H2 := hid (au hrd2 (au hbx2 (au hk2 hv2)));clear hb2 hrd2 hbx2 hk2 hv2;have hfin : ∀ (fb : Bool) (W4 : World), fb = f' → W4 = (w2.setCell ⟨pb, 1, none⟩ (.bool fb)).alloc (.cells #[.int .i64 q0, .int .u64 q1, .int .u64 q2, .slice q3 q4 q5] 70) →
   W4.1[w.1.size]? = some (.cells #[.int .i64 0, .int .u64 0, .int .u64 0, .slice none 0 0] 70 (0, 0)) ∧ W4.1[w2.1.size]? = some (.cells #[.int .i64 q0, .int .u64 q1, .int .u64 q2, .slice q3 q4 q5] 70 (0, 0)) ∧ aT (W4.setRow w.1.size #[.int .i64 q0, .int .u64 q1, .int .u64 q2, .slice q3 q4 q5]) (fun b => w.1.size ≤ b) true p (.agg #[.int .i64 q0, .int .u64 q1, .int .u64 q2, .slice q3 q4 q5]) ∧ RdS (W4.setRow w.1.size #[.int .i64 q0, .int .u64 q1, .int .u64 q2, .slice q3 q4 q5]) pb rb l sv s' f' ∧ Rk (fun b => b = rb ∨ b = pb) w (W4.setRow w.1.size #[.int .i64 q0, .int .u64 q1, .int .u64 q2, .slice q3 q4 q5]) := by
  intro fb W4 hfb hW4;subst hfb;have hkp : ∀ b, b < w2.1.size → b ≠ pb → W4.1[b]? = w2.1[b]? := fun b hb hn => by
   rw [hW4];exact (aL _ _ _ (by simpa using hb)).trans (ay _ _ _ _ (by simpa using hn))
  have h0 := H2.out.1.hd;have hp4 : W4.1[pb]? = some (.cells #[.pointer (some ⟨rb, 0, none⟩), .bool fb] 175 (0, 0)) := by
   rw [hW4];exact (aL _ _ _ (by simp; omega)).trans (aM h0 rfl)
  refine ⟨(hkp _ (by omega) (by omega)).trans H2.out.2.1, ?_, ?_, ⟨(setRow_other _ _ _ _ (by omega)).trans hp4, H2.out.1.vr.keep (fun b hb => (setRow_other _ _ _ _ (by omega)).trans (hkp b (by omega) (by omega))), hrlt⟩, ?_⟩
  ·rw [hW4]
   exact aK _ _ _ (by simp)
  ·rw [HPF.out.1]
   refine aT.keep (w := w2) (S := fun b => w1.1.size ≤ b) (fun b hb hbl => (setRow_other _ _ _ _ (by omega)).trans (hkp b hbl (by omega))) (fun b _ hb => by omega) H2.out.2.2.2
  ·refine Rk.setRow ?_ _ (.inl nl) _
   refine yP H2.out.2.2.1 (by rw [hW4]; simp) (by rw [hW4]; exact ⟨rfl, rfl, rfl⟩) (fun b hb hn _ => hkp b hb hn)
 have HF := hid hfin;clear hfin;have hc3 : (f = true) ∨ (f = false ∧ bM tx = none) ∨ (f = false ∧ (bM tx).isSome = true) := by
  cases f <;> cases bM tx <;> simp
 rcases hc3 with hf | ⟨hf, ht⟩ | ⟨hf, ht⟩
 ·subst hf
  have hff : true = f' := by rw [HPF.out.2]; rfl
  have HFF := hid (HF.out true _ hff rfl);clear hff;generalize code (bM tx) = cd
  go_upto_region 3 with fail
  generalize (w2.setCell ⟨pb, 1, none⟩ (.bool true)).alloc (.cells #[.int .i64 q0, .int .u64 q1, .int .u64 q2, .slice q3 q4 q5] 70) = W4 at HFF ⊢;have e0 : W4.cell? ⟨w2.1.size, 0, none⟩ = some (.int .i64 q0) := by rw [ax W4 _ 0 _ _ _ HFF.out.2.1]; rfl
  have e1 : W4.cell? ⟨w2.1.size, 1, none⟩ = some (.int .u64 q1) := by rw [ax W4 _ 1 _ _ _ HFF.out.2.1]; rfl
  have e2 : W4.cell? ⟨w2.1.size, 2, none⟩ = some (.int .u64 q2) := by rw [ax W4 _ 2 _ _ _ HFF.out.2.1]; rfl
  have e3 : W4.cell? ⟨w2.1.size, 3, none⟩ = some (.slice q3 q4 q5) := by rw [ax W4 _ 3 _ _ _ HFF.out.2.1]; rfl
  go_wp2_with (refine wpList_store_row rfl 70 (.tmp 2) (.tmp 25) rfl rfl w.1.size rfl #[.int .i64 q0, .int .u64 q1, .int .u64 q2, .slice q3 q4 q5] rfl 70 _ HFF.out.1 (by kernel_rfl) rfl (by simp [Value.oneCell']) ?_)
  exact aC (v := .agg #[.int .i64 q0, .int .u64 q1, .int .u64 q2, .slice q3 q4 q5]) (results_cell_row rfl _ _ w.1.size 70 _ _ _ rfl (aB _ _ _ _ _ _ HFF.out.1) Tryz.underlying70 rfl (by kernel_rfl)) rfl ⟨_, rfl, HFF.out.2.2.1, HFF.out.2.2.2.1, HFF.out.2.2.2.2⟩
 ·subst hf
  have hff : true = f' := by rw [HPF.out.2, ht]; rfl
  have HFF := hid (HF.out true _ hff rfl);have hcd : code (bM tx) = 40 := by rw [ht]; rfl
  rw [hcd];clear hff ht hcd
  go_upto_region 3 with fail
  generalize (w2.setCell ⟨pb, 1, none⟩ (.bool true)).alloc (.cells #[.int .i64 q0, .int .u64 q1, .int .u64 q2, .slice q3 q4 q5] 70) = W4 at HFF ⊢;have e0 : W4.cell? ⟨w2.1.size, 0, none⟩ = some (.int .i64 q0) := by rw [ax W4 _ 0 _ _ _ HFF.out.2.1]; rfl
  have e1 : W4.cell? ⟨w2.1.size, 1, none⟩ = some (.int .u64 q1) := by rw [ax W4 _ 1 _ _ _ HFF.out.2.1]; rfl
  have e2 : W4.cell? ⟨w2.1.size, 2, none⟩ = some (.int .u64 q2) := by rw [ax W4 _ 2 _ _ _ HFF.out.2.1]; rfl
  have e3 : W4.cell? ⟨w2.1.size, 3, none⟩ = some (.slice q3 q4 q5) := by rw [ax W4 _ 3 _ _ _ HFF.out.2.1]; rfl
  go_wp2_with (refine wpList_store_row rfl 70 (.tmp 2) (.tmp 25) rfl rfl w.1.size rfl #[.int .i64 q0, .int .u64 q1, .int .u64 q2, .slice q3 q4 q5] rfl 70 _ HFF.out.1 (by kernel_rfl) rfl (by simp [Value.oneCell']) ?_)
  exact aC (v := .agg #[.int .i64 q0, .int .u64 q1, .int .u64 q2, .slice q3 q4 q5]) (results_cell_row rfl _ _ w.1.size 70 _ _ _ rfl (aB _ _ _ _ _ _ HFF.out.1) Tryz.underlying70 rfl (by kernel_rfl)) rfl ⟨_, rfl, HFF.out.2.2.1, HFF.out.2.2.2.1, HFF.out.2.2.2.2⟩
 ·subst hf
  have hff : false = f' := by rw [HPF.out.2]; cases h : bM tx <;> simp [h] at ht ⊢
  have HFF := hid (HF.out false _ hff rfl);have hcd : code (bM tx) = 0 := by cases h : bM tx with | none => simp [h] at ht | some x => rfl
  rw [hcd];clear hff ht hcd
  go_upto_region 3 with fail
  generalize (w2.setCell ⟨pb, 1, none⟩ (.bool false)).alloc (.cells #[.int .i64 q0, .int .u64 q1, .int .u64 q2, .slice q3 q4 q5] 70) = W4 at HFF ⊢;have e0 : W4.cell? ⟨w2.1.size, 0, none⟩ = some (.int .i64 q0) := by rw [ax W4 _ 0 _ _ _ HFF.out.2.1]; rfl
  have e1 : W4.cell? ⟨w2.1.size, 1, none⟩ = some (.int .u64 q1) := by rw [ax W4 _ 1 _ _ _ HFF.out.2.1]; rfl
  have e2 : W4.cell? ⟨w2.1.size, 2, none⟩ = some (.int .u64 q2) := by rw [ax W4 _ 2 _ _ _ HFF.out.2.1]; rfl
  have e3 : W4.cell? ⟨w2.1.size, 3, none⟩ = some (.slice q3 q4 q5) := by rw [ax W4 _ 3 _ _ _ HFF.out.2.1]; rfl
  go_wp2_with (refine wpList_store_row rfl 70 (.tmp 2) (.tmp 25) rfl rfl w.1.size rfl #[.int .i64 q0, .int .u64 q1, .int .u64 q2, .slice q3 q4 q5] rfl 70 _ HFF.out.1 (by kernel_rfl) rfl (by simp [Value.oneCell']) ?_)
  exact aC (v := .agg #[.int .i64 q0, .int .u64 q1, .int .u64 q2, .slice q3 q4 q5]) (results_cell_row rfl _ _ w.1.size 70 _ _ _ rfl (aB _ _ _ _ _ _ HFF.out.1) Tryz.underlying70 rfl (by kernel_rfl)) rfl ⟨_, rfl, HFF.out.2.2.1, HFF.out.2.2.2.1, HFF.out.2.2.2.2⟩
end Go.Proofs.YtlpgokcapdjgjaaGreatDoor
