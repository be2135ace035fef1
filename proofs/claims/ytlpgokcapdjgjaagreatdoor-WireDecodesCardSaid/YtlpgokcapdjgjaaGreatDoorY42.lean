/- Walks. -/
import Derived.Test.YtlpgokcapdjgjaaGreatDoorY45
import Derived.Test.YtlpgokcapdjgjaaGreatDoorYW24c
set_option maxHeartbeats 4000000
set_option maxRecDepth 100000
namespace Go.Proofs.YtlpgokcapdjgjaaGreatDoor
open Go.RowKit Go
set_option linter.unusedVariables false
set_option linter.unusedSimpArgs false
theorem sS (d : Nat) (tb rb a n : Nat) (l : List UInt8) (sv : Value) (w : World) (hrt : rb < tb) (hn : n ≤ 32) (hv : Vr w rb a 0 l sv) (ht : Tk w tb rb n) (o : Option (Ex × List UInt8)) (ho : ∀ e r, o = some (e, r) → n < e.size)
  (hc : a = l.length ∨ d = 0 ∨ n = 0) : Calls Tryz.prog 249 #[.pointer (some ⟨tb, 0, none⟩), .int .i64 d] w (eB tb rb l sv n o w) := by
 have hlt := ht.lt;have hal := hv.2.2.1;have hba : Below w.1.size w (w.alloc (.cells #[.int .i64 0, .int .u64 0, .int .u64 0, .slice none 0 0] 70)) := br.alloc nl _;have HV := hid (hv.below hba);have HT := hid (ht.keep (hba.block _ hlt));obtain ⟨c0, c1, f⟩ := (ht.keep (hba.block _ hlt)).cells;have HB := hid hba;have HO := hid ho;clear hv ht hba f ho
 go_enter Tryz.func249, Tryz.ntmps249
 go_wp2_with fail;refine (fO rb a 1 l sv _ HV.out (by omega)).mono ?_;rintro r w1 ⟨v, pp, a', e', rfl, hv1, hg1, hown1, hyes, hno⟩;have hlta : tb < (w.alloc (.cells #[.int .i64 0, .int .u64 0, .int .u64 0, .slice none 0 0] 70)).1.size := by simp; omega
 have hz1 := hg1.size;simp only [aD] at hz1;have ht1 := HT.out.keep (hg1.keep tb hlta (by omega));have hbx1 : w1.1[w.1.size]? = some (.cells #[.int .i64 0, .int .u64 0, .int .u64 0, .slice none 0 0] 70 (0, 0)) := (hg1.keep _ (by simp) (by have := HV.out.lt; omega)).trans (aK _ _ _ rfl);have hr1 : Rk (fun b => b = rb ∨ b = tb) w w1 := (Rk.of_below HB.out).trans' ⟨hg1.os, hg1.tape, hg1.output, hg1.size, fun b hb hn => hg1.keep b hb hn⟩ (fun i _ h => Or.inl h);clear c0 c1;obtain ⟨c0, c1, f⟩ := ht1.cells;have f1 := f 1;have hl1 : tb < w1.1.size := ht1.lt;obtain ⟨sa, sc, rfl⟩ := aQ hown1;have hv2 : Vr (w1.setCell ⟨tb, 1, none⟩ (.int .i64 ((n : Int) - 1))) rb a' e' l sv := hv1.keep (fun b hb => ay _ _ _ _ (by simp; omega));have ht2 : Tk (w1.setCell ⟨tb, 1, none⟩ (.int .i64 ((n : Int) - 1))) tb rb ((n : Int) - 1) := aM ht1 (by simp);have hbx2 : (w1.setCell ⟨tb, 1, none⟩ (.int .i64 ((n : Int) - 1))).1[w.1.size]? = some (.cells #[.int .i64 0, .int .u64 0, .int .u64 0, .slice none 0 0] 70 (0, 0)) := (ay _ _ _ _ (by simp; omega)).trans hbx1;have hr2 : Rk (fun b => b = rb ∨ b = tb) w (w1.setCell ⟨tb, 1, none⟩ (.int .i64 ((n : Int) - 1))) := hr1.setCell tb (Or.inr (Or.inr rfl)) _ _;have hend : eB tb rb l sv n o w (.returned (.tuple #[.agg #[.int .i64 0, .int .u64 0, .int .u64 0, .slice none 0 0], .bool false])) ((w1.setCell ⟨tb, 1, none⟩ (.int .i64 ((n : Int) - 1))).setRow w.1.size #[.int .i64 0, .int .u64 0, .int .u64 0, .slice none 0 0]) :=
  ⟨.zero, _, a', e', (n : Int) - 1, false, rfl, bN (by omega) (by omega) (by omega) (by omega), hv2.keep (fun b hb => setRow_other _ _ _ _ (by omega)), ht2.keep (setRow_other _ _ _ _ (by omega)), hr2.setRow _ (Or.inl nl) _, (fun h => by cases h), fun _ => HO.out⟩
 have hpl : pp.length = 0 ∨ pp.length = 1 := by
  by_cases h : 1 ≤ l.length - a
  ·right; rw [(hyes h).2.1]; simp; omega
  ·left; rw [(hno h).2.1]; rfl
 have hpa : a = l.length → pp.length = 0 := fun h => by rw [(hno (by omega)).2.1]; rfl
 have x0 : w1.cell? ⟨w.1.size, 0, none⟩ = some (.int .i64 0) := by rw [ax w1 _ 0 _ _ _ hbx1]; rfl
 have HE := hid (au hend hbx2);have hne : ¬ w.1.size = tb := by omega
 have hne' : ¬ tb = w.1.size := by omega
 have c3 : ∀ o, (w1.setCell ⟨tb, 1, none⟩ (.int .i64 ((n : Int) - 1))).cell? ⟨w.1.size, o, none⟩ = (#[.int .i64 0, .int .u64 0, .int .u64 0, .slice none 0 0] : Array Value)[o]? := fun o => ax _ _ o _ _ _ hbx2
 have hl3 : w.1.size < w1.1.size := by omega
 clear hend hbx2 hr1 hr2 hv1 hv2 ht1 ht2 hg1 hown1 hyes hno f hbx1 x0;have hcc : pp.length = 0 ∨ (pp.length = 1 ∧ d = 0) ∨ (pp.length = 1 ∧ 0 < d ∧ n = 0) := by
  rcases hpl with h | h
  ·exact Or.inl h
  ·rcases hc with h1 | h1 | h1
   ·exact Or.inl (hpa h1)
   ·exact Or.inr (Or.inl ⟨h, h1⟩)
   ·rcases Nat.eq_zero_or_pos d with h2 | h2
    ·exact Or.inr (Or.inl ⟨h, h2⟩)
    ·exact Or.inr (Or.inr ⟨h, h2, h1⟩)
 clear hc hpa hpl;rcases hcc with h | ⟨h, rfl⟩ | ⟨h, hd0, hn0⟩
 ·rw [h]
  clear h
  go_wp2_with (refine wpList_store_row rfl 70 (.tmp 4) (.tmp 39) rfl rfl w.1.size rfl _ rfl 70 #[.int .i64 0, .int .u64 0, .int .u64 0, .slice none 0 0] HE.out.2 (by kernel_rfl) rfl (by simp [Value.oneCell']) ?_)
  exact aC (v := .tuple #[.agg #[.int .i64 0, .int .u64 0, .int .u64 0, .slice none 0 0], .bool false]) (aN rfl _ _ w.1.size 70 _ _ _ _ rfl (aB _ _ _ _ _ _ HE.out.2) Tryz.underlying70 rfl (by kernel_rfl) rfl) rfl HE.out.1
 ·rw [h]
  clear h
  go_wp2_with (refine wpList_store_row rfl 70 (.tmp 4) (.tmp 39) rfl rfl w.1.size rfl _ rfl 70 #[.int .i64 0, .int .u64 0, .int .u64 0, .slice none 0 0] HE.out.2 (by kernel_rfl) rfl (by simp [Value.oneCell']) ?_)
  exact aC (v := .tuple #[.agg #[.int .i64 0, .int .u64 0, .int .u64 0, .slice none 0 0], .bool false]) (aN rfl _ _ w.1.size 70 _ _ _ _ rfl (aB _ _ _ _ _ _ HE.out.2) Tryz.underlying70 rfl (by kernel_rfl) rfl) rfl HE.out.1
 ·rw [h]
  clear h;have t0 : ((d : Int) == 0) = false := by simp; omega
  have t1 : decide ((n : Int) - 1 < 0) = true := by simp; omega
  clear hn0
  go_wp2_with (refine wpList_store_row rfl 70 (.tmp 4) (.tmp 39) rfl rfl w.1.size rfl _ rfl 70 #[.int .i64 0, .int .u64 0, .int .u64 0, .slice none 0 0] HE.out.2 (by kernel_rfl) rfl (by simp [Value.oneCell']) ?_)
  exact aC (v := .tuple #[.agg #[.int .i64 0, .int .u64 0, .int .u64 0, .slice none 0 0], .bool false]) (aN rfl _ _ w.1.size 70 _ _ _ _ rfl (aB _ _ _ _ _ _ HE.out.2) Tryz.underlying70 rfl (by kernel_rfl) rfl) rfl HE.out.1
theorem FO (d : Nat) (tb rb a n : Nat) (l : List UInt8) (sv : Value) (w : World) (hrt : rb < tb) (hn : n ≤ 32) (hv : Vr w rb a 0 l sv) (ht : Tk w tb rb n) (hn1 : 1 ≤ n) (ha : a < l.length) (hk1 : ¬ (1 ≤ at8 l a ∧ at8 l a ≤ 7)) :
  Calls Tryz.prog 249 #[.pointer (some ⟨tb, 0, none⟩), .int .i64 ((d : Int) + 1)] w (eB tb rb l sv n (tkE (d + 1) (l.drop a)) w) := by
 obtain ⟨k, hk⟩ : ∃ k, k = at8 l a := ⟨_, rfl⟩;rw [← hk] at hk1;have hk256 : k < 256 := by rw [hk]; exact zK _ _
 have hlt := ht.lt;have hba : Below w.1.size w (w.alloc (.cells #[.int .i64 0, .int .u64 0, .int .u64 0, .slice none 0 0] 70)) := br.alloc nl _;have HV := hid (hv.below hba);have HT := hid (ht.keep (hba.block _ hlt));obtain ⟨c0, c1, f⟩ := (ht.keep (hba.block _ hlt)).cells;have HB := hid hba;have HK := hid hk;have t0 : (((d : Int) + 1) == 0) = false := by simp; omega
 clear hv ht hba f hk
 go_enter Tryz.func249, Tryz.ntmps249
 go_wp2_with fail;refine (fO rb a 1 l sv _ HV.out (by omega)).mono ?_;rintro r w1 ⟨v, pp, a', e', rfl, hv1, hg1, hown1, hyes, _⟩;obtain ⟨rfl, hpp, rfl⟩ := hyes (by omega);obtain ⟨bb, bo, bcap, rfl, g, hbb⟩ : ∃ bb bo cap, v = .slice (some ⟨bb, bo, none⟩) 1 cap ∧ w1.cell? ⟨bb, bo, none⟩ = some (.int .u8 (k : Nat)) ∧ w.1.size + 1 ≤ bb := by
  have hp1 : pp = [l[a]] := by rw [hpp, List.drop_eq_getElem_cons ha]; rfl
  subst hp1;have hrb := aO.of_owns hown1;obtain ⟨_, ad, cap, rfl, _⟩ := hrb.shape;obtain ⟨bl, off, rfl, ⟨_, h4⟩, h3⟩ := aO.at8 (j := 0) hrb (by simp);refine ⟨bl, off, cap, rfl, ?_, by simpa using h4⟩;rw [show off = off + 0 from rfl, h3, HK.out, dB l a ha]; rfl
 have hlta : tb < (w.alloc (.cells #[.int .i64 0, .int .u64 0, .int .u64 0, .slice none 0 0] 70)).1.size := by simp; omega
 have hz1 := hg1.size;simp only [aD] at hz1;have ht1 := HT.out.keep (hg1.keep tb hlta (by omega));have hbx1 : w1.1[w.1.size]? = some (.cells #[.int .i64 0, .int .u64 0, .int .u64 0, .slice none 0 0] 70 (0, 0)) := (hg1.keep _ (by simp) (by have := HV.out.lt; omega)).trans (aK _ _ _ rfl);have hr1 : Rk (fun b => b = rb ∨ b = tb) w w1 := (Rk.of_below HB.out).trans' ⟨hg1.os, hg1.tape, hg1.output, hg1.size, fun b hb hn => hg1.keep b hb hn⟩ (fun i _ h => Or.inl h);clear c0 c1;obtain ⟨c0, c1, f⟩ := ht1.cells;have f1 := f 1;have hl1 : tb < w1.1.size := ht1.lt;have hbl := aG w1 _ g;have hnb : ¬ bb = tb := by omega
 have hnb' : ¬ tb = bb := by omega
 have H1 := hid (au ht1 (au hv1 (au hbx1 (au hr1 hbl))));clear ht1 hv1 hbx1 hr1 hg1 f hown1 hyes hpp;have t1 : decide ((n : Int) - 1 < 0) = false := by simp; omega
 go_wp2_with fail;have hv2 : Vr (w1.setCell ⟨tb, 1, none⟩ (.int .i64 ((n : Int) - 1))) rb (a + 1) 0 l sv := H1.out.2.1.keep (fun b hb => ay _ _ _ _ (by simp; omega));have ht2 : Tk (w1.setCell ⟨tb, 1, none⟩ (.int .i64 ((n : Int) - 1))) tb rb ((n : Int) - 1) := aM H1.out.1 (by simp);have hbx2 : (w1.setCell ⟨tb, 1, none⟩ (.int .i64 ((n : Int) - 1))).1[w.1.size]? = some (.cells #[.int .i64 0, .int .u64 0, .int .u64 0, .slice none 0 0] 70 (0, 0)) := (ay _ _ _ _ (by simp; omega)).trans H1.out.2.2.1;have hr2 : Rk (fun b => b = rb ∨ b = tb) w (w1.setCell ⟨tb, 1, none⟩ (.int .i64 ((n : Int) - 1))) := H1.out.2.2.2.1.setCell tb (Or.inr (Or.inr rfl)) _ _;have g2 : (w1.setCell ⟨tb, 1, none⟩ (.int .i64 ((n : Int) - 1))).cell? ⟨bb, bo, none⟩ = some (.int .u8 (k : Nat)) := by rw [aF _ _ _ _ (fun e => hnb' (congrArg Addr.block e))]; exact g
 have hz2 : (w1.setCell ⟨tb, 1, none⟩ (.int .i64 ((n : Int) - 1))).1.size = w1.1.size := by simp
 generalize w1.setCell ⟨tb, 1, none⟩ (.int .i64 ((n : Int) - 1)) = W2 at hv2 ht2 hbx2 hr2 g2 hz2 ⊢;refine (fF (k : Nat) _ (by omega) (by omega)).mono ?_;rintro e2 w3 ⟨hin, hout, hb3⟩;have he := hout (fun h => hk1 ⟨by omega, by omega⟩);subst he;clear hin hout;have hz3 := hb3.size;have hpl3 : w.1.size < w3.1.size := by omega
 have hbq : Below W2.1.size W2 (w3.alloc (.cells #[.int .i64 0, .int .i64 0, .int .i64 0, .nilFunc] 279)) := hb3.alloc hz3 _;have hbx4 := (hbq.block w.1.size (by omega)).trans hbx2;have hend : eB tb rb l sv n (tkE (d + 1) (l.drop a)) w (.returned (.tuple #[.agg #[.int .i64 0, .int .u64 0, .int .u64 0, .slice none 0 0], .bool false])) ((w3.alloc (.cells #[.int .i64 0, .int .i64 0, .int .i64 0, .nilFunc] 279)).setRow w.1.size #[.int .i64 0, .int .u64 0, .int .u64 0, .slice none 0 0]) :=
  ⟨.zero, _, a + 1, 0, (n : Int) - 1, false, rfl, bN (by omega) (by omega) (by omega) (by omega), (hv2.below hbq).keep (fun b hb => setRow_other _ _ _ _ (by omega)), (ht2.keep (hbq.block _ ht2.lt)).keep (setRow_other _ _ _ _ (by omega)), (hr2.trans (Rk.of_below hbq)).setRow _ (Or.inl nl) _, (fun h => by cases h), fun _ e r h => by
   rw [List.drop_eq_getElem_cons ha, tkE, if_neg (by rw [← dB l a ha, ← HK.out]; exact hk1)] at h; cases h⟩
 have c3 : ∀ o, w3.cell? ⟨w.1.size, o, none⟩ = (#[.int .i64 0, .int .u64 0, .int .u64 0, .slice none 0 0] : Array Value)[o]? := fun o => ax w3 _ o _ _ _ ((hb3.block _ (by omega)).trans hbx2)
 have HE := hid (au hend hbx4);clear hend hbx4 hbq hv2 ht2 hbx2 hr2 g g2 hb3 c0 c1 f1
 go_wp2_with (refine wpList_store_row rfl 70 (.tmp 4) (.tmp 50) rfl rfl w.1.size rfl _ rfl 70 #[.int .i64 0, .int .u64 0, .int .u64 0, .slice none 0 0] HE.out.2 (by kernel_rfl) rfl (by simp [Value.oneCell']) ?_)
 exact aC (v := .tuple #[.agg #[.int .i64 0, .int .u64 0, .int .u64 0, .slice none 0 0], .bool false]) (aN rfl _ _ w.1.size 70 _ _ _ _ rfl (aB _ _ _ _ _ _ HE.out.2) Tryz.underlying70 rfl (by kernel_rfl) rfl) rfl HE.out.1
theorem FP (d : Nat) : ∀ (tb rb a n : Nat) (l : List UInt8) (sv : Value) (w : World), d ≤ 100 → rb < tb → n ≤ 32 → Vr w rb a 0 l sv → Tk w tb rb n →
  Calls Tryz.prog 249 #[.pointer (some ⟨tb, 0, none⟩), .int .i64 d] w (eB tb rb l sv n (tkE d (l.drop a)) w) := by
 induction d with
 | zero => intro tb rb a n l sv w _ hrt hn hv ht; exact sS 0 tb rb a n l sv w hrt hn hv ht _ (fun e r h => by cases h) (Or.inr (Or.inl rfl))
 | succ d ih =>
  intro tb rb a n l sv w hd hrt hn hv ht;have IH : Hid (∀ (tb rb a n : Nat) (l : List UInt8) (sv : Value) (w : World), rb < tb → n ≤ 32 → Vr w rb a 0 l sv → Tk w tb rb n → Calls Tryz.prog 249 #[.pointer (some ⟨tb, 0, none⟩), .int .i64 d] w (eB tb rb l sv n (tkE d (l.drop a)) w)) := hid fun tb rb a n l sv w h1 h2 h3 h4 => ih tb rb a n l sv w (by omega) h1 h2 h3 h4
  have hal := hv.2.2.1;by_cases hae : a = l.length
  ·exact sS (d + 1) tb rb a n l sv w hrt hn hv ht _ (fun e r h => by rw [hae, List.drop_length] at h; cases h) (Or.inl hae)
  have ha : a < l.length := by omega
  by_cases hn0 : n = 0
  ·exact sS (d + 1) tb rb a n l sv w hrt hn hv ht _ (fun e r h => by have := e.size_pos; omega) (Or.inr (Or.inr hn0))
  have hn1 : 1 ≤ n := by omega
  have e : (((d + 1 : Nat) : Int)) = (d : Int) + 1 := by omega
  rw [e];by_cases hk : 1 ≤ at8 l a ∧ at8 l a ≤ 7
  ·by_cases k1 : at8 l a ≤ 1
   ·exact Ho d (by omega) IH tb rb a n l sv w hrt hn hv ht hn1 ha hk.1 k1
   by_cases k3 : at8 l a ≤ 3
   ·exact Hq d (by omega) IH tb rb a n l sv w hrt hn hv ht hn1 ha (by omega) k3
   by_cases k4 : at8 l a ≤ 4
   ·exact Hr d (by omega) IH tb rb a n l sv w hrt hn hv ht hn1 ha (by omega) k4
   by_cases k5 : at8 l a ≤ 5
   ·exact Hm d (by omega) IH tb rb a n l sv w hrt hn hv ht hn1 ha (by omega) k5
   ·exact Hl d (by omega) IH tb rb a n l sv w hrt hn hv ht hn1 ha (by omega) hk.2
  ·exact FO d tb rb a n l sv w hrt hn hv ht hn1 ha hk
def Gl (w : World) (l : List UInt8) (tv : Value) (wx : World) : Prop :=
 ∃ tb rb sv, tv = .pointer (some ⟨tb, 0, none⟩) ∧ rb < tb ∧ w.1.size < rb ∧ Vr wx rb 0 0 l sv ∧ Tk wx tb rb 32 ∧ wx.1[w.1.size]? = some (.cells #[.int .i64 0, .int .u64 0, .int .u64 0, .slice none 0 0] 70 (0, 0)) ∧ Below w.1.size w wx
theorem uI (S : Nat → Prop) (own : Bool) (b : List UInt8) (v : Value) (i : Int) (w : World) (hr : aO w S own b v) (hb : b.length ≤ 100000) (h1 : -9223372036854775808 ≤ i) (h2 : i ≤ 9223372036854775807) :
  Calls Tryz.prog 223 #[v, .int .i64 i] w (sQ (mQ b i) w) := by
 obtain ⟨_, ad, cap, rfl, hcap⟩ := hr.shape;have HZ0 := hid (show (w.alloc (.cells #[.int .i64 0, .int .u64 0, .int .u64 0, .slice none 0 0] 70)).1[w.1.size]? = some (.cells #[.int .i64 0, .int .u64 0, .int .u64 0, .slice none 0 0] 70 (0, 0)) from aK _ _ _ rfl);have hb0 : Below w.1.size w (w.alloc (.cells #[.int .i64 0, .int .u64 0, .int .u64 0, .slice none 0 0] 70)) := br.alloc nl _;by_cases hi : i < 0 ∨ (b.length : Int) < i
 ·have HN := hid (fq (w' := (w.alloc (.cells #[.int .i64 0, .int .u64 0, .int .u64 0, .slice none 0 0] 70)).setRow w.1.size #[.int .i64 0, .int .u64 0, .int .u64 0, .slice none 0 0]) (xO hi) (below_setRow hb0 _ _ nl))
  clear hr hb0;by_cases hn : i < 0
  ·clear hi
   go_enter Tryz.func223, Tryz.ntmps223
   go_wp2_with (refine wpList_store_row rfl 70 (.tmp 4) (.tmp 18) rfl rfl w.1.size rfl _ rfl 70 _ HZ0.out (by kernel_rfl) rfl (by simp [Value.oneCell']) ?_)
   exact aC (v := .tuple #[.agg #[.int .i64 0, .int .u64 0, .int .u64 0, .slice none 0 0], .int .i64 0, .int .i64 40]) (aU rfl _ _ w.1.size 70 _ _ _ _ _ rfl (aB _ _ _ _ _ _ HZ0.out) Tryz.underlying70 rfl (by kernel_rfl) rfl rfl) rfl HN.out
  ·have hg : (b.length : Int) < i := by omega
   clear hi
   go_enter Tryz.func223, Tryz.ntmps223
   go_wp2_with (refine wpList_store_row rfl 70 (.tmp 4) (.tmp 18) rfl rfl w.1.size rfl _ rfl 70 _ HZ0.out (by kernel_rfl) rfl (by simp [Value.oneCell']) ?_)
   exact aC (v := .tuple #[.agg #[.int .i64 0, .int .u64 0, .int .u64 0, .slice none 0 0], .int .i64 0, .int .i64 40]) (aU rfl _ _ w.1.size 70 _ _ _ _ _ rfl (aB _ _ _ _ _ _ HZ0.out) Tryz.underlying70 rfl (by kernel_rfl) rfl rfl) rfl HN.out
 obtain ⟨a, rfl⟩ := Int.eq_ofNat_of_zero_le (show 0 ≤ i by omega);have ha : a ≤ b.length := by omega
 have HR := hid (hr.below hb0 nl);have HB0 := hid hb0;clear hi hr hb0
 go_enter Tryz.func223, Tryz.ntmps223
 go_upto_region 3 with (fail)
 go_cut [0, 7] from 10 to 24 (fun _ tv wx => Gl w (b.drop a) tv wx)
 case first =>
  have hc1 : aO (w.alloc (.cells #[.int .i64 0, .int .u64 0, .int .u64 0, .slice none 0 0] 70)) S own (b.drop a) (.slice (ad.map fun x => x.add a) (b.length - a) (cap - a)) := by
   have h := aO.cut HR.out a (b.length - a) (cap - a) (by omega) (by omega)
   rwa [ah (by simp)] at h
  have hc2 : a = cap → aO (w.alloc (.cells #[.int .i64 0, .int .u64 0, .int .u64 0, .slice none 0 0] 70)) S own (b.drop a) (.slice ad (b.length - a) 0) := fun h => by
   rw [List.drop_of_length_le (by omega), show b.length - a = 0 from by omega]; exact aO.none
  have HC1 := hid hc1;have HC2 := hid hc2;clear hc1 hc2;have fin : ∀ wx tb rb sv, Vr wx rb 0 0 (b.drop a) sv → (w.alloc (.cells #[.int .i64 0, .int .u64 0, .int .u64 0, .slice none 0 0] 70)).1.size ≤ rb → Below (w.alloc (.cells #[.int .i64 0, .int .u64 0, .int .u64 0, .slice none 0 0] 70)).1.size (w.alloc (.cells #[.int .i64 0, .int .u64 0, .int .u64 0, .slice none 0 0] 70)) wx → tb = wx.1.size →
    Gl w (b.drop a) (.pointer (some ⟨tb, 0, none⟩)) (wx.alloc (.cells #[.pointer (some ⟨rb, 0, none⟩), .int .i64 32] 340)) := by
   intro wx tb rb sv hv hrb hbx htb;subst htb;have hs := hbx.size;simp only [aD] at hrb hs;exact ⟨_, rb, sv, rfl, hv.lt, by omega, hv.below (br.alloc nl _), aK _ _ _ rfl, (aL _ _ _ (by omega)).trans ((hbx.block _ (by simp)).trans HZ0.out), (HB0.out.trans (hbx.mono (by simp))).alloc (by omega) _⟩
  have HF := hid fin;clear fin;go_wp2_with fail
  ·refine (ny S own (b.drop a) _ _ (HC2.out (by omega)) (by simp; omega)).mono ?_
   rintro r wx ⟨rb, sv, rfl, hv, hrb, hbx⟩;have HX := hid (HF.out wx _ rb sv hv hrb hbx rfl);clear hv hbx;go_wp2_with fail
   go_meet
   exact HX.out
  ·refine (ny S own (b.drop a) _ _ (HC1.out) (by simp; omega)).mono ?_
   rintro r wx ⟨rb, sv, rfl, hv, hrb, hbx⟩;have HX := hid (HF.out wx _ rb sv hv hrb hbx rfl);clear hv hbx;go_wp2_with fail
   go_meet
   exact HX.out
 case rest =>
  obtain ⟨tb, rb, sv, rfl, hrt, hrb, hv, ht, hbx, hbw⟩ := hcut;have HT := hid (FP 8 tb rb 0 32 (b.drop a) sv wc (by omega) hrt (by omega) hv ht);have hlt := ht.lt;have HX := hid (au hbx hbw);clear hv ht hbx hbw;go_wp2_with fail;refine HT.out.mono ?_;rintro r w1 ⟨t, u, a', e', n', ok, rfl, hv, hvr, htk, hrk, hy, hn⟩;obtain ⟨q0, q1, q2, q3, q4, q5, rfl⟩ := hv.conc;have hs1 := hrk.size;have hh : w1.1[w.1.size]? = some (.cells #[.int .i64 0, .int .u64 0, .int .u64 0, .slice none 0 0] 70 (0, 0)) := (hrk.keep _ (by omega) (by omega)).trans HX.out.1;have hb1 : Below w.1.size w w1 := HX.out.2.trans (hrk.below (B := w.1.size) (by omega) (fun b hb => by omega));have l1 : w.1.size < w1.1.size := by omega
  have HH := hid ((aL w1 (.cells #[.int .i64 q0, .int .u64 q1, .int .u64 q2, .slice q3 q4 q5] 70) _ l1).trans hh);have hvw : aT w1 (fun b => w.1.size + 1 ≤ b) true t (.agg #[.int .i64 q0, .int .u64 q1, .int .u64 q2, .slice q3 q4 q5]) := hv.wider (fun b _ h => by have h' : wc.1.size ≤ b := h; omega);have HV := hid (au hvw hb1);have HVR := hid (au hvr htk);have hale := hvr.2.2.1;have hl2 := htk.lt;clear hv hvw hb1 hh hvr htk hrk;cases ok with
  | false =>
   have HN : Hid (mQ b a = none) := by
    refine hid ?_;cases hq : tkE 8 (b.drop a) with
    | none => exact uR ha hq
    | some x =>
     obtain ⟨e, r⟩ := x;have := hn rfl e r hq;rw [oN ha hq, if_neg (fun h => by simp [Ex.right] at h; omega)]
   clear hy hn
   go_wp2_with (refine wpList_store_row rfl 70 (.tmp 4) (.tmp 37) rfl rfl w.1.size rfl _ rfl 70 _ HH.out (by kernel_rfl) rfl (by simp [Value.oneCell']) ?_)
   refine aC (v := .tuple #[.agg #[.int .i64 0, .int .u64 0, .int .u64 0, .slice none 0 0], .int .i64 0, .int .i64 40]) (aU rfl _ _ w.1.size 70 _ _ _ _ _ rfl (aB _ _ _ _ _ _ HH.out) Tryz.underlying70 rfl (by kernel_rfl) rfl rfl) rfl ?_;exact fq HN.out (below_setRow (HV.out.2.alloc (by omega) _) _ _ nl)
  | true =>
   obtain ⟨rfl, htk, hts, _⟩ := hy rfl;have HN := hid (oN ha htk);clear hy hn htk;go_wp2_with fail;have hbq : Below w1.1.size w1 (w1.alloc (.cells #[.int .i64 q0, .int .u64 q1, .int .u64 q2, .slice q3 q4 q5] 70)) := br.alloc nl _;refine (mi _ _ t _ _ (by omega) (HV.out.1.below hbq nl)).mono ?_;rintro e2 w2 ⟨rfl, hb2⟩;have hbw2 : Below w.1.size w w2 := (HV.out.2.alloc (by omega) _).trans (hb2.mono (by simp; omega));have hbox : ∀ o, w2.cell? ⟨w1.1.size, o, none⟩ = (w1.alloc (.cells #[.int .i64 q0, .int .u64 q1, .int .u64 q2, .slice q3 q4 q5] 70)).cell? ⟨w1.1.size, o, none⟩ := fun o => hb2.cell (by simp)
   have hsz2 : w1.1.size < w2.1.size := (by have := hb2.size; simp at this; omega);have hh2 := (hb2.block w.1.size (by simp; omega)).trans HH.out;have HH2 := hid hh2;have HV2 := hid (au ((HV.out.1.below hbq nl).below hb2 nl) hbw2);have hvr2 := (HVR.out.1.below hbq).below hb2;have htk2 := (HVR.out.2.keep (hbq.block _ hl2)).keep (hb2.block _ (by simp; omega));obtain ⟨x1, x2, _⟩ := htk2.cells;have HVR2 := hid hvr2;have HAt := hid (show Vr w2.drew rb a' 0 (b.drop a) sv from hvr2.below br.drew);have z0 : ∀ o, w2.cell? ⟨w.1.size, o, none⟩ = (#[.int .i64 0, .int .u64 0, .int .u64 0, .slice none 0 0] : Array Value)[o]? := fun o => ax w2 _ o _ _ _ hh2
   have zf : ∀ o, w2.frozen? ⟨w.1.size, o, none⟩ = false := fun o => by rw [aA w2 _ o _ _ hh2]
   have zf0 := zf 0;have zf1 := zf 1;have zf2 := zf 2;have zf3 := zf 3;have hl3 : w.1.size < w2.1.size := (by omega);have hl4 : tb < w2.1.size := (by omega);clear hb2 hbq hbw2 hh2 hvr2 htk2 zf;cases hrt2 : t.right with
   | false =>
    have HT2 := hid hrt2;clear hrt2 z0 zf0 zf1 zf2 zf3
    go_wp2_with (refine wpList_store_row rfl 70 (.tmp 4) (.tmp 37) rfl rfl w.1.size rfl _ rfl 70 _ HH2.out (by kernel_rfl) rfl (by simp [Value.oneCell']) ?_)
    refine aC (v := .tuple #[.agg #[.int .i64 0, .int .u64 0, .int .u64 0, .slice none 0 0], .int .i64 0, .int .i64 40]) (aU rfl _ _ w.1.size 70 _ _ _ _ _ rfl (aB _ _ _ _ _ _ HH2.out) Tryz.underlying70 rfl (by kernel_rfl) rfl rfl) rfl ?_;exact fq (by rw [HN.out, HT2.out]; rfl) (below_setRow HV2.out.2 _ _ nl)
   | true =>
    have HT2 := hid hrt2;have hal : a' ≤ b.length - a := (by simpa using hale);have y1 : IntKind.i64.wrap ((a : Int) + (a' : Int)) = (a : Int) + (a' : Int) := IntWalk.i64_in _ (by omega);clear hrt2;go_wp2_with fail;have hF : (fD w2 w.1.size (.int .i64 q0) (.int .u64 q1) (.int .u64 q2) (.slice q3 q4 q5)).1[w.1.size]? = some (.cells #[.int .i64 q0, .int .u64 q1, .int .u64 q2, .slice q3 q4 q5] 70 (0, 0)) :=
     aM (aM (aM (aM HH2.out rfl) rfl) rfl) rfl
    have hG : ∀ x : Nat, x ≠ w.1.size → (fD w2 w.1.size (.int .i64 q0) (.int .u64 q1) (.int .u64 q2) (.slice q3 q4 q5)).1[x]? = w2.1[x]? := by
     intro x hx;show ((((w2.setCell _ _).setCell _ _).setCell _ _).setCell _ _).1[x]? = _;rw [ay _ _ _ _ (by simpa using hx), ay _ _ _ _ (by simpa using hx), ay _ _ _ _ (by simpa using hx), ay _ _ _ _ (by simpa using hx)]
    have hB : Below w.1.size w (fD w2 w.1.size (.int .i64 q0) (.int .u64 q1) (.int .u64 q2) (.slice q3 q4 q5)) := ((((HV2.out.2.setCell nl _).setCell nl _).setCell nl _).setCell nl _).drew;have hE : ((b.length - ((b.drop a).drop a').length : Nat) : Int) = (a : Int) + (a' : Int) := (by simp; omega);have HFG := hid (au hF (au hG (au hB hE)));clear hF hG hB hE
    go_region_with (first | (go_at_call 250; go_fit (El rb a' 0 (b.drop a) sv _ HAt.out); rintro r wx ⟨rfl, rfl⟩))
    all_goals
     go_wp2_with fail;refine aC (v := .tuple #[.agg #[.int .i64 q0, .int .u64 q1, .int .u64 q2, .slice q3 q4 q5], .int .i64 ((a : Int) + (a' : Int)), .int .i64 0]) (aU rfl _ _ w.1.size 70 _ _ _ _ _ rfl HFG.out.1 Tryz.underlying70 rfl (by kernel_rfl) rfl rfl) rfl ?_;rw [HN.out, HT2.out];refine ⟨_, ?_, aT.keep (w := w2) (S := fun b => w.1.size + 1 ≤ b) (fun b hb _ => HFG.out.2.1 b (by omega)) (fun b _ h => Nat.le_of_succ_le h) HV2.out.1, HFG.out.2.2.1⟩;rw [← HFG.out.2.2.2]; rfl
theorem uJ (S : Nat → Prop) (own : Bool) (b : List UInt8) (v : Value) (w : World) (hr : aO w S own b v) (hb : b.length ≤ 100000) :
  Calls Tryz.prog 198 #[v] w (kP (bM b) w) := by
 have hb0 : Below w.1.size w (w.alloc (.cells #[.int .i64 0, .int .u64 0, .int .u64 0, .slice none 0 0] 70)) := br.alloc nl _;have HT := hid (uI S own b v 0 (w.alloc (.cells #[.int .i64 0, .int .u64 0, .int .u64 0, .slice none 0 0] 70)) (hr.below hb0 nl) hb (by omega) (by omega));have HB0 := hid hb0;obtain ⟨_, ad, cap, rfl, _⟩ := hr.shape;clear hr hb0
 go_enter Tryz.func198, Tryz.ntmps198
 go_wp2_with fail;refine HT.out.mono ?_;rintro e w1 ⟨u, rfl, hv, hb1⟩;obtain ⟨q0, q1, q2, q3, q4, q5, rfl⟩ := hv.conc;have hz1 := hb1.size;simp only [aD] at hz1;have hbw : Below w.1.size w w1 := HB0.out.trans (hb1.mono (by simp));have hh : w1.1[w.1.size]? = some (.cells #[.int .i64 0, .int .u64 0, .int .u64 0, .slice none 0 0] 70 (0, 0)) := (hb1.block _ (by simp)).trans (aK _ _ _ rfl);have l1 : w.1.size < w1.1.size := by omega
 have HH := hid ((aL w1 (.cells #[.int .i64 q0, .int .u64 q1, .int .u64 q2, .slice q3 q4 q5] 70) _ l1).trans hh);obtain ⟨o, ho⟩ : ∃ o, o = mQ b 0 := ⟨_, rfl⟩;have HO := hid ho;rw [← ho] at hv ⊢;have hvw : aT w1 (fun b => w.1.size + 1 ≤ b) true ((o.map (·.1)).getD .zero) (.agg #[.int .i64 q0, .int .u64 q1, .int .u64 q2, .slice q3 q4 q5]) := hv.wider (fun b _ h => by simpa using h);have HV := hid (au hvw hbw);clear hv hvw hbw hh hb1 ho;have HF0 : Hid (bM b = none → ∀ W, Below w.1.size w W → kP (bM b) w (.returned (.tuple #[.agg #[.int .i64 0, .int .u64 0, .int .u64 0, .slice none 0 0], .int .i64 40])) W) := hid fun h W hW => mr h hW
 cases o with
 | none =>
  have HN : Hid (bM b = none) := hid (by unfold bM; rw [← HO.out]);rw [show xN (none : Option (Ex × Nat)) = 40 from rfl]
  go_wp2_with (refine wpList_store_row rfl 70 (.tmp 2) (.tmp 21) rfl rfl w.1.size rfl _ rfl 70 _ HH.out (by kernel_rfl) rfl (by simp [Value.oneCell']) ?_)
  refine aC (v := .tuple #[.agg #[.int .i64 0, .int .u64 0, .int .u64 0, .slice none 0 0], .int .i64 40])
   (aN rfl _ _ w.1.size 70 _ _ _ _ rfl (aB _ _ _ _ _ _ HH.out) Tryz.underlying70 rfl (by kernel_rfl) rfl) rfl ?_
  exact HF0.out HN.out _ (below_setRow (HV.out.2.alloc (by omega) _) _ _ nl)
 | some x =>
  obtain ⟨t, n⟩ := x;rw [show xN (some (t, n)) = 0 from rfl];simp only [Option.map_some, Option.getD_some] at HV ⊢;by_cases hn : n = b.length
  ·have HN : Hid (bM b = some t) := hid (by unfold bM; rw [← HO.out]; simp [hn])
   have t1 : ((n : Int) != (b.length : Int)) = false := (by simp; omega);clear hn
   go_wp2_with (refine wpList_store_row rfl 70 (.tmp 2) (.tmp 22) rfl rfl w.1.size rfl _ rfl 70 _ HH.out (by kernel_rfl) rfl (by simp [Value.oneCell']) ?_)
   refine aC (v := .tuple #[.agg #[.int .i64 q0, .int .u64 q1, .int .u64 q2, .slice q3 q4 q5], .int .i64 0])
    (aN rfl _ _ w.1.size 70 _ _ _ _ rfl (aB _ _ _ _ _ _ HH.out) Tryz.underlying70 rfl (by kernel_rfl) rfl) rfl ?_
   rw [HN.out];exact ⟨_, rfl, aT.keep (w := w1) (S := fun b => w.1.size + 1 ≤ b) (fun b hb hbl => (setRow_other _ _ _ _ (by omega)).trans (aL _ _ _ hbl)) (fun b _ h => Nat.le_of_succ_le h) HV.out.1, below_setRow (HV.out.2.alloc (by omega) _) _ _ nl⟩
  ·have HN : Hid (bM b = none) := hid (by unfold bM; rw [← HO.out]; simp [hn])
   have t1 : ((n : Int) != (b.length : Int)) = true := (by simp; omega);clear hn
   go_wp2_with (refine wpList_store_row rfl 70 (.tmp 2) (.tmp 21) rfl rfl w.1.size rfl _ rfl 70 _ HH.out (by kernel_rfl) rfl (by simp [Value.oneCell']) ?_)
   refine aC (v := .tuple #[.agg #[.int .i64 0, .int .u64 0, .int .u64 0, .slice none 0 0], .int .i64 40])
    (aN rfl _ _ w.1.size 70 _ _ _ _ rfl (aB _ _ _ _ _ _ HH.out) Tryz.underlying70 rfl (by kernel_rfl) rfl) rfl ?_
   exact HF0.out HN.out _ (below_setRow (HV.out.2.alloc (by omega) _) _ _ nl)
end Go.Proofs.YtlpgokcapdjgjaaGreatDoor
