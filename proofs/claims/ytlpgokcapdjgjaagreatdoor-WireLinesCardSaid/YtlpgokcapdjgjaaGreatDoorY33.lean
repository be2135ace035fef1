/- Walks. -/
import Derived.Test.YtlpgokcapdjgjaaGreatDoorY11
set_option maxHeartbeats 2000000
set_option maxRecDepth 100000
namespace Go.Proofs.YtlpgokcapdjgjaaGreatDoor
open Go.RowKit Go
set_option linter.unusedVariables false
set_option linter.unusedSimpArgs false
theorem rJ (l : List UInt8) : l.take (l.length - (l.dropWhile isD).length) = l.takeWhile isD ∧ (l.dropWhile isD).length ≤ l.length := by
 have h := List.takeWhile_append_dropWhile (p := isD) (l := l)
 have h2 := congrArg List.length h
 simp only [List.length_append] at h2
 refine ⟨?_, by omega⟩
 conv => lhs; arg 2; rw [← h]
 rw [show l.length - (l.dropWhile isD).length = (l.takeWhile isD).length from by omega, List.take_left']
 rfl
theorem EE {w : World} {rb : Nat} {s : ByteArray} {n : Int} {bad : Bool} (h : Rd w rb s n bad) (s' : ByteArray) (bad' : Bool) : Rd ((w.setCell ⟨rb, 2, none⟩ (.bool bad')).setCell ⟨rb, 0, none⟩ (.string s')) rb s' n bad' :=
 ae (ae h rfl) (by simp)
theorem gu (rb : Nat) (s : ByteArray) (n : Int) (bad : Bool) (w : World) (hs : s.size ≤ 100000) (hr : Rd w rb s n bad) (hL : Lv rb w) :
  Calls Tryz.prog 226 #[.pointer (some ⟨rb, 0, none⟩)] w (DR rb s.data.toList n bad w) := by
 obtain ⟨c0, c1, c2, f⟩ := hr.cells
 have f0 := f 0
 have hlt := hr.lt
 have HR := hid hr
 have HL := hid hL
 clear hr f hL
 obtain ⟨hd1, hd2⟩ := rJ s.data.toList
 rw [af] at hd1 hd2
 go_enter Tryz.func226, Tryz.ntmps226
 go_wp2_with (go_at_call 252; refine (xH s _).mono ?_; rintro e w1 ⟨rfl, hb1⟩)
 obtain ⟨rest, hrest⟩ : ∃ rest : ByteArray, rest = ⟨(s.data.toList.dropWhile isD).toArray⟩ := ⟨_, rfl⟩
 rw [← hrest]
 have hrs : rest.data.toList = s.data.toList.dropWhile isD := by rw [hrest]
 have hrz : rest.size = (s.data.toList.dropWhile isD).length := by rw [← af, hrs]
 have hrl : rest.size ≤ s.size := by omega
 rw [← hrz] at hd1 hd2
 have hds : (s.extract 0 (s.size - rest.size)).data.toList = s.data.toList.takeWhile isD := by rw [aT, List.drop_zero, Nat.sub_zero]; exact hd1
 have hdz : (s.extract 0 (s.size - rest.size)).size ≤ s.size := by rw [ByteArray.size_extract]; omega
 obtain ⟨hx1, hy1⟩ := nI hb1
 have hz1 : rb < w1.heap.size := by have := hb1.size; omega
 have k0 : w1.cell? ⟨rb, 0, none⟩ = some (.string s) := (hx1 _ _ hlt).trans c0
 have HRS := hid hrs
 have HDS := hid hds
 have HB1 := hid hb1
 clear hrest hrs hrz hd1 hd2 hds hx1 hy1 hb1
 go_wp2_with fail
 go_quiet (fail)
 obtain ⟨ds, hds⟩ : ∃ ds, ds = s.extract 0 (s.size - rest.size) := ⟨_, rfl⟩
 rw [← hds] at HDS hdz ⊢
 clear hds
 generalize hwd : w1.drewN _ = wd
 have hbd : Below w.heap.size w wd := hwd ▸ below_drewN HB1.out _
 have hLd : Lv wd.heap.size wd := (HL.out.below (hbd.mono (by omega))).mono (by have := hbd.size; omega)
 have hdg : ∀ c ∈ ds.data.toList, isD c = true := by rw [HDS.out]; exact qW _
 have HPU := hid (Aa ds wd hLd (by omega) hdg)
 have hzd : rb < wd.heap.size := by have := hbd.size; omega
 have k2 : wd.cell? ⟨rb, 2, none⟩ = some (.bool bad) := (hbd.cell hlt).trans c2
 have k0d : wd.cell? ⟨rb, 0, none⟩ = some (.string s) := (hbd.cell hlt).trans c0
 have HBD := hid hbd
 clear hwd hLd hdg hbd k0
 go_wp2_with fail
 refine HPU.out.mono ?_
 rintro e w2 ⟨v, er, rfl, hv, hcase, hb2⟩
 obtain ⟨hx2, hy2⟩ := nI hb2
 have hz2 : rb < w2.heap.size := by have := hb2.size; omega
 have m2 : w2.cell? ⟨rb, 2, none⟩ = some (.bool bad) := (hx2 _ _ hzd).trans k2
 have m0 : w2.cell? ⟨rb, 0, none⟩ = some (.string s) := (hx2 _ _ hzd).trans k0d
 have hbw2 : Below w.heap.size w w2 := HBD.out.trans (hb2.mono (by have := HBD.out.size; omega))
 have fr : ∀ o, w2.frozen? ⟨rb, o, none⟩ = false := fun o => by rw [hbw2.frozen hlt]; exact HR.out.cells.2.2.2 o
 have fr0 := fr 0
 have fr2 := fr 2
 have HR2 := hid (show Rd w2 rb s n bad from (hbw2.block _ hlt).trans HR.out)
 have HB2 := hid hbw2
 clear hx2 hy2 hb2 k2 k0d fr hbw2
 have fin : ∀ (W : World) (v : Nat) (b : Bool), v < 18446744073709551616 → Rd W rb s n bad → Rg rb w W → (b = (bad || (rdNum s.data.toList).isNone)) → (∀ v' r, rdNum s.data.toList = some (v', r) → v = v' ∧ rest.data.toList = r) →
   DR rb s.data.toList n bad w (.returned (.int .u64 v)) ((W.setCell ⟨rb, 2, none⟩ (.bool b)).setCell ⟨rb, 0, none⟩ (.string rest)) := by
  intro W v b hv hW hg hb he
  exact ⟨v, rest, rfl, hv, by rw [← hb]; exact EE hW _ _, he, (hg.setCell _ _).setCell _ _, by rw [af]; exact hrl⟩
 have HF := hid fin
 clear fin
 have hrd : rdNum s.data.toList = if ds.data.toList ≠ [] ∧ Lib.decDigits (numOf ds.data.toList) = ds.data.toList ∧ numOf ds.data.toList < 18446744073709551616 then some (numOf ds.data.toList, rest.data.toList) else none := by
  rw [HRS.out, HDS.out]; rfl
 have HRD := hid hrd
 clear hrd
 rcases hcase with ⟨e1, e2, rfl, rfl⟩ | ⟨hno, te, pe, rfl⟩
 ·obtain ⟨m, hm⟩ : ∃ m, m = numOf ds.data.toList := ⟨_, rfl⟩
  rw [← hm] at hv e2 ⊢
  have HM := hid hm
  have HE1 := hid e1
  clear hm e1
  cases bad with
  | true =>
   go_wp2_with fail
   go_ret
   refine HF.out _ _ _ hv HR2.out (Rg.of_below HB2.out) rfl (fun v' r h => ?_)
   rw [HRD.out] at h
   split at h
   ·injection h with h; injection h with h3 h4; exact ⟨by rw [HM.out]; exact h3, h4⟩
   ·cases h
  | false =>
   have HD := hid (pg m w2 hv ((HL.out.below (HB2.out.mono (by omega))).tab))
   go_wp2_with fail
   refine HD.out.mono ?_
   rintro e w3 ⟨rfl, hb3⟩
   obtain ⟨hx3, hy3⟩ := nI hb3
   have hz3 : rb < w3.heap.size := by have := hb3.size; omega
   have j2 : w3.cell? ⟨rb, 2, none⟩ = some (.bool false) := (hx3 _ _ hz2).trans m2
   have j0 : w3.cell? ⟨rb, 0, none⟩ = some (.string s) := (hx3 _ _ hz2).trans m0
   have fr30 : w3.frozen? ⟨rb, 0, none⟩ = false := (hy3 _ _ hz2).trans fr0
   have fr32 : w3.frozen? ⟨rb, 2, none⟩ = false := (hy3 _ _ hz2).trans fr2
   have HR3 := hid (show Rd w3 rb s n false from (hb3.block _ hz2).trans HR2.out)
   have HB3 := hid (HB2.out.trans (hb3.mono (by have := HB2.out.size; omega)))
   clear hx3 hy3 hb3 m0 m2 fr0 fr2
   go_wp2_with fail
   go_ret
   refine HF.out _ _ _ hv HR3.out (Rg.of_below HB3.out) ?_ (fun v' r h => ?_)
   ·rw [HRD.out, ByteArray.toList_eq]
    by_cases hq : Lib.decDigits m = ds.data.toList
    ·rw [if_pos ⟨HE1.out, by rw [← HM.out]; exact hq, by rw [← HM.out]; exact e2⟩]; simp [hq]
    ·rw [if_neg (fun h => hq (by rw [HM.out]; exact h.2.1))]; simp [hq]
   ·rw [HRD.out] at h
    split at h
    ·injection h with h; injection h with h3 h4; exact ⟨by rw [HM.out]; exact h3, h4⟩
    ·cases h
 ·have hn : rdNum s.data.toList = none := by rw [HRD.out, if_neg (fun h => hno ⟨h.1, h.2.2⟩)]
  have HN := hid hn
  clear hn hno
  cases bad with
  | true =>
   go_wp2_with fail
   go_ret
   exact HF.out _ _ _ hv HR2.out (Rg.of_below HB2.out) (by rw [HN.out]; rfl) (fun v' r h => by rw [HN.out] at h; cases h)
  | false =>
   go_wp2_with fail
   go_ret
   exact HF.out _ _ _ hv HR2.out (Rg.of_below HB2.out) (by rw [HN.out]; rfl) (fun v' r h => by rw [HN.out] at h; cases h)
theorem ed (rb : Nat) (s t : ByteArray) (n : Int) (bad : Bool) (w : World) (hr : Rd w rb s n bad) (hp : pre t.data.toList s.data.toList = true) :
  Calls Tryz.prog 225 #[.pointer (some ⟨rb, 0, none⟩), .string t] w fun e w' => ∃ s' : ByteArray, e = .returned (.bool true) ∧ s'.data.toList = s.data.toList.drop t.size ∧ Rd w' rb s' n bad ∧ Rg rb w w' ∧ w'.heap.size = w.heap.size := by
 refine (Bz rb s t n bad w hr).mono ?_
 rintro e w' ⟨s', rfl, h1, h2, h3, h4⟩
 exact ⟨s', by rw [hp], by rw [h2, cut, if_pos hp, af], h1, h3, h4⟩
theorem aX (rb : Nat) (s t : ByteArray) (n : Int) (bad : Bool) (w : World) (hr : Rd w rb s n bad) (hp : pre t.data.toList s.data.toList = false) :
  Calls Tryz.prog 225 #[.pointer (some ⟨rb, 0, none⟩), .string t] w fun e w' => e = .returned (.bool false) ∧ w' = w := by
 obtain ⟨c0, c1, c2, f⟩ := hr.cells
 have f0 := f 0
 have hlt := hr.lt
 have h1 : Lib.hasPrefix s.data.toList t.data.toList = false := hp
 clear hp hr f
 go_enter Tryz.func225, Tryz.ntmps225
 go_wp2_with (go_at_call 251; refine (Tryz.strings_CutPrefix s t _).mono ?_; rintro e w1 ⟨rfl, rfl⟩)
 go_ret
 exact ⟨rfl, rfl⟩
def eu (rb : Nat) (o : Option (Ex × List UInt8)) (n : Nat) (m : Nat) (w : World) (e : Ending) (w' : World) : Prop :=
 ∃ (t : Ex) (v : Value) (s' : ByteArray) (n' : Int) (bad : Bool), e = .returned v ∧ ax w' (fun b => w.heap.size ≤ b) true t v ∧ Rd w' rb s' n' bad ∧ Rg rb w w' ∧ s'.size ≤ m ∧
  (bad = false → o = some (t, s'.data.toList) ∧ t.size ≤ n ∧ n' = (n : Int) - (t.size : Int)) ∧ (bad = true → ∀ e r, o = some (e, r) → n < e.size)
def Dm (rb : Nat) (o : Option (List Ex × List UInt8)) (n : Nat) (m : Nat) (w : World) (e : Ending) (w' : World) : Prop :=
 ∃ (es : List Ex) (v : Value) (s' : ByteArray) (n' : Int) (bad : Bool), e = .returned v ∧ Making w' w.heap.size 70 v es ∧ Rd w' rb s' n' bad ∧ Rg rb w w' ∧ s'.size ≤ m ∧
  (bad = false → o = some (es, s'.data.toList) ∧ Ex.sizes es ≤ n ∧ n' = (n : Int) - (Ex.sizes es : Int)) ∧ (bad = true → ∀ e r, o = some (e, r) → n < Ex.sizes e)
def ym (rb : Nat) (w : World) : Nat := match w.cell? ⟨rb, 0, none⟩, w.cell? ⟨rb, 2, none⟩ with
 | some (.string s), some (.bool false) => s.size + 1
 | _, _ => 0
theorem iq {w : World} {rb : Nat} {s : ByteArray} {n : Int} {bad : Bool} (h : Rd w rb s n bad) : ym rb w = if bad then 0 else s.size + 1 := by
 obtain ⟨c0, _, c2, _⟩ := h.cells
 unfold ym
 rw [c0, c2]
 cases bad <;> rfl
theorem wG (d : Nat) (hd : d ≤ 100) (IH : Hid (∀ (rb : Nat) (s : ByteArray) (n : Nat) (w : World), s.size ≤ 50000 → n ≤ 32 → Rd w rb s n false → Lv rb w → Calls Tryz.prog 202 #[.pointer (some ⟨rb, 0, none⟩), .int .i64 d] w (eu rb (rfE d s.data.toList) n s.size w))) (rb : Nat) (s : ByteArray) (n : Nat) (w : World) (hs : s.size ≤ 50000) (hn : n ≤ 32) (hr : Rd w rb s n false) (hL : Lv rb w) :
  Calls Tryz.prog 227 #[.pointer (some ⟨rb, 0, none⟩), .int .i64 d] w (Dm rb (bq (rfE d) s.data.toList) n s.size w) := by
 obtain ⟨i0, hi0, hz0, hz1, hz2⟩ := info_parts Bo
 have HR := hid hr
 have HL := hid hL
 have hlt := hr.lt
 have hsl := af s
 clear hr hL
 by_cases h0 : pre [41] s.data.toList = true
 ·have H0 := hid h0
  clear h0
  go_enter Tryz.func227, Tryz.ntmps227
  go_wp2_with fail
  refine (ed rb s _ _ _ _ HR.out H0.out).mono ?_
  rintro e w1 ⟨s', rfl, hs', hr1, hg1, hz⟩
  go_wp2_with fail
  go_ret
  refine ⟨[], _, s', _, _, rfl, Making.nil _ _ _, hr1, hg1, ?_, fun _ => ⟨?_, by simp [Ex.sizes], by simp [Ex.sizes]⟩, fun h => by cases h⟩
  ·rw [← af, hs']; simp
  ·rw [bq, if_pos H0.out, hs']; rfl
 ·have hnp : pre [41] s.data.toList = false := Bool.eq_false_iff.2 h0
  have HQ0 : Hid (bq (rfE d) s.data.toList = bT (rfE d) (s.size + 1) s.data.toList) := hid (by rw [bq, if_neg (by rw [hnp]; simp), af])
  have H0 := hid hnp
  clear h0 hnp
  go_enter Tryz.func227, Tryz.ntmps227
  go_wp2_with fail
  refine (aX rb s _ _ _ _ HR.out H0.out).mono ?_
  rintro e w1 ⟨rfl, hw1⟩
  go_wp2_with fail
  subst hw1
  go_loopw [4] (fun sv wr => ∃ (s' : ByteArray) (es : List Ex) (n' : Int) (bad : Bool), s'.size ≤ s.size ∧ Rd wr rb s' n' bad ∧ Rg rb w1 wr ∧ Making wr w1.heap.size 70 sv es ∧
    Hid (bad = false → bq (rfE d) s.data.toList = (bT (rfE d) (s'.size + 1) s'.data.toList).map (fun x => (es ++ x.1, x.2)) ∧ Ex.sizes es ≤ n ∧ n' = (n : Int) - (Ex.sizes es : Int)) ∧
    Hid (bad = true → ∀ e r, bq (rfE d) s.data.toList = some (e, r) → n < Ex.sizes e)) (fun _ wr => ym rb wr)
  case atStart =>
   exact ⟨s, [], n, false, Nat.le_refl _, HR.out, Rg.refl _ _, Making.nil _ _ _, hid fun _ => ⟨by rw [HQ0.out]; simp, by simp [Ex.sizes], by simp [Ex.sizes]⟩, hid (fun h => by cases h)⟩
  case round =>
   obtain ⟨s', es, n', bad, hss, hrd, hrg, hmk, hq1, hq2⟩ := hrel
   obtain ⟨ys, hown, hey⟩ := hmk
   obtain ⟨sa, sc, rfl⟩ := au hown
   obtain ⟨c0, c1, c2, f⟩ := hrd.cells
   have hlr := hrd.lt
   have hgs := hrg.size
   have hob := hown.lt
   have HG := hid (And.intro hrd hrg)
   have HM := hid (And.intro hown hey)
   clear hrd hrg hown hey f
   cases bad with
   | true =>
    have hq := hid (hq2.out rfl)
    clear hq1 hq2
    go_wp2_with fail
    go_ret
    exact ⟨es, _, s', n', true, rfl, ⟨ys, HM.out.1, HM.out.2⟩, HG.out.1, HG.out.2, hss, (fun h => by cases h), fun _ => hq.out⟩
   | false =>
    obtain ⟨hqa, hqb, hqc⟩ := hq1.out rfl
    have hcn : n' = ((n - Ex.sizes es : Nat) : Int) := by omega
    subst hcn
    have HQ := hid hqa
    have hel := Ex.length_le_sizes es
    clear hq1 hq2 hqa hqc
    go_wp2_with fail
    refine (IH.out rb s' (n - Ex.sizes es) wr (by omega) (by omega) HG.out.1 (HL.out.below (HG.out.2.below (by omega)))).mono ?_
    rintro e w2 ⟨t, v, s1, n1, bad1, rfl, hv, hrd2, hrg2, hs1, hb1, hb2⟩
    obtain ⟨q0, q1, q2, q3, q4, q5, rfl⟩ := hv.conc
    have hk : ∀ b, w1.heap.size ≤ b → b < wr.heap.size → w2.heap[b]? = wr.heap[b]? := fun b hb hl => hrg2.keep b hl (by omega)
    have hzw2 := hrg2.size
    have HV := hid (And.intro hv (And.intro hrd2 (And.intro hrg2 (And.intro hk (And.intro hb1 hb2)))))
    clear hv hrd2 hrg2 hk hb1 hb2 c0 c1 c2
    go_wp2_with (at_builtin; go_loud (refine wpList_append_lies _ rfl (.tmp 12) (.tmp 16) 68 rfl w1.heap.size 70 i0 _ 4 48 Tryz.underlying68 hi0 hz0 hz1 hz2 rfl (by omega) (.slice sa es.length sc) es.length ys rfl ((lW HM.out.1 HV.out.2.2.2.1).alloc _) ⟨w2.heap.size, 0, none⟩ 1 1 [.int .i64 q0, .int .u64 q1, .int .u64 q2, .slice q3 q4 q5] rfl rfl (World.news_of_block (cs := #[.int .i64 q0, .int .u64 q1, .int .u64 q2, .slice q3 q4 q5]) (t := 70) (fr := (0, 0)) (aa _ _ _ rfl)) (by simp [Value.oneCell']) (by omega) (by unfold maxLen; omega) (by omega) (by simp; omega) (w2.heap.size + 1) (by simp) ?_); intro gg gcap w3 hown2 hgrow hat hlt2)
    have hne : ∀ b, b < w1.heap.size → some b ≠ (Value.slice sa es.length sc).ownBlock := fun b hb e => by have := (hob _ e.symm).1; omega
    have hr3 : Rd w3 rb s1 n1 bad1 := by
     show w3.heap[rb]? = _
     rw [hgrow.block _ (by simp; omega) (hne _ hlt), ai _ _ _ (by omega)]; exact HV.out.2.1
    have hg3 : Rg rb w1 w3 := by
     have hg2 := HG.out.2.trans HV.out.2.2.1
     refine ⟨hgrow.os.trans hg2.os, hgrow.tape.trans hg2.tape, hgrow.output.trans hg2.output, by have := hgrow.size; simp at this; omega, fun b hb hn => ?_⟩
     rw [hgrow.block _ (by simp; omega) (hne _ hb), ai _ _ _ (by omega)]
     exact hg2.keep b hb hn
    have hm3 : Making w3 w1.heap.size 70 (.slice (some ⟨gg, 0, none⟩) (es.length + 1) gcap) (es ++ [t]) := Making.push' HM.out.1 HM.out.2 (by omega) HV.out.2.2.2.1 (by omega) HV.out.1 hgrow hown2 hat
    have H3 := hid (And.intro hr3 (And.intro hg3 hm3))
    have hstep := hid (nO (rfE d) (oH d) s'.data.toList)
    obtain ⟨d0, d1, d2, df⟩ := hr3.cells
    have df2 := df 2
    have hl3 := hr3.lt
    clear hr3 hg3 hm3 hown2 hgrow hat hne df
    have hfail : bad1 = true → ∀ e r, bq (rfE d) s.data.toList = some (e, r) → n < Ex.sizes e := by
     intro hb e r he
     have hbb := HV.out.2.2.2.2.2 hb
     rw [HQ.out, ← af, hstep.out] at he
     cases hrf : rfE d s'.data.toList with
     | none => rw [hrf] at he; cases he
     | some x =>
      obtain ⟨ea, ra⟩ := x
      rw [hrf] at he
      have := hbb ea ra hrf
      simp only at he
      split at he
      ·injection he with he; injection he with h1 _; subst h1; simp [Ex.sizes_append, Ex.sizes]; omega
      ·split at he
       ·simp only [Option.map_map, Option.map_eq_some_iff] at he
        obtain ⟨x, _, he⟩ := he
        injection he with h1 _; subst h1; simp [Ex.sizes_append, Ex.sizes]; omega
       ·cases he
    have HF := hid hfail
    clear hfail
    cases hp : pre [41] s1.data.toList with
    | true =>
     have HP := hid hp
     clear hp
     refine (ed rb s1 _ _ _ _ H3.out.1 HP.out).mono ?_
     rintro e w4 ⟨s2, rfl, hs2, hr4, hg4, hz4⟩
     have H4 := hid (And.intro hr4 hg4)
     clear hr4 hg4
     go_wp2_with fail
     go_ret
     refine ⟨es ++ [t], _, s2, n1, bad1, rfl, H3.out.2.2.keep (fun b hb hl => H4.out.2.keep b hl (by omega)), H4.out.1, H3.out.2.1.trans H4.out.2, ?_, fun hb => ?_, HF.out⟩
     ·rw [← af, hs2]; simp; omega
     ·obtain ⟨h1, h2, h3⟩ := HV.out.2.2.2.2.1 hb
      refine ⟨?_, by simp [Ex.sizes_append, Ex.sizes]; omega, by simp [Ex.sizes_append, Ex.sizes]; omega⟩
      rw [HQ.out, ← af, hstep.out, h1]
      simp only [HP.out, if_true, Option.map_some, hs2]
      rfl
    | false =>
     have HP := hid hp
     clear hp
     refine (aX rb s1 _ _ _ _ H3.out.1 HP.out).mono ?_
     rintro e w4 ⟨rfl, hw4⟩
     subst hw4
     cases bad1 with
     | true =>
      go_wp2_with fail
      go_roundw
      case rel =>
       exact ⟨s1, es ++ [t], n1, true, by omega, ae H3.out.1 rfl, H3.out.2.1.setCell _ _, H3.out.2.2.setCell _ (by simp; omega) _, hid (fun h => by cases h), hid (fun _ => HF.out trivial)⟩
      case measure =>
       rw [iq (s := s1) (n := n1) (bad := true) (ae H3.out.1 rfl), iq HG.out.1]; simp
     | false =>
      obtain ⟨g1, g2, g3⟩ := HV.out.2.2.2.2.1 rfl
      have G := hid (And.intro g1 g3)
      have hsx : Ex.sizes (es ++ [t]) = Ex.sizes es + t.size := by simp [Ex.sizes_append, Ex.sizes]
      have HSX := hid hsx
      have hslt : s1.size < s'.size := by
       have := oH _ _ _ _ g1
       rw [af, af] at this; exact this
      clear g1 g3 hsx
      cases hp : pre [44] s1.data.toList with
      | true =>
       have HP4 := hid hp
       clear hp
       go_wp2_with fail
       refine (ed rb s1 _ _ _ _ H3.out.1 HP4.out).mono ?_
       rintro e w5 ⟨s2, rfl, hs2, hr4, hg4, hz4⟩
       obtain ⟨e0, e1, e2, ef⟩ := hr4.cells
       have ef2 := ef 2
       have hl4 := hr4.lt
       have hs2z : s2.size + 1 = s1.size := by
        have h1 := aL HP4.out
        rw [af] at h1
        have h2 := congrArg List.length hs2
        rw [af] at h2
        have h3 : (ByteArray.mk #[44]).size = 1 := rfl
        simp at h2 h1
        omega
       have H4 := hid (And.intro hr4 (And.intro hg4 hs2))
       clear hr4 hg4 hs2 d0 d1 d2 df2 ef
       go_wp2_with fail
       go_roundw
       case rel =>
        refine ⟨s2, es ++ [t], n1, false, by omega, ae H4.out.1 rfl, (H3.out.2.1.trans H4.out.2.1).setCell _ _, (H3.out.2.2.keep (fun b hb hl => H4.out.2.1.keep b hl (by omega))).setCell _ (by simp; omega) _, hid (fun _ => ⟨?_, by rw [HSX.out]; omega, by rw [HSX.out, G.out.2]; omega⟩), hid (fun h => by cases h)⟩
        rw [HQ.out, ← af, hstep.out, G.out.1]
        simp only [HP.out, HP4.out, if_true, if_false, Bool.false_eq_true, Option.map_map]
        rw [show List.drop 1 s1.data.toList = s2.data.toList from H4.out.2.2.symm, af]
        congr 1
        funext x
        simp
       case measure =>
        rw [iq (s := s2) (n := n1) (bad := false) (ae H4.out.1 rfl), iq HG.out.1]; simp; omega
      | false =>
       have HP4 := hid hp
       clear hp
       go_wp2_with fail
       refine (aX rb s1 _ _ _ _ H3.out.1 HP4.out).mono ?_
       rintro e w5 ⟨rfl, hw5⟩
       subst hw5
       go_wp2_with fail
       go_roundw
       case rel =>
        refine ⟨s1, es ++ [t], n1, true, by omega, ae H3.out.1 rfl, H3.out.2.1.setCell _ _, H3.out.2.2.setCell _ (by simp; omega) _, hid (fun h => by cases h), hid (fun _ e r he => ?_)⟩
        rw [HQ.out, ← af, hstep.out, G.out.1] at he
        simp [HP.out, HP4.out] at he
       case measure =>
        rw [iq (s := s1) (n := n1) (bad := true) (ae H3.out.1 rfl), iq HG.out.1]; simp
end Go.Proofs.YtlpgokcapdjgjaaGreatDoor
