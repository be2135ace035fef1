/- Walks. -/
import Derived.Test.YtlpgokcapdjgjaaGreatDoorY44
set_option maxHeartbeats 4000000
set_option maxRecDepth 100000
namespace Go.Proofs.YtlpgokcapdjgjaaGreatDoor
open Go.RowKit Go
set_option linter.unusedVariables false
set_option linter.unusedSimpArgs false
theorem Hm (d : Nat) (hd : d ≤ 100) (IH : Hid (∀ (tb rb a n : Nat) (l : List UInt8) (sv : Value) (w : World), rb < tb → n ≤ 32 → Vr w rb a 0 l sv → Tk w tb rb n → Calls Tryz.prog 249 #[.pointer (some ⟨tb, 0, none⟩), .int .i64 d] w (eB tb rb l sv n (tkE d (l.drop a)) w))) (tb rb a n : Nat) (l : List UInt8) (sv : Value) (w : World) (hrt : rb < tb) (hn : n ≤ 32) (hv : Vr w rb a 0 l sv) (ht : Tk w tb rb n) (hn1 : 1 ≤ n) (ha : a < l.length) (hk1 : 5 ≤ at8 l a) (hk2 : at8 l a ≤ 5) :
  Calls Tryz.prog 249 #[.pointer (some ⟨tb, 0, none⟩), .int .i64 ((d : Int) + 1)] w (eB tb rb l sv n (tkE (d + 1) (l.drop a)) w) := by
 obtain ⟨i0, hi0, hz0, hz01, hz02⟩ := info_parts kN;obtain ⟨k, hk⟩ : ∃ k, k = at8 l a := ⟨_, rfl⟩;rw [← hk] at hk1 hk2;have hlt := ht.lt;have hba : Below w.1.size w (w.alloc (.cells #[.int .i64 0, .int .u64 0, .int .u64 0, .slice none 0 0] 70)) := br.alloc nl _;have HV := hid (hv.below hba);have HT := hid (ht.keep (hba.block _ hlt));obtain ⟨c0, c1, f⟩ := (ht.keep (hba.block _ hlt)).cells;have HB := hid hba;have HK := hid hk;have t0 : (((d : Int) + 1) == 0) = false := by simp; omega
 clear hv ht hba f hk
 go_enter Tryz.func249, Tryz.ntmps249
 go_wp2_with fail;refine (fO rb a 1 l sv _ HV.out (by omega)).mono ?_;rintro r w1 ⟨v, pp, a', e', rfl, hv1, hg1, hown1, hyes, _⟩;obtain ⟨rfl, hpp, rfl⟩ := hyes (by omega);obtain ⟨bb, bo, bcap, rfl, g, hbb⟩ : ∃ bb bo cap, v = .slice (some ⟨bb, bo, none⟩) 1 cap ∧ w1.cell? ⟨bb, bo, none⟩ = some (.int .u8 (k : Nat)) ∧ w.1.size + 1 ≤ bb := by
  have hp1 : pp = [l[a]] := by rw [hpp, List.drop_eq_getElem_cons ha]; rfl
  subst hp1;have hrb := aO.of_owns hown1;obtain ⟨_, ad, cap, rfl, _⟩ := hrb.shape;obtain ⟨bl, off, rfl, ⟨_, h4⟩, h3⟩ := aO.at8 (j := 0) hrb (by simp);refine ⟨bl, off, cap, rfl, ?_, by simpa using h4⟩;rw [show off = off + 0 from rfl, h3, HK.out, dB l a ha]; rfl
 have hlta : tb < (w.alloc (.cells #[.int .i64 0, .int .u64 0, .int .u64 0, .slice none 0 0] 70)).1.size := by simp; omega
 have hz1 := hg1.size;simp only [aD] at hz1;have ht1 := HT.out.keep (hg1.keep tb hlta (by omega));have hbx1 : w1.1[w.1.size]? = some (.cells #[.int .i64 0, .int .u64 0, .int .u64 0, .slice none 0 0] 70 (0, 0)) := (hg1.keep _ (by simp) (by have := HV.out.lt; omega)).trans (aK _ _ _ rfl);have hr1 : Rk (fun b => b = rb ∨ b = tb) w w1 := (Rk.of_below HB.out).trans' ⟨hg1.os, hg1.tape, hg1.output, hg1.size, fun b hb hn => hg1.keep b hb hn⟩ (fun i _ h => Or.inl h);clear c0 c1;obtain ⟨c0, c1, f⟩ := ht1.cells;have f1 := f 1;have hl1 : tb < w1.1.size := ht1.lt;have hbl := aG w1 _ g;have hnb : ¬ bb = tb := by omega
 have hnb' : ¬ tb = bb := by omega
 have H1 := hid (au ht1 (au hv1 (au hbx1 (au hr1 hbl))));clear ht1 hv1 hbx1 hr1 hg1 f hown1 hyes hpp;have t1 : decide ((n : Int) - 1 < 0) = false := by simp; omega
 go_wp2_with fail;have hv2 : Vr (w1.setCell ⟨tb, 1, none⟩ (.int .i64 ((n : Int) - 1))) rb (a + 1) 0 l sv := H1.out.2.1.keep (fun b hb => ay _ _ _ _ (by simp; omega));have ht2 : Tk (w1.setCell ⟨tb, 1, none⟩ (.int .i64 ((n : Int) - 1))) tb rb ((n : Int) - 1) := aM H1.out.1 (by simp);have hbx2 : (w1.setCell ⟨tb, 1, none⟩ (.int .i64 ((n : Int) - 1))).1[w.1.size]? = some (.cells #[.int .i64 0, .int .u64 0, .int .u64 0, .slice none 0 0] 70 (0, 0)) := (ay _ _ _ _ (by simp; omega)).trans H1.out.2.2.1;have hr2 : Rk (fun b => b = rb ∨ b = tb) w (w1.setCell ⟨tb, 1, none⟩ (.int .i64 ((n : Int) - 1))) := H1.out.2.2.2.1.setCell tb (Or.inr (Or.inr rfl)) _ _;have g2 : (w1.setCell ⟨tb, 1, none⟩ (.int .i64 ((n : Int) - 1))).cell? ⟨bb, bo, none⟩ = some (.int .u8 (k : Nat)) := by rw [aF _ _ _ _ (fun e => hnb' (congrArg Addr.block e))]; exact g
 have hz2 : (w1.setCell ⟨tb, 1, none⟩ (.int .i64 ((n : Int) - 1))).1.size = w1.1.size := by simp
 generalize w1.setCell ⟨tb, 1, none⟩ (.int .i64 ((n : Int) - 1)) = W2 at hv2 ht2 hbx2 hr2 g2 hz2 ⊢;refine (fF (k : Nat) _ (by omega) (by omega)).mono ?_;rintro e2 w3 ⟨hin, hout, hb3⟩;obtain ⟨blk, hblk, hheap, rfl⟩ := hin (by omega);clear hin hout hheap;obtain ⟨fn, caps, hfn⟩ := dY (k : Int) blk;rw [hfn, show dA (k : Int) = 0 from by
  have h67 : (k : Int) = 5 := by omega
  rw [h67]; rfl, show df (k : Int) = 1 from by
  have h67 : (k : Int) = 5 := by omega
  rw [h67]; rfl, show dN (k : Int) = 1 from by
  have h67 : (k : Int) = 5 := by omega
  rw [h67]; rfl]
 have hz3 := hb3.size;have hbl3 : bb < w3.1.size := by omega
 have hpl3 : w.1.size < w3.1.size := by omega
 have H3 := hid (au (hv2.below hb3) (au (ht2.keep (hb3.block _ ht2.lt)) (au ((hb3.block w.1.size (by omega)).trans hbx2) (hr2.trans (Rk.of_below hb3)))));have c3 : ∀ o, w3.cell? ⟨w.1.size, o, none⟩ = (#[.int .i64 0, .int .u64 0, .int .u64 0, .slice none 0 0] : Array Value)[o]? := fun o => ax w3 _ o _ _ _ ((hb3.block _ (by omega)).trans hbx2)
 have f3 : w3.frozen? ⟨w.1.size, 0, none⟩ = false := by rw [aA w3 _ 0 _ _ ((hb3.block _ (by omega)).trans hbx2)]
 have g3 : w3.cell? ⟨bb, bo, none⟩ = some (.int .u8 (k : Nat)) := (hb3.cell (by show bb < _; omega)).trans g2;have hnp : ¬ bb = w.1.size := by omega
 have hnp' : ¬ w.1.size = bb := by omega
 clear hv2 ht2 hbx2 hr2 g g2 hb3 c0 c1 f1 hfn hblk;go_wp2_with fail;obtain ⟨W4, hW4⟩ : ∃ W4, W4 = ((w3.setCell ⟨w.1.size, 0, none⟩ (.int .i64 (k : Nat))).alloc (.cells #[.int .i64 0, .int .i64 1, .int .i64 1, .func fn #[] caps] 279)).alloc (.cells #[.pointer (some ⟨w.1.size, 1, none⟩), .pointer (some ⟨w.1.size, 2, none⟩)] 154) := ⟨_, rfl⟩;have hg4 : Tg w W4 tb rb w3.1.size (a + 1) 0 l sv ((n : Int) - 1) #[.int .i64 (k : Nat), .int .u64 0, .int .u64 0, .slice none 0 0] #[.int .i64 0, .int .i64 1, .int .i64 1, .func fn #[] caps] := by
  have hs : ∀ b, b < w3.1.size → b ≠ w.1.size → W4.1[b]? = w3.1[b]? := fun b hb hne => by
   rw [hW4, aL _ _ _ (by simp; omega), aL _ _ _ (by simp; omega), ay _ _ _ _ (by simpa using hne)]
  refine ⟨H3.out.1.keep (fun b hb => hs b (by have := H3.out.1.lt; omega) (by omega)), H3.out.2.1.keep (hs _ H3.out.2.1.lt (by omega)), ?_, ?_, ?_, hrt, hlt, hpl3⟩
  ·rw [hW4, aL _ _ _ (by simp; omega), aL _ _ _ (by simp; omega)]; exact aM H3.out.2.2.1 (by simp)
  ·rw [hW4, aL _ _ _ (by simp)]; exact aK _ _ _ (by simp)
  ·rw [hW4]; exact ((H3.out.2.2.2.setCell w.1.size (Or.inl nl) 0 _).trans (Rk.of_below (br.alloc nl _))).trans (Rk.of_below (br.alloc nl _))
 have h4p : W4.1[w3.1.size + 1]? = some (.cells #[.pointer (some ⟨w.1.size, 1, none⟩), .pointer (some ⟨w.1.size, 2, none⟩)] 154 (0, 0)) := by rw [hW4]; exact aK _ _ _ (by simp)
 rw [← hW4];generalize hkb : w3.1.size = kb at hg4 h4p hpl3 ⊢;have HG4 := hid hg4;clear hW4 c3 f3 g3 hg4 H3 hbl3;obtain ⟨x1, x2, x3, x4, x5⟩ := HG4.out.cells;obtain ⟨y1, y2, y3, y4⟩ := HG4.out.lts;refine wp_loop_rounds 1 ?_;rw [rounds_succ];go_wp2_with fail;obtain ⟨w5, hw50⟩ : ∃ w5, w5 = W4 := ⟨_, rfl⟩;have HG5 := HG4;rw [← hw50] at HG5 x1 x2 x3 x4 x5 y1 y2 y3 y4 ⊢;clear hw50;obtain ⟨o, ho⟩ : ∃ o, o = some (l.drop (a + 1)) := ⟨_, rfl⟩;have HS5 : Hid (VAt l o (a + 1) 0) := hid (Or.inr ⟨rfl, ho⟩);have HFIN : Hid (tkE (d + 1) (l.drop a) = (o.bind (bi (tkE d) 1)).map fun x => (.mk (k : Nat) 0 0 x.1, x.2)) := by
  refine hid ?_;rw [jd ha (by rw [← HK.out]; omega) (by rw [← HK.out]; omega), ← HK.out, ho];unfold bK iU;rw [if_neg (by omega), if_neg (by omega), if_pos (by omega)]
 clear x1 x2 x3 x4 x5 y1 y2 y3 y4 ho;have hw5 : w.1.size < w5.1.size := HG5.out.lts.2.2.1;have hkb5 : kb < w5.1.size := HG5.out.lts.2.2.2
 go_loopw [5, 11] (fun okv i wr => ∃ (j : Nat) (es : List Ex) (svp : Value) (a' : Nat) (e' n' : Int) (ok : Bool), okv = .bool ok ∧ i = .int .u64 j ∧ j ≤ 1 ∧
   Tg w wr tb rb kb a' e' l sv n' #[.int .i64 (k : Nat), .int .u64 0, .int .u64 0, svp] #[.int .i64 0, .int .i64 1, .int .i64 1, .func fn #[] caps] ∧ w5.1.size ≤ wr.1.size ∧ Making wr w5.1.size 70 svp es ∧ Hid (TSt d l o 1 n j es a' e' n' ok)) (fun _ i _ => 1 - (intOf i).toNat)
 case atStart => exact ⟨0, [], _, (a + 1), 0, _, true, rfl, rfl, by omega, HG5.out, Nat.le_refl _, Making.nil _ _ _, hid (TSt.start HS5.out hn1)⟩
 case round =>
  obtain ⟨j, es, svp, a', e', n', ok, rfl, rfl, hjm, hg, hsz, ⟨ys, hown, hey⟩, hst⟩ := hrel;obtain ⟨sa, sc, rfl⟩ := aQ hown;have hob := hown.lt;obtain ⟨x1, x2, x3, x4, x5⟩ := hg.cells;obtain ⟨y1, y2, y3, y4⟩ := hg.lts;have HG := hid hg;have HM := hid (au hown hey);have HEr := hid (dn rb a' e' l sv wr hg.vr);clear hg hown hey;by_cases hc : j < 1 ∧ ok = true ∧ e' = 0
  ·obtain ⟨hlt2, rfl, rfl⟩ := hc
   go_wp2_with fail;refine HEr.out.mono ?_;rintro r wx ⟨rfl, rfl⟩;go_wp2_with fail;obtain ⟨hbind, hses, hn'⟩ : o.bind (bi (tkE d) j) = some (es, l.drop a') ∧ Ex.sizes es + 1 ≤ n ∧ n' = ((n - 1 - Ex.sizes es : Nat) : Int) := by
    rcases hst.out with ⟨_, _, h3, h4, h5⟩ | ⟨_, h, _⟩ | ⟨h, _⟩
    ·exact ⟨h3, h4, by omega⟩
    ·exact absurd rfl h
    ·cases h
   subst hn';have hel := Ex.length_le_sizes es;have hba : Below wr.1.size wr (wr.alloc (.cells #[.int .i64 0, .int .u64 0, .int .u64 0, .slice none 0 0] 70)) := br.alloc nl _;have HGa := hid (HG.out.below hba);have HBI := hid hbind;have HBA := hid hba;clear hst hbind x1 x2 x3 x4 x5 hba;refine (IH.out tb rb a' (n - 1 - Ex.sizes es) l sv _ hrt (by omega) HGa.out.vr HGa.out.tk).mono ?_;rintro r w1' ⟨t, v, a1, e1, n1, ok1, rfl, hv, hvr1, htk1, hrk1, hy1, hn1'⟩;obtain ⟨q0, q1, q2, q3, q4, q5, rfl⟩ := hv.conc;have hzr := hrk1.size;simp only [aD] at hzr;have hkp : ∀ b, w.1.size ≤ b → b < wr.1.size + 1 → w1'.1[b]? = (wr.alloc (.cells #[.int .i64 0, .int .u64 0, .int .u64 0, .slice none 0 0] 70)).1[b]? := fun b hb hl => hrk1.keep b (by simpa using hl) (by omega)
   have hg1 : Tg w w1' tb rb kb a1 e1 l sv n1 #[.int .i64 (k : Nat), .int .u64 0, .int .u64 0, .slice sa es.length sc] #[.int .i64 0, .int .i64 1, .int .i64 1, .func fn #[] caps] :=
    ⟨hvr1, htk1, (hkp _ nl (by omega)).trans HGa.out.box, (hkp _ (by omega) (by omega)).trans HGa.out.kind, HGa.out.fr.trans hrk1, HG.out.lt⟩
   have hst1 := TSt.step (m := 1) hlt2 HBI.out hses hy1 hn1';have hq1 : w1'.1[wr.1.size]? = some (.cells #[.int .i64 0, .int .u64 0, .int .u64 0, .slice none 0 0] 70 (0, 0)) := (hkp _ (by omega) (by omega)).trans (aK _ _ _ rfl);have c1 : ∀ o, w1'.cell? ⟨wr.1.size, o, none⟩ = (#[.int .i64 0, .int .u64 0, .int .u64 0, .slice none 0 0] : Array Value)[o]? := fun o => ax w1' _ o _ _ _ hq1
   have f1 : ∀ o, w1'.frozen? ⟨wr.1.size, o, none⟩ = false := fun o => by rw [aA w1' _ o _ _ hq1]
   have f10 := f1 0;have f11 := f1 1;have f12 := f1 2;have f13 := f1 3;obtain ⟨x1, x2, x3, x4, x5⟩ := hg1.cells;obtain ⟨y1, y2, y3, y4⟩ := hg1.lts;have hl1 : wr.1.size < w1'.1.size := (by omega);have HQ := hid hq1
   go_wp2_with (refine wpList_store_row rfl 70 (.tmp 12) (.tmp 109) rfl rfl wr.1.size rfl _ rfl 70 _ HQ.out (by kernel_rfl) rfl (by simp [Value.oneCell']) ?_)
   obtain ⟨W, hW⟩ : ∃ W, W = w1'.setRow wr.1.size #[.int .i64 q0, .int .u64 q1, .int .u64 q2, .slice q3 q4 q5] := ⟨_, rfl⟩;have hso : ∀ b, b ≠ wr.1.size → W.1[b]? = w1'.1[b]? := fun b hb => by rw [hW]; exact setRow_other _ _ _ _ (by omega)
   have hsW : W.1.size = w1'.1.size := (by rw [hW]; simp [World.setRow]);have hgW : Tg w W tb rb kb a1 e1 l sv n1 #[.int .i64 (k : Nat), .int .u64 0, .int .u64 0, .slice sa es.length sc] #[.int .i64 0, .int .i64 1, .int .i64 1, .func fn #[] caps] :=
    ⟨hg1.vr.keep (fun b hb => hso b (by omega)), hg1.tk.keep (hso _ (by omega)), (hso _ (by omega)).trans hg1.box, (hso _ (by omega)).trans hg1.kind, by rw [hW]; exact hg1.fr.setRow _ (Or.inl (by omega)) _, hg1.lt⟩
   have hqW : W.1[wr.1.size]? = some (.cells #[.int .i64 q0, .int .u64 q1, .int .u64 q2, .slice q3 q4 q5] 70 (0, 0)) := (by rw [hW]; exact aB _ _ _ _ _ _ HQ.out);have hkW : ∀ b, w5.1.size ≤ b → b < wr.1.size → W.1[b]? = wr.1[b]? := fun b hb hl => (hso b (by omega)).trans ((hkp b (by omega) (by omega)).trans (aL _ _ _ hl))
   have hownW := iE HM.out.1 hkW;have hvW : aT W (fun b => wr.1.size + 1 ≤ b) true t (.agg #[.int .i64 q0, .int .u64 q1, .int .u64 q2, .slice q3 q4 q5]) := aT.keep (fun b hb _ => hso b (by simp at hb; omega)) (fun b _ h => by simpa using h) hv;have hpl : wr.1.size < W.1.size := (by omega);have hys : ys.length = es.length * 4 := hownW.1;have HEY : Hid (aX W (fun b => w5.1.size ≤ b ∧ (Value.slice sa es.length sc).ownBlock ≠ some b) true es ys) := hid (aX.keep (fun b hb hl => hkW b hb.1 hl) (fun _ _ h => h) HM.out.2);have HYS := hid hys;have hix : ((es.length : Nat) : Int) < (es.length : Int) + 1 := (by omega);rw [← hW];clear hys;clear hsW;clear hso hW hq1 c1 f1 f10 f11 f12 f13 x1 x2 x3 x4 x5 y1 y2 y3 y4 hkp hrk1 hvr1 htk1 hv HQ hzr hl1;obtain ⟨x1, x2, x3, x4, x5⟩ := hgW.cells;obtain ⟨y1, y2, y3, y4⟩ := hgW.lts;have c1 : ∀ o, W.cell? ⟨wr.1.size, o, none⟩ = (#[.int .i64 q0, .int .u64 q1, .int .u64 q2, .slice q3 q4 q5] : Array Value)[o]? := fun o => ax W _ o _ _ _ hqW
   have x23 := x2 3;have HW := hid (au hgW (au hqW (au hkW (au hownW (au hvW hst1)))));clear hgW hqW hkW hownW hvW hst1 hg1 x2 hy1 hn1';have hX0 : Below W.1.size W ((W.alloc (.cells #[.int .i64 0, .int .u64 0, .int .u64 0, .slice none 0 0] 70)).drew) := (br.alloc nl _).drew
   go_region_law (first
    | (refine step_append_lies _ (by rfl) (.tmp 112) (.tmp 115) 68 (by rfl) w5.1.size 70 i0 _ 4 48 Tryz.underlying68 hi0 hz0 hz01 hz02 rfl (by omega) (.slice sa es.length sc) es.length ys (by rfl) ((HW.out.2.2.2.1.drew).alloc _) ⟨W.1.size, 0, none⟩ 1 1 [.int .i64 0, .int .u64 0, .int .u64 0, .slice none 0 0] (by rfl) (by rfl) (World.news_of_block (cs := #[.int .i64 0, .int .u64 0, .int .u64 0, .slice none 0 0]) (t := 70) (fr := (0, 0)) (heap_alloc_new _ _)) (by simp [Value.oneCell'])
         (by omega) (by unfold maxLen; omega) (by omega) (by simp; omega) (W.1.size + 1) (by simp) ?_; intro gg gcap w2 hown2 hgrow hat hlt3
       obtain ⟨e0, e1', e2, e3, ef⟩ := Gh hown2 HYS.out;have ef0 := ef (es.length * 4);have ef1 := ef (es.length * 4 + 1);have ef2 := ef (es.length * 4 + 2);have ef3 := ef (es.length * 4 + 3);have hgp : ¬ gg = w.1.size := (by rcases hat with h | h; have := (hob _ h).1; omega; omega);have hgp' : ¬ w.1.size = gg := (by omega);have hne : some w.1.size ≠ (Value.slice sa es.length sc).ownBlock := fun e => (by have := hob _ e.symm; omega)
       have c5 : w2.cell? ⟨w.1.size, 3, none⟩ = some (.slice sa es.length sc) := ((hgrow.cell_far _ (by simp; omega) hne).trans ((hX0.cell (p := ⟨w.1.size, 3, none⟩) y3).trans (x1 3)));have f5 : w2.frozen? ⟨w.1.size, 3, none⟩ = false := ((hgrow.frozen_far _ (by simp; omega) hne).trans ((hX0.frozen (p := ⟨w.1.size, 3, none⟩) y3).trans x23));have HP := hid (au hown2 (au hgrow hat)); clear hown2 hgrow hat ef hne))
   all_goals
    have HPF := hid (BM HW.out.1 (base := w5.1.size) (lo := wr.1.size + 1) hw5 hkb5 (by omega) (by omega) HW.out.2.2.2.1 HEY.out (fun k hk => by have := (hob k hk).2; omega) HW.out.2.2.2.2.1 HP.out.1 HP.out.2.1 HP.out.2.2);have HP1 : Hid (∀ F, F = ((((w2.setCell ⟨gg, es.length * 4, none⟩ (.int .i64 q0)).setCell ⟨gg, es.length * 4 + 1, none⟩ (.int .u64 q1)).setCell ⟨gg, es.length * 4 + 2, none⟩ (.int .u64 q2)).setCell ⟨gg, es.length * 4 + 3, none⟩ (.slice q3 q4 q5)).setCell ⟨w.1.size, 3, none⟩ (.slice (some ⟨gg, 0, none⟩) (es.length + 1) gcap) → Tg w F tb rb kb a1 e1 l sv n1 #[.int .i64 (k : Nat), .int .u64 0, .int .u64 0, .slice (some ⟨gg, 0, none⟩) (es.length + 1) gcap] #[.int .i64 0, .int .i64 1, .int .i64 1, .func fn #[] caps] ∧ w5.1.size ≤ F.1.size ∧ Making F w5.1.size 70 (.slice (some ⟨gg, 0, none⟩) (es.length + 1) gcap) (es ++ [t])) := hid (fun F hF => (fun h => ⟨h.1, Nat.le_trans (by omega) h.2.1, h.2.2⟩) (HPF.out F (Or.inl hF)));have HP2 : Hid (∀ F, F = (((((w2.setCell ⟨w.1.size, 3, none⟩ (.slice (some ⟨gg, 0, none⟩) (es.length + 1) gcap)).setCell ⟨gg, es.length * 4, none⟩ (.int .i64 q0)).setCell ⟨gg, es.length * 4 + 1, none⟩ (.int .u64 q1)).setCell ⟨gg, es.length * 4 + 2, none⟩ (.int .u64 q2)).setCell ⟨gg, es.length * 4 + 3, none⟩ (.slice q3 q4 q5)) → Tg w F tb rb kb a1 e1 l sv n1 #[.int .i64 (k : Nat), .int .u64 0, .int .u64 0, .slice (some ⟨gg, 0, none⟩) (es.length + 1) gcap] #[.int .i64 0, .int .i64 1, .int .i64 1, .func fn #[] caps] ∧ w5.1.size ≤ F.1.size ∧ Making F w5.1.size 70 (.slice (some ⟨gg, 0, none⟩) (es.length + 1) gcap) (es ++ [t])) := hid (fun F hF => (fun h => ⟨h.1, Nat.le_trans (by omega) h.2.1, h.2.2⟩) (HPF.out F (Or.inr hF)));clear e0 e1' e2 e3 ef0 ef1 ef2 ef3 c5 f5 hX0 c1 x1 x3 x4 x5 x23 HPF;go_wp2_with fail;go_roundw
    case rel =>
     refine ⟨j + 1, es ++ [t], .slice (some ⟨gg, 0, none⟩) (es.length + 1) gcap, a1, e1, n1, ok1, rfl, by go_num, by omega, ?_, ?_, ?_, hid HW.out.2.2.2.2.2⟩
     ·first | with_reducible exact (HP1.out _ rfl).1 | with_reducible exact (HP2.out _ rfl).1
     ·first | with_reducible exact (HP1.out _ rfl).2.1 | with_reducible exact (HP2.out _ rfl).2.1
     ·first | with_reducible exact (HP1.out _ rfl).2.2 | with_reducible exact (HP2.out _ rfl).2.2
    case measure => simp [intOf]; omega
  ·have hend : j = 1 ∨ ok = false ∨ e' ≠ 0 := by
    by_cases h1 : j < 1
    ·cases ok with
     | false => exact Or.inr (Or.inl rfl)
     | true => exact Or.inr (Or.inr (fun h => hc ⟨h1, rfl, h⟩))
    ·exact Or.inl (by omega)
   have HE := hid (TSt.ends hst.out hjm hend k 0 0);have HREP := hid (fZ (S := fun b => w.1.size + 1 ≤ b) (k := (k : Nat)) (A := 0) (B := 0) ⟨ys, HM.out.1, HM.out.2⟩ (fun _ _ _ => rfl) (fun b h => by omega) (by omega) (by omega) (by omega) (by omega));have x20 := x2 0;have x21 := x2 1;have x22 := x2 2;have x23 := x2 3;have hvd : Vr wr.drew rb a' e' l sv := HG.out.vr.below br.drew;have HVD := hid hvd;have hjt : ok = true → e' = 0 → ¬ j < 1 := fun h1 h2 h3 => hc ⟨h3, h1, h2⟩
   clear hst hend x2 hc hvd;cases ok with
   | false =>
    clear hjt;go_wp2_with fail
    all_goals
     go_region
     go_wp2_with fail;refine aC (v := .tuple #[.agg #[.int .i64 (k : Nat), .int .u64 0, .int .u64 0, .slice sa es.length sc], .bool false]) (aN rfl _ _ w.1.size 70 _ _ _ _ rfl (gG HG.out).2.2.2.1 Tryz.underlying70 rfl (by kernel_rfl) rfl) rfl ?_;exact eP HG.out (HREP.out.wider (fun b _ h => Nat.le_of_succ_le h)) (fun h => by cases h) (fun _ => by rw [HFIN.out]; rcases HE.out with h | h; exact absurd h.1 (by simp); exact h.2)
   | true =>
    by_cases he0 : e' = 0
    ·subst he0
     have hjt2 := hjt rfl rfl;clear hjt;go_wp2_with fail
     go_region_with (first | (go_at_call 71; go_fit (dn rb a' 0 l sv _ HVD.out); rintro r wx ⟨rfl, rfl⟩))
     all_goals
      go_wp2_with fail;refine aC (v := .tuple #[.agg #[.int .i64 (k : Nat), .int .u64 0, .int .u64 0, .slice sa es.length sc], .bool true]) (aN rfl _ _ w.1.size 70 _ _ _ _ rfl (gG HG.out).2.2.2.1 Tryz.underlying70 rfl (by kernel_rfl) rfl) rfl ?_;exact eP HG.out (HREP.out.wider (fun b _ h => Nat.le_of_succ_le h)) (fun _ => by rw [HFIN.out]; rcases HE.out with h | h; exact ⟨rfl, h.2.2.1, h.2.2.2.1, h.2.2.2.2⟩; rcases h.1 with h | h; cases h; exact absurd rfl h) (fun h => by cases h)
    ·have t2 : (e' == 0) = false := by simpa using he0
     have HE0 := hid he0;clear hjt he0;by_cases hjm2 : j < 1
     ·go_wp2_with fail
      refine HEr.out.mono ?_;rintro r wx ⟨rfl, rfl⟩;go_wp2_with fail
      go_region_with (first | (go_at_call 71; go_fit (dn rb a' e' l sv _ HVD.out); rintro r wx ⟨rfl, rfl⟩))
      all_goals
       go_wp2_with fail;refine aC (v := .tuple #[.agg #[.int .i64 (k : Nat), .int .u64 0, .int .u64 0, .slice sa es.length sc], .bool false]) (aN rfl _ _ w.1.size 70 _ _ _ _ rfl (gG HG.out).2.2.2.1 Tryz.underlying70 rfl (by kernel_rfl) rfl) rfl ?_;exact eP HG.out (HREP.out.wider (fun b _ h => Nat.le_of_succ_le h)) (fun h => by cases h) (fun _ => by rw [HFIN.out]; rcases HE.out with h | h; exact absurd h.2.1 HE0.out; exact h.2)
     ·go_wp2_with fail
      go_region_with (first | (go_at_call 71; go_fit (dn rb a' e' l sv _ HVD.out); rintro r wx ⟨rfl, rfl⟩))
      all_goals
       go_wp2_with fail;refine aC (v := .tuple #[.agg #[.int .i64 (k : Nat), .int .u64 0, .int .u64 0, .slice sa es.length sc], .bool false]) (aN rfl _ _ w.1.size 70 _ _ _ _ rfl (gG HG.out).2.2.2.1 Tryz.underlying70 rfl (by kernel_rfl) rfl) rfl ?_;exact eP HG.out (HREP.out.wider (fun b _ h => Nat.le_of_succ_le h)) (fun h => by cases h) (fun _ => by rw [HFIN.out]; rcases HE.out with h | h; exact absurd h.2.1 HE0.out; exact h.2)
theorem Ho (d : Nat) (hd : d ≤ 100) (IH : Hid (∀ (tb rb a n : Nat) (l : List UInt8) (sv : Value) (w : World), rb < tb → n ≤ 32 → Vr w rb a 0 l sv → Tk w tb rb n → Calls Tryz.prog 249 #[.pointer (some ⟨tb, 0, none⟩), .int .i64 d] w (eB tb rb l sv n (tkE d (l.drop a)) w))) (tb rb a n : Nat) (l : List UInt8) (sv : Value) (w : World) (hrt : rb < tb) (hn : n ≤ 32) (hv : Vr w rb a 0 l sv) (ht : Tk w tb rb n) (hn1 : 1 ≤ n) (ha : a < l.length) (hk1 : 1 ≤ at8 l a) (hk2 : at8 l a ≤ 1) :
  Calls Tryz.prog 249 #[.pointer (some ⟨tb, 0, none⟩), .int .i64 ((d : Int) + 1)] w (eB tb rb l sv n (tkE (d + 1) (l.drop a)) w) := by
 obtain ⟨i0, hi0, hz0, hz01, hz02⟩ := info_parts kN;obtain ⟨k, hk⟩ : ∃ k, k = at8 l a := ⟨_, rfl⟩;rw [← hk] at hk1 hk2;have hlt := ht.lt;have hba : Below w.1.size w (w.alloc (.cells #[.int .i64 0, .int .u64 0, .int .u64 0, .slice none 0 0] 70)) := br.alloc nl _;have HV := hid (hv.below hba);have HT := hid (ht.keep (hba.block _ hlt));obtain ⟨c0, c1, f⟩ := (ht.keep (hba.block _ hlt)).cells;have HB := hid hba;have HK := hid hk;have t0 : (((d : Int) + 1) == 0) = false := by simp; omega
 clear hv ht hba f hk
 go_enter Tryz.func249, Tryz.ntmps249
 go_wp2_with fail;refine (fO rb a 1 l sv _ HV.out (by omega)).mono ?_;rintro r w1 ⟨v, pp, a', e', rfl, hv1, hg1, hown1, hyes, _⟩;obtain ⟨rfl, hpp, rfl⟩ := hyes (by omega);obtain ⟨bb, bo, bcap, rfl, g, hbb⟩ : ∃ bb bo cap, v = .slice (some ⟨bb, bo, none⟩) 1 cap ∧ w1.cell? ⟨bb, bo, none⟩ = some (.int .u8 (k : Nat)) ∧ w.1.size + 1 ≤ bb := by
  have hp1 : pp = [l[a]] := by rw [hpp, List.drop_eq_getElem_cons ha]; rfl
  subst hp1;have hrb := aO.of_owns hown1;obtain ⟨_, ad, cap, rfl, _⟩ := hrb.shape;obtain ⟨bl, off, rfl, ⟨_, h4⟩, h3⟩ := aO.at8 (j := 0) hrb (by simp);refine ⟨bl, off, cap, rfl, ?_, by simpa using h4⟩;rw [show off = off + 0 from rfl, h3, HK.out, dB l a ha]; rfl
 have hlta : tb < (w.alloc (.cells #[.int .i64 0, .int .u64 0, .int .u64 0, .slice none 0 0] 70)).1.size := by simp; omega
 have hz1 := hg1.size;simp only [aD] at hz1;have ht1 := HT.out.keep (hg1.keep tb hlta (by omega));have hbx1 : w1.1[w.1.size]? = some (.cells #[.int .i64 0, .int .u64 0, .int .u64 0, .slice none 0 0] 70 (0, 0)) := (hg1.keep _ (by simp) (by have := HV.out.lt; omega)).trans (aK _ _ _ rfl);have hr1 : Rk (fun b => b = rb ∨ b = tb) w w1 := (Rk.of_below HB.out).trans' ⟨hg1.os, hg1.tape, hg1.output, hg1.size, fun b hb hn => hg1.keep b hb hn⟩ (fun i _ h => Or.inl h);clear c0 c1;obtain ⟨c0, c1, f⟩ := ht1.cells;have f1 := f 1;have hl1 : tb < w1.1.size := ht1.lt;have hbl := aG w1 _ g;have hnb : ¬ bb = tb := by omega
 have hnb' : ¬ tb = bb := by omega
 have H1 := hid (au ht1 (au hv1 (au hbx1 (au hr1 hbl))));clear ht1 hv1 hbx1 hr1 hg1 f hown1 hyes hpp;have t1 : decide ((n : Int) - 1 < 0) = false := by simp; omega
 go_wp2_with fail;have hv2 : Vr (w1.setCell ⟨tb, 1, none⟩ (.int .i64 ((n : Int) - 1))) rb (a + 1) 0 l sv := H1.out.2.1.keep (fun b hb => ay _ _ _ _ (by simp; omega));have ht2 : Tk (w1.setCell ⟨tb, 1, none⟩ (.int .i64 ((n : Int) - 1))) tb rb ((n : Int) - 1) := aM H1.out.1 (by simp);have hbx2 : (w1.setCell ⟨tb, 1, none⟩ (.int .i64 ((n : Int) - 1))).1[w.1.size]? = some (.cells #[.int .i64 0, .int .u64 0, .int .u64 0, .slice none 0 0] 70 (0, 0)) := (ay _ _ _ _ (by simp; omega)).trans H1.out.2.2.1;have hr2 : Rk (fun b => b = rb ∨ b = tb) w (w1.setCell ⟨tb, 1, none⟩ (.int .i64 ((n : Int) - 1))) := H1.out.2.2.2.1.setCell tb (Or.inr (Or.inr rfl)) _ _;have g2 : (w1.setCell ⟨tb, 1, none⟩ (.int .i64 ((n : Int) - 1))).cell? ⟨bb, bo, none⟩ = some (.int .u8 (k : Nat)) := by rw [aF _ _ _ _ (fun e => hnb' (congrArg Addr.block e))]; exact g
 have hz2 : (w1.setCell ⟨tb, 1, none⟩ (.int .i64 ((n : Int) - 1))).1.size = w1.1.size := by simp
 generalize w1.setCell ⟨tb, 1, none⟩ (.int .i64 ((n : Int) - 1)) = W2 at hv2 ht2 hbx2 hr2 g2 hz2 ⊢;refine (fF (k : Nat) _ (by omega) (by omega)).mono ?_;rintro e2 w3 ⟨hin, hout, hb3⟩;obtain ⟨blk, hblk, hheap, rfl⟩ := hin (by omega);clear hin hout hheap;obtain ⟨fn, caps, hfn⟩ := dY (k : Int) blk;rw [hfn, show dA (k : Int) = 0 from by
  have h67 : (k : Int) = 1 := by omega
  rw [h67]; rfl, show df (k : Int) = 0 from by
  have h67 : (k : Int) = 1 := by omega
  rw [h67]; rfl, show dN (k : Int) = 0 from by
  have h67 : (k : Int) = 1 := by omega
  rw [h67]; rfl]
 have hz3 := hb3.size;have hbl3 : bb < w3.1.size := by omega
 have hpl3 : w.1.size < w3.1.size := by omega
 have H3 := hid (au (hv2.below hb3) (au (ht2.keep (hb3.block _ ht2.lt)) (au ((hb3.block w.1.size (by omega)).trans hbx2) (hr2.trans (Rk.of_below hb3)))));have c3 : ∀ o, w3.cell? ⟨w.1.size, o, none⟩ = (#[.int .i64 0, .int .u64 0, .int .u64 0, .slice none 0 0] : Array Value)[o]? := fun o => ax w3 _ o _ _ _ ((hb3.block _ (by omega)).trans hbx2)
 have f3 : w3.frozen? ⟨w.1.size, 0, none⟩ = false := by rw [aA w3 _ 0 _ _ ((hb3.block _ (by omega)).trans hbx2)]
 have g3 : w3.cell? ⟨bb, bo, none⟩ = some (.int .u8 (k : Nat)) := (hb3.cell (by show bb < _; omega)).trans g2;have hnp : ¬ bb = w.1.size := by omega
 have hnp' : ¬ w.1.size = bb := by omega
 clear hv2 ht2 hbx2 hr2 g g2 hb3 c0 c1 f1 hfn hblk;go_wp2_with fail;obtain ⟨W4, hW4⟩ : ∃ W4, W4 = ((w3.setCell ⟨w.1.size, 0, none⟩ (.int .i64 (k : Nat))).alloc (.cells #[.int .i64 0, .int .i64 0, .int .i64 0, .func fn #[] caps] 279)).alloc (.cells #[.pointer (some ⟨w.1.size, 1, none⟩), .pointer (some ⟨w.1.size, 2, none⟩)] 154) := ⟨_, rfl⟩;have hg4 : Tg w W4 tb rb w3.1.size (a + 1) 0 l sv ((n : Int) - 1) #[.int .i64 (k : Nat), .int .u64 0, .int .u64 0, .slice none 0 0] #[.int .i64 0, .int .i64 0, .int .i64 0, .func fn #[] caps] := by
  have hs : ∀ b, b < w3.1.size → b ≠ w.1.size → W4.1[b]? = w3.1[b]? := fun b hb hne => by
   rw [hW4, aL _ _ _ (by simp; omega), aL _ _ _ (by simp; omega), ay _ _ _ _ (by simpa using hne)]
  refine ⟨H3.out.1.keep (fun b hb => hs b (by have := H3.out.1.lt; omega) (by omega)), H3.out.2.1.keep (hs _ H3.out.2.1.lt (by omega)), ?_, ?_, ?_, hrt, hlt, hpl3⟩
  ·rw [hW4, aL _ _ _ (by simp; omega), aL _ _ _ (by simp; omega)]; exact aM H3.out.2.2.1 (by simp)
  ·rw [hW4, aL _ _ _ (by simp)]; exact aK _ _ _ (by simp)
  ·rw [hW4]; exact ((H3.out.2.2.2.setCell w.1.size (Or.inl nl) 0 _).trans (Rk.of_below (br.alloc nl _))).trans (Rk.of_below (br.alloc nl _))
 have h4p : W4.1[w3.1.size + 1]? = some (.cells #[.pointer (some ⟨w.1.size, 1, none⟩), .pointer (some ⟨w.1.size, 2, none⟩)] 154 (0, 0)) := by rw [hW4]; exact aK _ _ _ (by simp)
 rw [← hW4];generalize hkb : w3.1.size = kb at hg4 h4p hpl3 ⊢;have HGW4 := hid hg4;clear hW4 c3 f3 g3 hg4 H3 hbl3;obtain ⟨x1, x2, x3, x4, x5⟩ := HGW4.out.cells;obtain ⟨y1, y2, y3, y4⟩ := HGW4.out.lts;have hk1b : kb + 1 < W4.1.size := (ak h4p).1;have p0 : W4.cell? ⟨kb + 1, 0, none⟩ = some (.pointer (some ⟨w.1.size, 1, none⟩)) := by rw [ax W4 _ 0 _ _ _ h4p]; rfl
 have p1 : W4.cell? ⟨kb + 1, 1, none⟩ = some (.pointer (some ⟨w.1.size, 2, none⟩)) := by rw [ax W4 _ 1 _ _ _ h4p]; rfl
 have hv0 : VAt l (some (l.drop (a + 1))) (a + 1) 0 := Or.inr ⟨rfl, rfl⟩;refine wp_loop_rounds 1 ?_;rw [rounds_succ];go_wp2_with fail;refine wp_loop_rounds 1 ?_;rw [rounds_succ];go_wp2_with fail;obtain ⟨o, ho⟩ : ∃ o, o = (some (l.drop (a + 1)) : Option (List UInt8)) := ⟨_, rfl⟩;have HVo : Hid (VAt l o (a + 1) (0 : Int)) := hid (by rw [ho]; exact hv0);have HFIN : Hid (tkE (d + 1) (l.drop a) = (o.bind (bi (tkE d) 0)).map fun x => (.mk (k : Nat) 0 0 x.1, x.2)) := by
  refine hid ?_;rw [jd ha (by rw [← HK.out]; omega) (by rw [← HK.out]; omega), ← HK.out, ho];unfold bK iU;rw [if_neg (by omega), if_neg (by omega), if_neg (by omega), if_neg (by omega)]
 have HE := hid (TSt.ends (TSt.start (d := d) (m := 0) HVo.out hn1) (Nat.le_refl 0) (Or.inl rfl) k 0 0);have x20 := x2 0;have x21 := x2 1;have x22 := x2 2;have x23 := x2 3;have HVD := hid (show Vr W4.drew rb (a + 1) (0 : Int) l sv from HGW4.out.vr.below br.drew);clear ho x2
 ·have HE0 : Hid ((0 : Int) = 0) := hid rfl
  go_region_with (first | (go_at_call 71; go_fit (dn rb (a + 1) (0 : Int) l sv _ HVD.out); rintro r wx ⟨rfl, rfl⟩))
  all_goals
   go_wp2_with fail;refine aC (v := .tuple #[.agg #[.int .i64 (k : Nat), .int .u64 0, .int .u64 0, .slice none 0 0], .bool true]) (aN rfl _ _ w.1.size 70 _ _ _ _ rfl (gG HGW4.out).2.2.2.1 Tryz.underlying70 rfl (by kernel_rfl) rfl) rfl ?_;exact eP (t := .mk (k : Nat) 0 0 []) HGW4.out (bN (by omega) (by omega) (by omega) (by omega)) (fun _ => by rw [HFIN.out]; rcases HE.out with h | h; exact ⟨(rfl : (0 : Int) = 0), h.2.2.1, h.2.2.2.1, h.2.2.2.2⟩; rcases h.1 with h | h; cases h; exact absurd (rfl : (0 : Int) = 0) h) (fun h => by cases h)
theorem Hq (d : Nat) (hd : d ≤ 100) (IH : Hid (∀ (tb rb a n : Nat) (l : List UInt8) (sv : Value) (w : World), rb < tb → n ≤ 32 → Vr w rb a 0 l sv → Tk w tb rb n → Calls Tryz.prog 249 #[.pointer (some ⟨tb, 0, none⟩), .int .i64 d] w (eB tb rb l sv n (tkE d (l.drop a)) w))) (tb rb a n : Nat) (l : List UInt8) (sv : Value) (w : World) (hrt : rb < tb) (hn : n ≤ 32) (hv : Vr w rb a 0 l sv) (ht : Tk w tb rb n) (hn1 : 1 ≤ n) (ha : a < l.length) (hk1 : 2 ≤ at8 l a) (hk2 : at8 l a ≤ 3) :
  Calls Tryz.prog 249 #[.pointer (some ⟨tb, 0, none⟩), .int .i64 ((d : Int) + 1)] w (eB tb rb l sv n (tkE (d + 1) (l.drop a)) w) := by
 obtain ⟨i0, hi0, hz0, hz01, hz02⟩ := info_parts kN;obtain ⟨k, hk⟩ : ∃ k, k = at8 l a := ⟨_, rfl⟩;rw [← hk] at hk1 hk2;have hlt := ht.lt;have hba : Below w.1.size w (w.alloc (.cells #[.int .i64 0, .int .u64 0, .int .u64 0, .slice none 0 0] 70)) := br.alloc nl _;have HV := hid (hv.below hba);have HT := hid (ht.keep (hba.block _ hlt));obtain ⟨c0, c1, f⟩ := (ht.keep (hba.block _ hlt)).cells;have HB := hid hba;have HK := hid hk;have t0 : (((d : Int) + 1) == 0) = false := by simp; omega
 clear hv ht hba f hk
 go_enter Tryz.func249, Tryz.ntmps249
 go_wp2_with fail;refine (fO rb a 1 l sv _ HV.out (by omega)).mono ?_;rintro r w1 ⟨v, pp, a', e', rfl, hv1, hg1, hown1, hyes, _⟩;obtain ⟨rfl, hpp, rfl⟩ := hyes (by omega);obtain ⟨bb, bo, bcap, rfl, g, hbb⟩ : ∃ bb bo cap, v = .slice (some ⟨bb, bo, none⟩) 1 cap ∧ w1.cell? ⟨bb, bo, none⟩ = some (.int .u8 (k : Nat)) ∧ w.1.size + 1 ≤ bb := by
  have hp1 : pp = [l[a]] := by rw [hpp, List.drop_eq_getElem_cons ha]; rfl
  subst hp1;have hrb := aO.of_owns hown1;obtain ⟨_, ad, cap, rfl, _⟩ := hrb.shape;obtain ⟨bl, off, rfl, ⟨_, h4⟩, h3⟩ := aO.at8 (j := 0) hrb (by simp);refine ⟨bl, off, cap, rfl, ?_, by simpa using h4⟩;rw [show off = off + 0 from rfl, h3, HK.out, dB l a ha]; rfl
 have hlta : tb < (w.alloc (.cells #[.int .i64 0, .int .u64 0, .int .u64 0, .slice none 0 0] 70)).1.size := by simp; omega
 have hz1 := hg1.size;simp only [aD] at hz1;have ht1 := HT.out.keep (hg1.keep tb hlta (by omega));have hbx1 : w1.1[w.1.size]? = some (.cells #[.int .i64 0, .int .u64 0, .int .u64 0, .slice none 0 0] 70 (0, 0)) := (hg1.keep _ (by simp) (by have := HV.out.lt; omega)).trans (aK _ _ _ rfl);have hr1 : Rk (fun b => b = rb ∨ b = tb) w w1 := (Rk.of_below HB.out).trans' ⟨hg1.os, hg1.tape, hg1.output, hg1.size, fun b hb hn => hg1.keep b hb hn⟩ (fun i _ h => Or.inl h);clear c0 c1;obtain ⟨c0, c1, f⟩ := ht1.cells;have f1 := f 1;have hl1 : tb < w1.1.size := ht1.lt;have hbl := aG w1 _ g;have hnb : ¬ bb = tb := by omega
 have hnb' : ¬ tb = bb := by omega
 have H1 := hid (au ht1 (au hv1 (au hbx1 (au hr1 hbl))));clear ht1 hv1 hbx1 hr1 hg1 f hown1 hyes hpp;have t1 : decide ((n : Int) - 1 < 0) = false := by simp; omega
 go_wp2_with fail;have hv2 : Vr (w1.setCell ⟨tb, 1, none⟩ (.int .i64 ((n : Int) - 1))) rb (a + 1) 0 l sv := H1.out.2.1.keep (fun b hb => ay _ _ _ _ (by simp; omega));have ht2 : Tk (w1.setCell ⟨tb, 1, none⟩ (.int .i64 ((n : Int) - 1))) tb rb ((n : Int) - 1) := aM H1.out.1 (by simp);have hbx2 : (w1.setCell ⟨tb, 1, none⟩ (.int .i64 ((n : Int) - 1))).1[w.1.size]? = some (.cells #[.int .i64 0, .int .u64 0, .int .u64 0, .slice none 0 0] 70 (0, 0)) := (ay _ _ _ _ (by simp; omega)).trans H1.out.2.2.1;have hr2 : Rk (fun b => b = rb ∨ b = tb) w (w1.setCell ⟨tb, 1, none⟩ (.int .i64 ((n : Int) - 1))) := H1.out.2.2.2.1.setCell tb (Or.inr (Or.inr rfl)) _ _;have g2 : (w1.setCell ⟨tb, 1, none⟩ (.int .i64 ((n : Int) - 1))).cell? ⟨bb, bo, none⟩ = some (.int .u8 (k : Nat)) := by rw [aF _ _ _ _ (fun e => hnb' (congrArg Addr.block e))]; exact g
 have hz2 : (w1.setCell ⟨tb, 1, none⟩ (.int .i64 ((n : Int) - 1))).1.size = w1.1.size := by simp
 generalize w1.setCell ⟨tb, 1, none⟩ (.int .i64 ((n : Int) - 1)) = W2 at hv2 ht2 hbx2 hr2 g2 hz2 ⊢;refine (fF (k : Nat) _ (by omega) (by omega)).mono ?_;rintro e2 w3 ⟨hin, hout, hb3⟩;obtain ⟨blk, hblk, hheap, rfl⟩ := hin (by omega);clear hin hout hheap;obtain ⟨fn, caps, hfn⟩ := dY (k : Int) blk;rw [hfn, show dA (k : Int) = 1 from by
  have h67 : (k : Int) = 2 ∨ (k : Int) = 3 := by omega
  rcases h67 with h | h <;> rw [h] <;> rfl, show df (k : Int) = 0 from by
  have h67 : (k : Int) = 2 ∨ (k : Int) = 3 := by omega
  rcases h67 with h | h <;> rw [h] <;> rfl, show dN (k : Int) = 0 from by
  have h67 : (k : Int) = 2 ∨ (k : Int) = 3 := by omega
  rcases h67 with h | h <;> rw [h] <;> rfl]
 have hz3 := hb3.size;have hbl3 : bb < w3.1.size := by omega
 have hpl3 : w.1.size < w3.1.size := by omega
 have H3 := hid (au (hv2.below hb3) (au (ht2.keep (hb3.block _ ht2.lt)) (au ((hb3.block w.1.size (by omega)).trans hbx2) (hr2.trans (Rk.of_below hb3)))));have c3 : ∀ o, w3.cell? ⟨w.1.size, o, none⟩ = (#[.int .i64 0, .int .u64 0, .int .u64 0, .slice none 0 0] : Array Value)[o]? := fun o => ax w3 _ o _ _ _ ((hb3.block _ (by omega)).trans hbx2)
 have f3 : w3.frozen? ⟨w.1.size, 0, none⟩ = false := by rw [aA w3 _ 0 _ _ ((hb3.block _ (by omega)).trans hbx2)]
 have g3 : w3.cell? ⟨bb, bo, none⟩ = some (.int .u8 (k : Nat)) := (hb3.cell (by show bb < _; omega)).trans g2;have hnp : ¬ bb = w.1.size := by omega
 have hnp' : ¬ w.1.size = bb := by omega
 clear hv2 ht2 hbx2 hr2 g g2 hb3 c0 c1 f1 hfn hblk;go_wp2_with fail;obtain ⟨W4, hW4⟩ : ∃ W4, W4 = ((w3.setCell ⟨w.1.size, 0, none⟩ (.int .i64 (k : Nat))).alloc (.cells #[.int .i64 1, .int .i64 0, .int .i64 0, .func fn #[] caps] 279)).alloc (.cells #[.pointer (some ⟨w.1.size, 1, none⟩), .pointer (some ⟨w.1.size, 2, none⟩)] 154) := ⟨_, rfl⟩;have hg4 : Tg w W4 tb rb w3.1.size (a + 1) 0 l sv ((n : Int) - 1) #[.int .i64 (k : Nat), .int .u64 0, .int .u64 0, .slice none 0 0] #[.int .i64 1, .int .i64 0, .int .i64 0, .func fn #[] caps] := by
  have hs : ∀ b, b < w3.1.size → b ≠ w.1.size → W4.1[b]? = w3.1[b]? := fun b hb hne => by
   rw [hW4, aL _ _ _ (by simp; omega), aL _ _ _ (by simp; omega), ay _ _ _ _ (by simpa using hne)]
  refine ⟨H3.out.1.keep (fun b hb => hs b (by have := H3.out.1.lt; omega) (by omega)), H3.out.2.1.keep (hs _ H3.out.2.1.lt (by omega)), ?_, ?_, ?_, hrt, hlt, hpl3⟩
  ·rw [hW4, aL _ _ _ (by simp; omega), aL _ _ _ (by simp; omega)]; exact aM H3.out.2.2.1 (by simp)
  ·rw [hW4, aL _ _ _ (by simp)]; exact aK _ _ _ (by simp)
  ·rw [hW4]; exact ((H3.out.2.2.2.setCell w.1.size (Or.inl nl) 0 _).trans (Rk.of_below (br.alloc nl _))).trans (Rk.of_below (br.alloc nl _))
 have h4p : W4.1[w3.1.size + 1]? = some (.cells #[.pointer (some ⟨w.1.size, 1, none⟩), .pointer (some ⟨w.1.size, 2, none⟩)] 154 (0, 0)) := by rw [hW4]; exact aK _ _ _ (by simp)
 rw [← hW4];generalize hkb : w3.1.size = kb at hg4 h4p hpl3 ⊢;have HGW4 := hid hg4;clear hW4 c3 f3 g3 hg4 H3 hbl3;obtain ⟨x1, x2, x3, x4, x5⟩ := HGW4.out.cells;obtain ⟨y1, y2, y3, y4⟩ := HGW4.out.lts;have hk1b : kb + 1 < W4.1.size := (ak h4p).1;have p0 : W4.cell? ⟨kb + 1, 0, none⟩ = some (.pointer (some ⟨w.1.size, 1, none⟩)) := by rw [ax W4 _ 0 _ _ _ h4p]; rfl
 have p1 : W4.cell? ⟨kb + 1, 1, none⟩ = some (.pointer (some ⟨w.1.size, 2, none⟩)) := by rw [ax W4 _ 1 _ _ _ h4p]; rfl
 have hv0 : VAt l (some (l.drop (a + 1))) (a + 1) 0 := Or.inr ⟨rfl, rfl⟩;refine wp_loop_rounds 2 ?_;rw [rounds_succ];go_wp2_with fail;refine (kw rb (a + 1) 0 l sv (some (l.drop (a + 1))) W4 HGW4.out.vr hv0).mono ?_;rintro r w5 ⟨N0, a0, e0, rfl, hN0, hvw5, hv1, hgw5⟩;have hN0l : N0 < 18446744073709551616 := by rw [hN0]; exact fV _
 have HN0 := hid hN0;have h4pw5 : w5.1[kb + 1]? = some (.cells #[.pointer (some ⟨w.1.size, 1, none⟩), .pointer (some ⟨w.1.size, 2, none⟩)] 154 (0, 0)) := (hgw5.keep _ (ak h4p).1 (by omega)).trans h4p;have HGx := hid (HGW4.out.rg hvw5 hgw5);have HVn := hid hv1;have hszx := hgw5.size;clear x1 x2 x3 x4 x5 y1 y2 y3 y4 hvw5 hgw5 hv1 hN0 p0 p1 hk1b h4p;obtain ⟨x1, x2, x3, x4, x5⟩ := HGx.out.cells;obtain ⟨y1, y2, y3, y4⟩ := HGx.out.lts;have h4p := h4pw5;have hk1b : kb + 1 < w5.1.size := (ak h4p).1;have p0 : w5.cell? ⟨kb + 1, 0, none⟩ = some (.pointer (some ⟨w.1.size, 1, none⟩)) := by rw [ax w5 _ 0 _ _ _ h4p]; rfl
 have p1 : w5.cell? ⟨kb + 1, 1, none⟩ = some (.pointer (some ⟨w.1.size, 2, none⟩)) := by rw [ax w5 _ 1 _ _ _ h4p]; rfl
 have x21 := x2 1;have x22 := x2 2;clear h4pw5 x2;go_wp2_with fail;obtain ⟨W6, hW6⟩ : ∃ W6, W6 = w5.setCell ⟨w.1.size, 1, none⟩ (.int .u64 (N0 : Nat)) := ⟨_, rfl⟩;rw [← hW6];have HGW6 : Hid (Tg w W6 tb rb kb a0 e0 l sv ((n : Int) - 1) #[.int .i64 (k : Nat), .int .u64 (N0 : Nat), .int .u64 0, .slice none 0 0] #[.int .i64 1, .int .i64 0, .int .i64 0, .func fn #[] caps]) := hid (by rw [hW6]; exact HGx.out.put 1 _ (by simp));have h4q : W6.1[kb + 1]? = some (.cells #[.pointer (some ⟨w.1.size, 1, none⟩), .pointer (some ⟨w.1.size, 2, none⟩)] 154 (0, 0)) := by rw [hW6]; exact (ay _ _ _ _ (by simp; omega)).trans h4p
 clear hW6 x1 x3 x4 x5 x21 x22 y1 y2 y3 y4 HGx p0 p1 hk1b h4p hszx;have h4p := h4q;clear h4q;obtain ⟨x1, x2, x3, x4, x5⟩ := HGW6.out.cells;obtain ⟨y1, y2, y3, y4⟩ := HGW6.out.lts;have hk1b : kb + 1 < W6.1.size := (ak h4p).1;have p0 : W6.cell? ⟨kb + 1, 0, none⟩ = some (.pointer (some ⟨w.1.size, 1, none⟩)) := by rw [ax W6 _ 0 _ _ _ h4p]; rfl
 have p1 : W6.cell? ⟨kb + 1, 1, none⟩ = some (.pointer (some ⟨w.1.size, 2, none⟩)) := by rw [ax W6 _ 1 _ _ _ h4p]; rfl
 rw [rounds_succ];go_wp2_with fail;refine wp_loop_rounds 1 ?_;rw [rounds_succ];go_wp2_with fail;obtain ⟨o, ho⟩ : ∃ o, o = (dV (some (l.drop (a + 1))) : Option (List UInt8)) := ⟨_, rfl⟩;have HVo : Hid (VAt l o a0 e0) := hid (by rw [ho]; exact HVn.out);have HFIN : Hid (tkE (d + 1) (l.drop a) = (o.bind (bi (tkE d) 0)).map fun x => (.mk (k : Nat) (N0 : Nat) 0 x.1, x.2)) := by
  refine hid ?_;rw [jd ha (by rw [← HK.out]; omega) (by rw [← HK.out]; omega), ← HK.out, ho];unfold bK iU;rw [if_pos (by omega), HN0.out]
 have HE := hid (TSt.ends (TSt.start (d := d) (m := 0) HVo.out hn1) (Nat.le_refl 0) (Or.inl rfl) k (N0 : Nat) 0);have x20 := x2 0;have x21 := x2 1;have x22 := x2 2;have x23 := x2 3;have HVD := hid (show Vr W6.drew rb a0 e0 l sv from HGW6.out.vr.below br.drew);clear ho x2;by_cases he0 : e0 = 0
 ·have t2 : (e0 == 0) = true := by simpa using he0
  have HE0 := hid he0;clear he0
  go_region_with (first | (go_at_call 71; go_fit (dn rb a0 e0 l sv _ HVD.out); rintro r wx ⟨rfl, rfl⟩))
  all_goals
   go_wp2_with fail;refine aC (v := .tuple #[.agg #[.int .i64 (k : Nat), .int .u64 (N0 : Nat), .int .u64 0, .slice none 0 0], .bool true]) (aN rfl _ _ w.1.size 70 _ _ _ _ rfl (gG HGW6.out).2.2.2.1 Tryz.underlying70 rfl (by kernel_rfl) rfl) rfl ?_;exact eP (t := .mk (k : Nat) (N0 : Nat) 0 []) HGW6.out (bN (by omega) (by omega) (by omega) (by omega)) (fun _ => by rw [HFIN.out]; rcases HE.out with h | h; exact ⟨HE0.out, h.2.2.1, h.2.2.2.1, h.2.2.2.2⟩; rcases h.1 with h | h; cases h; exact absurd HE0.out h) (fun h => by cases h)
 ·have t2 : (e0 == 0) = false := by simpa using he0
  have HE0 := hid he0;clear he0
  go_region_with (first | (go_at_call 71; go_fit (dn rb a0 e0 l sv _ HVD.out); rintro r wx ⟨rfl, rfl⟩))
  all_goals
   go_wp2_with fail;refine aC (v := .tuple #[.agg #[.int .i64 (k : Nat), .int .u64 (N0 : Nat), .int .u64 0, .slice none 0 0], .bool false]) (aN rfl _ _ w.1.size 70 _ _ _ _ rfl (gG HGW6.out).2.2.2.1 Tryz.underlying70 rfl (by kernel_rfl) rfl) rfl ?_;exact eP (t := .mk (k : Nat) (N0 : Nat) 0 []) HGW6.out (bN (by omega) (by omega) (by omega) (by omega)) (fun h => by cases h) (fun _ => by rw [HFIN.out]; rcases HE.out with h | h; exact absurd h.2.1 HE0.out; exact h.2)
theorem Hr (d : Nat) (hd : d ≤ 100) (IH : Hid (∀ (tb rb a n : Nat) (l : List UInt8) (sv : Value) (w : World), rb < tb → n ≤ 32 → Vr w rb a 0 l sv → Tk w tb rb n → Calls Tryz.prog 249 #[.pointer (some ⟨tb, 0, none⟩), .int .i64 d] w (eB tb rb l sv n (tkE d (l.drop a)) w))) (tb rb a n : Nat) (l : List UInt8) (sv : Value) (w : World) (hrt : rb < tb) (hn : n ≤ 32) (hv : Vr w rb a 0 l sv) (ht : Tk w tb rb n) (hn1 : 1 ≤ n) (ha : a < l.length) (hk1 : 4 ≤ at8 l a) (hk2 : at8 l a ≤ 4) :
  Calls Tryz.prog 249 #[.pointer (some ⟨tb, 0, none⟩), .int .i64 ((d : Int) + 1)] w (eB tb rb l sv n (tkE (d + 1) (l.drop a)) w) := by
 obtain ⟨i0, hi0, hz0, hz01, hz02⟩ := info_parts kN;obtain ⟨k, hk⟩ : ∃ k, k = at8 l a := ⟨_, rfl⟩;rw [← hk] at hk1 hk2;have hlt := ht.lt;have hba : Below w.1.size w (w.alloc (.cells #[.int .i64 0, .int .u64 0, .int .u64 0, .slice none 0 0] 70)) := br.alloc nl _;have HV := hid (hv.below hba);have HT := hid (ht.keep (hba.block _ hlt));obtain ⟨c0, c1, f⟩ := (ht.keep (hba.block _ hlt)).cells;have HB := hid hba;have HK := hid hk;have t0 : (((d : Int) + 1) == 0) = false := by simp; omega
 clear hv ht hba f hk
 go_enter Tryz.func249, Tryz.ntmps249
 go_wp2_with fail;refine (fO rb a 1 l sv _ HV.out (by omega)).mono ?_;rintro r w1 ⟨v, pp, a', e', rfl, hv1, hg1, hown1, hyes, _⟩;obtain ⟨rfl, hpp, rfl⟩ := hyes (by omega);obtain ⟨bb, bo, bcap, rfl, g, hbb⟩ : ∃ bb bo cap, v = .slice (some ⟨bb, bo, none⟩) 1 cap ∧ w1.cell? ⟨bb, bo, none⟩ = some (.int .u8 (k : Nat)) ∧ w.1.size + 1 ≤ bb := by
  have hp1 : pp = [l[a]] := by rw [hpp, List.drop_eq_getElem_cons ha]; rfl
  subst hp1;have hrb := aO.of_owns hown1;obtain ⟨_, ad, cap, rfl, _⟩ := hrb.shape;obtain ⟨bl, off, rfl, ⟨_, h4⟩, h3⟩ := aO.at8 (j := 0) hrb (by simp);refine ⟨bl, off, cap, rfl, ?_, by simpa using h4⟩;rw [show off = off + 0 from rfl, h3, HK.out, dB l a ha]; rfl
 have hlta : tb < (w.alloc (.cells #[.int .i64 0, .int .u64 0, .int .u64 0, .slice none 0 0] 70)).1.size := by simp; omega
 have hz1 := hg1.size;simp only [aD] at hz1;have ht1 := HT.out.keep (hg1.keep tb hlta (by omega));have hbx1 : w1.1[w.1.size]? = some (.cells #[.int .i64 0, .int .u64 0, .int .u64 0, .slice none 0 0] 70 (0, 0)) := (hg1.keep _ (by simp) (by have := HV.out.lt; omega)).trans (aK _ _ _ rfl);have hr1 : Rk (fun b => b = rb ∨ b = tb) w w1 := (Rk.of_below HB.out).trans' ⟨hg1.os, hg1.tape, hg1.output, hg1.size, fun b hb hn => hg1.keep b hb hn⟩ (fun i _ h => Or.inl h);clear c0 c1;obtain ⟨c0, c1, f⟩ := ht1.cells;have f1 := f 1;have hl1 : tb < w1.1.size := ht1.lt;have hbl := aG w1 _ g;have hnb : ¬ bb = tb := by omega
 have hnb' : ¬ tb = bb := by omega
 have H1 := hid (au ht1 (au hv1 (au hbx1 (au hr1 hbl))));clear ht1 hv1 hbx1 hr1 hg1 f hown1 hyes hpp;have t1 : decide ((n : Int) - 1 < 0) = false := by simp; omega
 go_wp2_with fail;have hv2 : Vr (w1.setCell ⟨tb, 1, none⟩ (.int .i64 ((n : Int) - 1))) rb (a + 1) 0 l sv := H1.out.2.1.keep (fun b hb => ay _ _ _ _ (by simp; omega));have ht2 : Tk (w1.setCell ⟨tb, 1, none⟩ (.int .i64 ((n : Int) - 1))) tb rb ((n : Int) - 1) := aM H1.out.1 (by simp);have hbx2 : (w1.setCell ⟨tb, 1, none⟩ (.int .i64 ((n : Int) - 1))).1[w.1.size]? = some (.cells #[.int .i64 0, .int .u64 0, .int .u64 0, .slice none 0 0] 70 (0, 0)) := (ay _ _ _ _ (by simp; omega)).trans H1.out.2.2.1;have hr2 : Rk (fun b => b = rb ∨ b = tb) w (w1.setCell ⟨tb, 1, none⟩ (.int .i64 ((n : Int) - 1))) := H1.out.2.2.2.1.setCell tb (Or.inr (Or.inr rfl)) _ _;have g2 : (w1.setCell ⟨tb, 1, none⟩ (.int .i64 ((n : Int) - 1))).cell? ⟨bb, bo, none⟩ = some (.int .u8 (k : Nat)) := by rw [aF _ _ _ _ (fun e => hnb' (congrArg Addr.block e))]; exact g
 have hz2 : (w1.setCell ⟨tb, 1, none⟩ (.int .i64 ((n : Int) - 1))).1.size = w1.1.size := by simp
 generalize w1.setCell ⟨tb, 1, none⟩ (.int .i64 ((n : Int) - 1)) = W2 at hv2 ht2 hbx2 hr2 g2 hz2 ⊢;refine (fF (k : Nat) _ (by omega) (by omega)).mono ?_;rintro e2 w3 ⟨hin, hout, hb3⟩;obtain ⟨blk, hblk, hheap, rfl⟩ := hin (by omega);clear hin hout hheap;obtain ⟨fn, caps, hfn⟩ := dY (k : Int) blk;rw [hfn, show dA (k : Int) = 2 from by
  have h67 : (k : Int) = 4 := by omega
  rw [h67]; rfl, show df (k : Int) = 0 from by
  have h67 : (k : Int) = 4 := by omega
  rw [h67]; rfl, show dN (k : Int) = 0 from by
  have h67 : (k : Int) = 4 := by omega
  rw [h67]; rfl]
 have hz3 := hb3.size;have hbl3 : bb < w3.1.size := by omega
 have hpl3 : w.1.size < w3.1.size := by omega
 have H3 := hid (au (hv2.below hb3) (au (ht2.keep (hb3.block _ ht2.lt)) (au ((hb3.block w.1.size (by omega)).trans hbx2) (hr2.trans (Rk.of_below hb3)))));have c3 : ∀ o, w3.cell? ⟨w.1.size, o, none⟩ = (#[.int .i64 0, .int .u64 0, .int .u64 0, .slice none 0 0] : Array Value)[o]? := fun o => ax w3 _ o _ _ _ ((hb3.block _ (by omega)).trans hbx2)
 have f3 : w3.frozen? ⟨w.1.size, 0, none⟩ = false := by rw [aA w3 _ 0 _ _ ((hb3.block _ (by omega)).trans hbx2)]
 have g3 : w3.cell? ⟨bb, bo, none⟩ = some (.int .u8 (k : Nat)) := (hb3.cell (by show bb < _; omega)).trans g2;have hnp : ¬ bb = w.1.size := by omega
 have hnp' : ¬ w.1.size = bb := by omega
 clear hv2 ht2 hbx2 hr2 g g2 hb3 c0 c1 f1 hfn hblk;go_wp2_with fail;obtain ⟨W4, hW4⟩ : ∃ W4, W4 = ((w3.setCell ⟨w.1.size, 0, none⟩ (.int .i64 (k : Nat))).alloc (.cells #[.int .i64 2, .int .i64 0, .int .i64 0, .func fn #[] caps] 279)).alloc (.cells #[.pointer (some ⟨w.1.size, 1, none⟩), .pointer (some ⟨w.1.size, 2, none⟩)] 154) := ⟨_, rfl⟩;have hg4 : Tg w W4 tb rb w3.1.size (a + 1) 0 l sv ((n : Int) - 1) #[.int .i64 (k : Nat), .int .u64 0, .int .u64 0, .slice none 0 0] #[.int .i64 2, .int .i64 0, .int .i64 0, .func fn #[] caps] := by
  have hs : ∀ b, b < w3.1.size → b ≠ w.1.size → W4.1[b]? = w3.1[b]? := fun b hb hne => by
   rw [hW4, aL _ _ _ (by simp; omega), aL _ _ _ (by simp; omega), ay _ _ _ _ (by simpa using hne)]
  refine ⟨H3.out.1.keep (fun b hb => hs b (by have := H3.out.1.lt; omega) (by omega)), H3.out.2.1.keep (hs _ H3.out.2.1.lt (by omega)), ?_, ?_, ?_, hrt, hlt, hpl3⟩
  ·rw [hW4, aL _ _ _ (by simp; omega), aL _ _ _ (by simp; omega)]; exact aM H3.out.2.2.1 (by simp)
  ·rw [hW4, aL _ _ _ (by simp)]; exact aK _ _ _ (by simp)
  ·rw [hW4]; exact ((H3.out.2.2.2.setCell w.1.size (Or.inl nl) 0 _).trans (Rk.of_below (br.alloc nl _))).trans (Rk.of_below (br.alloc nl _))
 have h4p : W4.1[w3.1.size + 1]? = some (.cells #[.pointer (some ⟨w.1.size, 1, none⟩), .pointer (some ⟨w.1.size, 2, none⟩)] 154 (0, 0)) := by rw [hW4]; exact aK _ _ _ (by simp)
 rw [← hW4];generalize hkb : w3.1.size = kb at hg4 h4p hpl3 ⊢;have HGW4 := hid hg4;clear hW4 c3 f3 g3 hg4 H3 hbl3;obtain ⟨x1, x2, x3, x4, x5⟩ := HGW4.out.cells;obtain ⟨y1, y2, y3, y4⟩ := HGW4.out.lts;have hk1b : kb + 1 < W4.1.size := (ak h4p).1;have p0 : W4.cell? ⟨kb + 1, 0, none⟩ = some (.pointer (some ⟨w.1.size, 1, none⟩)) := by rw [ax W4 _ 0 _ _ _ h4p]; rfl
 have p1 : W4.cell? ⟨kb + 1, 1, none⟩ = some (.pointer (some ⟨w.1.size, 2, none⟩)) := by rw [ax W4 _ 1 _ _ _ h4p]; rfl
 have hv0 : VAt l (some (l.drop (a + 1))) (a + 1) 0 := Or.inr ⟨rfl, rfl⟩;refine wp_loop_rounds 3 ?_;rw [rounds_succ];go_wp2_with fail;refine (kw rb (a + 1) 0 l sv (some (l.drop (a + 1))) W4 HGW4.out.vr hv0).mono ?_;rintro r w5 ⟨N0, a0, e0, rfl, hN0, hvw5, hv1, hgw5⟩;have hN0l : N0 < 18446744073709551616 := by rw [hN0]; exact fV _
 have HN0 := hid hN0;have h4pw5 : w5.1[kb + 1]? = some (.cells #[.pointer (some ⟨w.1.size, 1, none⟩), .pointer (some ⟨w.1.size, 2, none⟩)] 154 (0, 0)) := (hgw5.keep _ (ak h4p).1 (by omega)).trans h4p;have HGx := hid (HGW4.out.rg hvw5 hgw5);have HVn := hid hv1;have hszx := hgw5.size;clear x1 x2 x3 x4 x5 y1 y2 y3 y4 hvw5 hgw5 hv1 hN0 p0 p1 hk1b h4p;obtain ⟨x1, x2, x3, x4, x5⟩ := HGx.out.cells;obtain ⟨y1, y2, y3, y4⟩ := HGx.out.lts;have h4p := h4pw5;have hk1b : kb + 1 < w5.1.size := (ak h4p).1;have p0 : w5.cell? ⟨kb + 1, 0, none⟩ = some (.pointer (some ⟨w.1.size, 1, none⟩)) := by rw [ax w5 _ 0 _ _ _ h4p]; rfl
 have p1 : w5.cell? ⟨kb + 1, 1, none⟩ = some (.pointer (some ⟨w.1.size, 2, none⟩)) := by rw [ax w5 _ 1 _ _ _ h4p]; rfl
 have x21 := x2 1;have x22 := x2 2;clear h4pw5 x2;go_wp2_with fail;obtain ⟨W6, hW6⟩ : ∃ W6, W6 = w5.setCell ⟨w.1.size, 1, none⟩ (.int .u64 (N0 : Nat)) := ⟨_, rfl⟩;rw [← hW6];have HGW6 : Hid (Tg w W6 tb rb kb a0 e0 l sv ((n : Int) - 1) #[.int .i64 (k : Nat), .int .u64 (N0 : Nat), .int .u64 0, .slice none 0 0] #[.int .i64 2, .int .i64 0, .int .i64 0, .func fn #[] caps]) := hid (by rw [hW6]; exact HGx.out.put 1 _ (by simp));have h4q : W6.1[kb + 1]? = some (.cells #[.pointer (some ⟨w.1.size, 1, none⟩), .pointer (some ⟨w.1.size, 2, none⟩)] 154 (0, 0)) := by rw [hW6]; exact (ay _ _ _ _ (by simp; omega)).trans h4p
 clear hW6 x1 x3 x4 x5 x21 x22 y1 y2 y3 y4 HGx p0 p1 hk1b h4p hszx;have h4p := h4q;clear h4q;obtain ⟨x1, x2, x3, x4, x5⟩ := HGW6.out.cells;obtain ⟨y1, y2, y3, y4⟩ := HGW6.out.lts;have hk1b : kb + 1 < W6.1.size := (ak h4p).1;have p0 : W6.cell? ⟨kb + 1, 0, none⟩ = some (.pointer (some ⟨w.1.size, 1, none⟩)) := by rw [ax W6 _ 0 _ _ _ h4p]; rfl
 have p1 : W6.cell? ⟨kb + 1, 1, none⟩ = some (.pointer (some ⟨w.1.size, 2, none⟩)) := by rw [ax W6 _ 1 _ _ _ h4p]; rfl
 rw [rounds_succ];go_wp2_with fail;have hv1 := HVn.out;clear HVn;refine (kw rb a0 e0 l sv (dV (some (l.drop (a + 1)))) W6 HGW6.out.vr hv1).mono ?_;rintro r w7 ⟨N1, a1, e1, rfl, hN1, hvw7, hv2, hgw7⟩;have hN1l : N1 < 18446744073709551616 := by rw [hN1]; exact fV _
 have HN1 := hid hN1;have h4pw7 : w7.1[kb + 1]? = some (.cells #[.pointer (some ⟨w.1.size, 1, none⟩), .pointer (some ⟨w.1.size, 2, none⟩)] 154 (0, 0)) := (hgw7.keep _ (ak h4p).1 (by omega)).trans h4p;have HGx := hid (HGW6.out.rg hvw7 hgw7);have HVn := hid hv2;have hszx := hgw7.size;clear x1 x2 x3 x4 x5 y1 y2 y3 y4 hvw7 hgw7 hv2 hN1 p0 p1 hk1b h4p;obtain ⟨x1, x2, x3, x4, x5⟩ := HGx.out.cells;obtain ⟨y1, y2, y3, y4⟩ := HGx.out.lts;have h4p := h4pw7;have hk1b : kb + 1 < w7.1.size := (ak h4p).1;have p0 : w7.cell? ⟨kb + 1, 0, none⟩ = some (.pointer (some ⟨w.1.size, 1, none⟩)) := by rw [ax w7 _ 0 _ _ _ h4p]; rfl
 have p1 : w7.cell? ⟨kb + 1, 1, none⟩ = some (.pointer (some ⟨w.1.size, 2, none⟩)) := by rw [ax w7 _ 1 _ _ _ h4p]; rfl
 have x21 := x2 1;have x22 := x2 2;clear h4pw7 x2;go_wp2_with fail;obtain ⟨W8, hW8⟩ : ∃ W8, W8 = w7.setCell ⟨w.1.size, 2, none⟩ (.int .u64 (N1 : Nat)) := ⟨_, rfl⟩;rw [← hW8];have HGW8 : Hid (Tg w W8 tb rb kb a1 e1 l sv ((n : Int) - 1) #[.int .i64 (k : Nat), .int .u64 (N0 : Nat), .int .u64 (N1 : Nat), .slice none 0 0] #[.int .i64 2, .int .i64 0, .int .i64 0, .func fn #[] caps]) := hid (by rw [hW8]; exact HGx.out.put 2 _ (by simp));have h4q : W8.1[kb + 1]? = some (.cells #[.pointer (some ⟨w.1.size, 1, none⟩), .pointer (some ⟨w.1.size, 2, none⟩)] 154 (0, 0)) := by rw [hW8]; exact (ay _ _ _ _ (by simp; omega)).trans h4p
 clear hW8 x1 x3 x4 x5 x21 x22 y1 y2 y3 y4 HGx p0 p1 hk1b h4p hszx;have h4p := h4q;clear h4q;obtain ⟨x1, x2, x3, x4, x5⟩ := HGW8.out.cells;obtain ⟨y1, y2, y3, y4⟩ := HGW8.out.lts;have hk1b : kb + 1 < W8.1.size := (ak h4p).1;have p0 : W8.cell? ⟨kb + 1, 0, none⟩ = some (.pointer (some ⟨w.1.size, 1, none⟩)) := by rw [ax W8 _ 0 _ _ _ h4p]; rfl
 have p1 : W8.cell? ⟨kb + 1, 1, none⟩ = some (.pointer (some ⟨w.1.size, 2, none⟩)) := by rw [ax W8 _ 1 _ _ _ h4p]; rfl
 rw [rounds_succ];go_wp2_with fail;refine wp_loop_rounds 1 ?_;rw [rounds_succ];go_wp2_with fail;obtain ⟨o, ho⟩ : ∃ o, o = (dV (dV (some (l.drop (a + 1)))) : Option (List UInt8)) := ⟨_, rfl⟩;have HVo : Hid (VAt l o a1 e1) := hid (by rw [ho]; exact HVn.out);have HFIN : Hid (tkE (d + 1) (l.drop a) = (o.bind (bi (tkE d) 0)).map fun x => (.mk (k : Nat) (N0 : Nat) (N1 : Nat) x.1, x.2)) := by
  refine hid ?_;rw [jd ha (by rw [← HK.out]; omega) (by rw [← HK.out]; omega), ← HK.out, ho];unfold bK iU;rw [if_neg (by omega), if_pos (by omega), HN0.out, HN1.out]
 have HE := hid (TSt.ends (TSt.start (d := d) (m := 0) HVo.out hn1) (Nat.le_refl 0) (Or.inl rfl) k (N0 : Nat) (N1 : Nat));have x20 := x2 0;have x21 := x2 1;have x22 := x2 2;have x23 := x2 3;have HVD := hid (show Vr W8.drew rb a1 e1 l sv from HGW8.out.vr.below br.drew);clear ho x2;by_cases he0 : e1 = 0
 ·have t2 : (e1 == 0) = true := by simpa using he0
  have HE0 := hid he0;clear he0
  go_region_with (first | (go_at_call 71; go_fit (dn rb a1 e1 l sv _ HVD.out); rintro r wx ⟨rfl, rfl⟩))
  all_goals
   go_wp2_with fail;refine aC (v := .tuple #[.agg #[.int .i64 (k : Nat), .int .u64 (N0 : Nat), .int .u64 (N1 : Nat), .slice none 0 0], .bool true]) (aN rfl _ _ w.1.size 70 _ _ _ _ rfl (gG HGW8.out).2.2.2.1 Tryz.underlying70 rfl (by kernel_rfl) rfl) rfl ?_;exact eP (t := .mk (k : Nat) (N0 : Nat) (N1 : Nat) []) HGW8.out (bN (by omega) (by omega) (by omega) (by omega)) (fun _ => by rw [HFIN.out]; rcases HE.out with h | h; exact ⟨HE0.out, h.2.2.1, h.2.2.2.1, h.2.2.2.2⟩; rcases h.1 with h | h; cases h; exact absurd HE0.out h) (fun h => by cases h)
 ·have t2 : (e1 == 0) = false := by simpa using he0
  have HE0 := hid he0;clear he0
  go_region_with (first | (go_at_call 71; go_fit (dn rb a1 e1 l sv _ HVD.out); rintro r wx ⟨rfl, rfl⟩))
  all_goals
   go_wp2_with fail;refine aC (v := .tuple #[.agg #[.int .i64 (k : Nat), .int .u64 (N0 : Nat), .int .u64 (N1 : Nat), .slice none 0 0], .bool false]) (aN rfl _ _ w.1.size 70 _ _ _ _ rfl (gG HGW8.out).2.2.2.1 Tryz.underlying70 rfl (by kernel_rfl) rfl) rfl ?_;exact eP (t := .mk (k : Nat) (N0 : Nat) (N1 : Nat) []) HGW8.out (bN (by omega) (by omega) (by omega) (by omega)) (fun h => by cases h) (fun _ => by rw [HFIN.out]; rcases HE.out with h | h; exact absurd h.2.1 HE0.out; exact h.2)
end Go.Proofs.YtlpgokcapdjgjaaGreatDoor
