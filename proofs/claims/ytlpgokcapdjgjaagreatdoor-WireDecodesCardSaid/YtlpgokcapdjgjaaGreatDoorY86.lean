/- Walks. -/
import Derived.Test.YtlpgokcapdjgjaaGreatDoorY85
import Derived.Test.YtlpgokcapdjgjaaGreatDoorY80
set_option maxHeartbeats 8000000
set_option maxRecDepth 100000
namespace Go.Proofs.YtlpgokcapdjgjaaGreatDoor
open Go.RowKit Go
set_option linter.unusedVariables false
set_option linter.unusedSimpArgs false
theorem BR {w : World} {A : Nat → Prop} : ∀ {lo hi : Nat} {ps : List Plc} {ys : List Value}, fT plI w A lo hi ps ys → ∃ zs, bu w A lo hi (ps.map Plc.q) zs ∧ ∀ j k, j < ps.length → k < 11 → zs[j * 11 + k]? = ys[j * 13 + k]?
 | lo, hi, [], ys, h => ⟨[], ⟨rfl, h.2⟩, fun j k hj _ => absurd hj (by simp)⟩
 | lo, hi, p :: ps, ys, h => by
  obtain ⟨cs, mid, rest, rfl, hm, ⟨c, rfl, hr⟩, h2⟩ := h;obtain ⟨zs, h3, h4⟩ := BR h2;have hc : c.length = 11 := by have := (iJ hr).1; simpa using this
  refine ⟨c ++ zs, ⟨c.toArray, mid, zs, by simp, by simpa using hc, hm, hr, h3⟩, fun j k hj hk => ?_⟩;cases j with
  | zero =>
   simp only [Nat.zero_mul, Nat.zero_add];rw [List.getElem?_append_left (by omega), List.append_assoc, List.getElem?_append_left (by omega)]
  | succ j =>
   have h5 := h4 j k (by simpa using hj) hk;rw [show (j + 1) * 11 + k = c.length + (j * 11 + k) by omega, List.getElem?_append_right (by omega), show c.length + (j * 11 + k) - c.length = j * 11 + k by omega, h5,
    show (j + 1) * 13 + k = (c ++ [Value.int .i64 (p.fr : Nat), .int .i64 (p.tp : Nat)]).length + (j * 13 + k) by simp; omega, List.getElem?_append_right (by omega)]
   congr 1
   omega
theorem vV {zs cs : List Value} {j : Nat} (hz : ∀ k, k < 11 → zs[j * 11 + k]? = cs[k]?) (hl : cs.length = 11) : zs.take (j * 11) ++ cs = zs.take ((j + 1) * 11) := by
 rw [show (j + 1) * 11 = j * 11 + 11 by omega, List.take_add]
 congr 1
 apply List.ext_getElem?;intro k;by_cases hk : k < 11
 ·rw [List.getElem?_take, if_pos hk, List.getElem?_drop, hz k hk]
 ·rw [List.getElem?_eq_none (by omega), List.getElem?_take, if_neg hk]
theorem aS.recs {w : World} {base : Nat} {T : TypeId} {sv : Value} {ps : List Plc} (h : aS plI w base T sv ps) :
  ∃ ad cap zs hi, sv = .slice ad ps.length cap ∧ hi ≤ w.1.size ∧ bu w (fun b => sv.ownBlock ≠ some b) base hi (ps.map Plc.q) zs ∧ zs.length = ps.length * 11 ∧
   ∀ j, j < ps.length → ∃ bl off, ad = some ⟨bl, off, none⟩ ∧ bl < w.1.size ∧ w.cell? ⟨bl, off + j * 13 + 11, none⟩ = some (.int .i64 ((ps[j]?.getD ⟨.zero, 0, 0⟩).fr : Nat)) ∧ w.cell? ⟨bl, off + j * 13 + 12, none⟩ = some (.int .i64 ((ps[j]?.getD ⟨.zero, 0, 0⟩).tp : Nat)) ∧ (∀ k, k < 11 → w.cell? ⟨bl, off + j * 13 + k, none⟩ = zs[j * 11 + k]?) ∧ sv.ownBlock = some bl ∧ base ≤ bl ∧ w.frozen? ⟨bl, off + j * 13 + 11, none⟩ = false := by
 obtain ⟨ys, hi, hhi, hown, hrg⟩ := h;obtain ⟨ad, cap, rfl⟩ := aQ hown;obtain ⟨zs, hz1, hz2⟩ := BR hrg;refine ⟨ad, cap, zs, hi, rfl, hhi, hz1, by have := hz1.length; simpa using this, fun j hj => ?_⟩;have hys := hrg.length;have hle : (j + 1) * 13 ≤ ps.length * 13 := Nat.mul_le_mul_right _ hj;obtain ⟨bl, off, ha, hS, hc⟩ := Sl.cells (Sl.of_owns hown (by decide)) (by omega);have hk13 : plI.k = 13 := rfl;rw [hk13] at hys;obtain ⟨cs, m, m', e1, _, _, _, ⟨c, ec, hr⟩, _⟩ := hrg.at j hj;have hcl : c.length = 11 := by have := (iJ hr).1; simpa using this
 have hcell : ∀ k, k < 13 → w.cell? ⟨bl, off + j * 13 + k, none⟩ = cs[k]? := fun k hk => by
  rw [Nat.add_assoc, (hc (j * 13 + k) (by omega)).1, ← e1, hk13, List.getElem?_take, if_pos hk, List.getElem?_drop, af]
 have hpj : ps[j]?.getD ⟨.zero, 0, 0⟩ = ps[j] := by rw [af hj]; rfl
 refine ⟨bl, off, ha, (hown.lt bl hS.1).2, ?_, ?_, fun k hk => ?_, hS.1, hS.2, by rw [Nat.add_assoc]; exact (hc (j * 13 + 11) (by omega)).2 rfl⟩
 ·rw [hcell 11 (by omega), ec, hpj, List.getElem?_append_right (by omega), hcl]; rfl
 ·rw [hcell 12 (by omega), ec, hpj, List.getElem?_append_right (by omega), hcl]; rfl
 ·rw [hz2 j k hj hk, hcell k (by omega), ← e1, hk13, List.getElem?_take, if_pos (by omega), List.getElem?_drop]
theorem bE.of_parts {w wr : World} {base hi : Nat} {T : TypeId} {A : Nat → Prop} {sv : Value} {qs : List Rec} {zs : List Value} (hhi : hi ≤ w.1.size) (hb : base ≤ w.1.size) (hrs : bu w A base hi qs zs) (hown : wr.ownsRow w.1.size T 11 sv qs.length zs) (hbel : Below w.1.size w wr) : bE wr base T sv qs := by
 have hs := hbel.size;refine ⟨zs, hi, by omega, ko hown hb, bu.keep (L := 0) (H := hi) (fun b _ _ hbh hl => hbel.block b hl) (fun b hl _ _ hbh e => ?_) (Nat.zero_le _) nl hrs⟩;have := (hown.lt b e).1;omega
theorem tY (sv : Value) (ps : List Plc) (base : Nat) (w0 w : World) (hm0 : aS plI w0 base 100 sv ps) (hb0 : Below w0.1.size w0 w) (hn : ps.length ≤ 100000) :
  Calls Tryz.prog 16 #[sv] w fun e w' => ∃ (rv : Value) (A : Nat → Prop) (hi : Nat) (zs : List Value), e = .returned rv ∧ hi ≤ w0.1.size ∧ bu w A base hi (ps.map Plc.q) zs ∧ w'.ownsRow w.1.size 65 11 rv (ps.map Plc.q).length zs ∧ Below w.1.size w w' := by
 obtain ⟨i0, hi0, hz0, hz1, hz2⟩ := info_parts ED;obtain ⟨ad, cap, zs, hi, rfl, hhi0, hrs0, hzl, hcells0⟩ := hm0.recs;have hz0w := hb0.size;have hrs : bu w (fun b => (Value.slice ad ps.length cap).ownBlock ≠ some b) base hi (ps.map Plc.q) zs := bu.keep (L := 0) (H := hi) (fun b _ _ _ h => hb0.block b h) (fun b _ ha _ _ => ha) (Nat.zero_le _) nl hrs0;have hcells : ∀ j, j < ps.length → ∃ bl off, ad = some ⟨bl, off, none⟩ ∧ bl < w.1.size ∧ True ∧ True ∧ (∀ k, k < 11 → w.cell? ⟨bl, off + j * 13 + k, none⟩ = zs[j * 11 + k]?) ∧ True := fun j hj => by
  obtain ⟨bl, off, h1, h2, _, _, h3, _⟩ := hcells0 j hj;exact ⟨bl, off, h1, by omega, trivial, trivial, fun k hk => by rw [hb0.cell (p := ⟨bl, off + j * 13 + k, none⟩) h2, h3 k hk], trivial⟩
 have hhi := hhi0;have HM := hid (au hhi (au hrs (au hzl hcells)));clear hm0 hb0 hhi hhi0 hrs hrs0 hzl hcells hcells0
 go_enter Tryz.func16, Tryz.ntmps16
 go_wp2_with fail
 go_loopw [3, 4] (fun sv i wr => ∃ j : Nat, i = .int .i64 (j : Nat) ∧ j ≤ ps.length ∧ wr.ownsRow w.1.size 65 11 sv j (zs.take (j * 11)) ∧ Below w.1.size w wr) (fun _ i _ => ps.length - (intOf i).toNat)
 case atStart => exact ⟨0, rfl, by omega, World.ownsRow_nil _ _ _ _, br⟩
 case round =>
  obtain ⟨j, rfl, hj, hown, hbel⟩ := hrel;have hsz := hbel.size;obtain ⟨sa, sc, rfl⟩ := aQ hown;by_cases hlt : j < ps.length
  ·obtain ⟨bl, off, rfl, hbl, _, _, hcc, _⟩ := HM.out.2.2.2 j hlt
   obtain ⟨cs, mid, hcs, _, hv, _, hzz⟩ := bu.cut (j := j) (rs := ps.map Plc.q) (ys := zs) (by simpa using hlt) (bu.dropAt HM.out.2.1 (by simp; omega));obtain ⟨q, hq⟩ : ∃ q, q = (ps.map Plc.q)[j]'(by simpa using hlt) := ⟨_, rfl⟩;rw [← hq] at hv;obtain ⟨k0, k1, k2, k3, k4, k5, k6, k7, ek, _⟩ := hv.conc;obtain rfl := Value.agg.inj ek;have hcc' : ∀ k, k < 11 → wr.cell? ⟨bl, off + j * 13 + k, none⟩ = (#[.int .i64 q.k, .int .u64 (q.t : Nat), .int .u64 (q.x : Nat), .int .u64 (q.w : Nat), .int .u64 (q.n : Nat), .int .u64 (q.v : Nat), .int .i64 k0, .int .u64 (k1 : Nat), .int .u64 (k2 : Nat), .slice k3 k4 k5, .slice k6 q.es.length k7] : Array Value).toList[k]? := fun k hk => by
    rw [hbel.cell (p := ⟨bl, off + j * 13 + k, none⟩) hbl, hcc k hk, hzz k hk]
   have c0 := hcc' 0 (by omega);have c1 := hcc' 1 (by omega);have c2 := hcc' 2 (by omega);have c3 := hcc' 3 (by omega);have c4 := hcc' 4 (by omega);have c5 := hcc' 5 (by omega);have c6 := hcc' 6 (by omega);have c7 := hcc' 7 (by omega);have c8 := hcc' 8 (by omega);have c9 := hcc' 9 (by omega);have c10 := hcc' 10 (by omega);simp only [Nat.add_zero, List.getElem?_cons_zero, List.getElem?_cons_succ] at c0 c1 c2 c3 c4 c5 c6 c7 c8 c9 c10;have HT := hid (vV (j := j) hzz rfl);have hob := hown.lt;have i0' : (0 : Int) ≤ (j : Int) := (by omega);have i1' : (j : Int) < (ps.length : Int) := (by omega);have HH := hid (au hbel hlt);clear hbel hzz hcc hcc' hv ek hq hcs
   go_wp2_with (at_builtin; go_loud (refine wpList_append_lies _ rfl (.tmp 11) (.tmp 17) 23 rfl w.1.size 65 i0 _ 11 120 Tryz.underlying23 hi0 hz0 hz1 hz2 rfl (by omega) (.slice sa j sc) j (zs.take (j * 11)) rfl (hown.alloc _) ⟨wr.1.size, 0, none⟩ 1 1 [.int .i64 q.k, .int .u64 (q.t : Nat), .int .u64 (q.x : Nat), .int .u64 (q.w : Nat), .int .u64 (q.n : Nat), .int .u64 (q.v : Nat), .int .i64 k0, .int .u64 (k1 : Nat), .int .u64 (k2 : Nat), .slice k3 k4 k5, .slice k6 q.es.length k7] rfl rfl (World.news_of_block (cs := #[.int .i64 q.k, .int .u64 (q.t : Nat), .int .u64 (q.x : Nat), .int .u64 (q.w : Nat), .int .u64 (q.n : Nat), .int .u64 (q.v : Nat), .int .i64 k0, .int .u64 (k1 : Nat), .int .u64 (k2 : Nat), .slice k3 k4 k5, .slice k6 q.es.length k7]) (t := 65) (fr := (0, 0)) (aK _ _ _ rfl)) (by simp [Value.oneCell']) (by omega) (by unfold maxLen; omega) (by omega) (by rw [aD]; omega) (wr.1.size + 1) (by simp) ?_); intro gg gcap w4 hown2 hgrow hat hlt2)
   have HG := hid (au hown2 hgrow);clear hown2 hgrow hat hown;go_wp2_with fail;go_roundw
   case rel =>
    refine ⟨j + 1, by go_num, HH.out.2, ?_, ((HH.out.1.alloc hsz _).grown HG.out.2 (by rw [aD]; omega) (fun k hk => (hob k hk).1))⟩;rw [← HT.out];exact HG.out.1
   case measure => have := HH.out.2; simp [intOf]; omega
  ·obtain rfl : j = ps.length := by omega
   have HH := hid (au hown hbel);clear hown hbel;go_wp2_with fail;go_ret
   refine ⟨_, _, _, zs, rfl, HM.out.1, HM.out.2.1, ?_, HH.out.2⟩;have h := HH.out.1;rw [ah (by rw [HM.out.2.2.1]; omega)] at h;rw [List.length_map];exact h
theorem qH (S : Nat → Prop) (own : Bool) (b : List UInt8) (bv : Value) (w : World) (hb : aO w S own b bv) (hl : b.length ≤ 60000) :
  Calls Tryz.prog 14 #[bv] w fun e w' => ∃ (sv : Value) (acc : List Plc) (n : Nat) (rl : Int), e = .returned (.tuple #[sv, .int .i64 (n : Nat), .int .i64 rl]) ∧ lG b = (acc, n, rl) ∧ bE w' w.1.size 73 sv (acc.map Plc.q) ∧ Below w.1.size w w' := by
 obtain ⟨i0, hi0, hz0, hz1, hz2⟩ := info_parts zh;have HD := hid (lL S own b bv w hb hl);clear hb
 go_enter Tryz.func14, Tryz.ntmps14
 go_wp2_with fail;refine HD.out.mono ?_;rintro e w1 ⟨av, ps, n, rl, rfl, hdec, hrow, hb1⟩;have hs1 := hb1.size;have hnl : ps.length ≤ 60000 := by have h := yY b; rw [hdec] at h; simp only at h; omega
 have hmk := aS.mk' hrow hs1;obtain ⟨ad, cap, zs, hi, rfl, hhi, hrs, hzl, hcells⟩ := hmk.recs;have HM := hid (au hhi (au hrs (au hzl (au hcells (au hdec hb1)))));clear hmk hrow hhi hrs hzl hcells hdec hb1;go_wp2_with fail
 go_loopw [2, 16] (fun sv i wr => ∃ j : Nat, i = .int .i64 (j : Nat) ∧ j ≤ ps.length ∧ wr.ownsRow w1.1.size 73 11 sv j (zs.take (j * 11)) ∧ Below w1.1.size w1 wr) (fun _ i _ => ps.length - (intOf i).toNat)
 case atStart => exact ⟨0, rfl, by omega, World.ownsRow_nil _ _ _ _, br⟩
 case round =>
  obtain ⟨j, rfl, hj, hown, hbel⟩ := hrel;have hsz := hbel.size;obtain ⟨sa, sc, rfl⟩ := aQ hown;by_cases hlt : j < ps.length
  ·obtain ⟨bl, off, rfl, hbl, c11, c12, hcc, _⟩ := HM.out.2.2.2.1 j hlt
   replace c11 := (hbel.cell (p := ⟨bl, off + j * 13 + 11, none⟩) hbl).trans c11;replace c12 := (hbel.cell (p := ⟨bl, off + j * 13 + 12, none⟩) hbl).trans c12;obtain ⟨fr, hfr⟩ : ∃ fr, fr = (ps[j]?.getD ⟨.zero, 0, 0⟩).fr := ⟨_, rfl⟩;obtain ⟨tp, htp⟩ : ∃ tp, tp = (ps[j]?.getD ⟨.zero, 0, 0⟩).tp := ⟨_, rfl⟩;rw [← hfr] at c11;rw [← htp] at c12;obtain ⟨cs, mid, hcs, _, hv, _, hzz⟩ := bu.cut (j := j) (rs := ps.map Plc.q) (ys := zs) (by simpa using hlt) (bu.dropAt HM.out.2.1 (by simp; omega));obtain ⟨q, hq⟩ : ∃ q, q = (ps.map Plc.q)[j]'(by simpa using hlt) := ⟨_, rfl⟩;rw [← hq] at hv;obtain ⟨k0, k1, k2, k3, k4, k5, k6, k7, ek, _⟩ := hv.conc;obtain rfl := Value.agg.inj ek;have hcc' : ∀ k, k < 11 → wr.cell? ⟨bl, off + j * 13 + k, none⟩ = (#[.int .i64 q.k, .int .u64 (q.t : Nat), .int .u64 (q.x : Nat), .int .u64 (q.w : Nat), .int .u64 (q.n : Nat), .int .u64 (q.v : Nat), .int .i64 k0, .int .u64 (k1 : Nat), .int .u64 (k2 : Nat), .slice k3 k4 k5, .slice k6 q.es.length k7] : Array Value).toList[k]? := fun k hk => by
    rw [hbel.cell (p := ⟨bl, off + j * 13 + k, none⟩) hbl, hcc k hk, hzz k hk]
   have c0 := hcc' 0 (by omega);have c1 := hcc' 1 (by omega);have c2 := hcc' 2 (by omega);have c3 := hcc' 3 (by omega);have c4 := hcc' 4 (by omega);have c5 := hcc' 5 (by omega);have c6 := hcc' 6 (by omega);have c7 := hcc' 7 (by omega);have c8 := hcc' 8 (by omega);have c9 := hcc' 9 (by omega);have c10 := hcc' 10 (by omega);simp only [Nat.add_zero, List.getElem?_cons_zero, List.getElem?_cons_succ] at c0 c1 c2 c3 c4 c5 c6 c7 c8 c9 c10;have HT := hid (vV (j := j) hzz rfl);have hob := hown.lt;have i0' : (0 : Int) ≤ (j : Int) := (by omega);have i1' : (j : Int) < (ps.length : Int) := (by omega);have HH := hid (au hbel hlt);clear hbel hzz hcc hcc' hv ek hq hcs hfr htp
   go_wp2_with (at_builtin; go_loud (refine wpList_append_lies _ rfl (.tmp 20) (.tmp 23) 27 rfl w1.1.size 73 i0 _ 11 120 Tryz.underlying27 hi0 hz0 hz1 hz2 rfl (by omega) (.slice sa j sc) j (zs.take (j * 11)) rfl ((hown.alloc _).alloc _) ⟨wr.1.size + 1, 0, none⟩ 1 1 [.int .i64 q.k, .int .u64 (q.t : Nat), .int .u64 (q.x : Nat), .int .u64 (q.w : Nat), .int .u64 (q.n : Nat), .int .u64 (q.v : Nat), .int .i64 k0, .int .u64 (k1 : Nat), .int .u64 (k2 : Nat), .slice k3 k4 k5, .slice k6 q.es.length k7] rfl rfl (World.news_of_block (cs := #[.int .i64 q.k, .int .u64 (q.t : Nat), .int .u64 (q.x : Nat), .int .u64 (q.w : Nat), .int .u64 (q.n : Nat), .int .u64 (q.v : Nat), .int .i64 k0, .int .u64 (k1 : Nat), .int .u64 (k2 : Nat), .slice k3 k4 k5, .slice k6 q.es.length k7]) (t := 73) (fr := (0, 0)) (aK _ _ _ (by simp))) (by simp [Value.oneCell']) (by omega) (by unfold maxLen; omega) (by omega) (by rw [aD, aD]; omega) (wr.1.size + 1 + 1) (by simp) ?_); intro gg gcap w4 hown2 hgrow hat hlt2)
   have HG := hid (au hown2 hgrow);clear hown2 hgrow hat hown;go_wp2_with fail;go_roundw
   case rel =>
    refine ⟨j + 1, by go_num, HH.out.2, ?_, (((HH.out.1.alloc hsz _).alloc (by rw [aD]; omega) _).grown HG.out.2 (by rw [aD, aD]; omega) (fun k hk => (hob k hk).1))⟩;rw [← HT.out];exact HG.out.1
   case measure => have := HH.out.2; simp [intOf]; omega
  ·obtain rfl : j = ps.length := by omega
   have HH := hid (au hown hbel);clear hown hbel;go_wp2_with fail;go_ret3
   refine ⟨_, ps, n, rl, rfl, HM.out.2.2.2.2.1, bE.of_parts HM.out.1 hs1 HM.out.2.1 ?_ HH.out.2, HM.out.2.2.2.2.2.trans (HH.out.2.mono hs1)⟩;have h := HH.out.1;rw [ah (by rw [HM.out.2.2.1]; omega)] at h;rw [List.length_map];exact h
theorem zC (ps : List Plc) (lv rv : Value) (wl w0 w : World) (BL base : Nat) (hq : ∀ p ∈ ps, p.q.p.depth ≤ 900 ∧ p.q.p.size ≤ 1000 ∧ p.q.es.length ≤ 100000) (hn : ps.length ≤ 100000) (hl : aS plI wl BL 77 lv ps) (hbl : Below wl.1.size wl w) (hr : aS plI w0 base 100 rv ps) (h0 : w0.1.size ≤ BL) (hBL : BL ≤ wl.1.size) (hb : Below w0.1.size w0 w) :
  Calls Tryz.prog 15 #[lv, rv] w fun e w' => e = .returned (.bool true) ∧ Fz BL wl.1.size w w' := by
 obtain ⟨la, lc, zs, hi, rfl, hhi, hrs, hzl, hcl⟩ := hl.recs;obtain ⟨ra, rc, zs', hi', rfl, hhi', hrs', hzl', hcl'⟩ := hr.recs;have hown := hl.choose_spec.choose_spec.2.1.lt;have hown' := hr.choose_spec.choose_spec.2.1.lt;have hws := hbl.size;have hrs : bu w (fun b => (Value.slice la ps.length lc).ownBlock ≠ some b) BL hi (ps.map Plc.q) zs := bu.keep (L := 0) (H := hi) (fun b _ _ _ hl => hbl.block b hl) (fun b _ ha _ _ => ha) (Nat.zero_le _) nl hrs;have HL := hid (au hhi (au hrs (au hzl (au hcl hbl))));have HR := hid (au hhi' (au hrs' (au hzl' (au hcl' hb))));have HQ := hid (au hq (au h0 (au hown hown')));have t0 : ((ps.length : Int) != (ps.length : Int)) = false := by simp
 obtain ⟨HLs, hHL⟩ : ∃ H, H = wl.1.size := ⟨_, rfl⟩;have HHL := hid hHL;rw [← hHL] at hBL hws ⊢;clear hl hr hrs hrs' hhi hhi' hzl hzl' hcl hcl' hq h0 hb hown hown' hbl hHL
 go_enter Tryz.func15, Tryz.ntmps15
 go_wp2_with fail
 go_loopw [5] (fun i wr => ∃ (j m : Nat), i = .int .i64 (j : Nat) ∧ j ≤ ps.length ∧ BL ≤ m ∧ Fz BL HLs w wr ∧ bu wr (fun b => (Value.slice la ps.length lc).ownBlock ≠ some b) m hi ((ps.map Plc.q).drop j) (zs.drop (j * 11)) ∧ (∀ bl off, la = some ⟨bl, off, none⟩ → ∀ i, j * 13 ≤ i → wr.cell? ⟨bl, off + i, none⟩ = w.cell? ⟨bl, off + i, none⟩ ∧ wr.frozen? ⟨bl, off + i, none⟩ = w.frozen? ⟨bl, off + i, none⟩)) (fun i _ => ps.length - (intOf i).toNat)
 case atStart => exact ⟨0, BL, rfl, by omega, Nat.le_refl _, Fz.refl _ _ _, by simpa using HL.out.2.1, fun _ _ _ _ _ => ⟨rfl, rfl⟩⟩
 case round =>
  obtain ⟨j, m, rfl, hj, hm, hfz, hrest, hrow⟩ := hrel;have hsz := hfz.size;by_cases hlt : j < ps.length
  ·have hlm : j < (ps.map Plc.q).length := by simpa using hlt
   obtain ⟨cs, mid, hcs, hmid, hv1, hrest2, hc1⟩ := bu.cut hlm hrest;obtain ⟨cs', mid', hcs', hmid', hv2, _, hc2⟩ := bu.cut hlm (bu.dropAt HR.out.2.1 (by simp; omega));obtain ⟨gl, ol, rfl, hgl, hl11, hl12, hd1, hlo, hlb, hlf⟩ := HL.out.2.2.2.1 j hlt;obtain ⟨gr, og, rfl, hgr, hr11, hr12, hd2, _, _, _⟩ := HR.out.2.2.2.1 j hlt;have hw0 := HQ.out.2.1;have hHH := HHL.out;obtain ⟨q, hq⟩ : ∃ q, q = (ps.map Plc.q)[j] := ⟨_, rfl⟩;obtain ⟨fr, hfr⟩ : ∃ fr, fr = (ps[j]?.getD ⟨.zero, 0, 0⟩).fr := ⟨_, rfl⟩;obtain ⟨tp, htp⟩ : ∃ tp, tp = (ps[j]?.getD ⟨.zero, 0, 0⟩).tp := ⟨_, rfl⟩;rw [← hfr] at hl11 hr11;rw [← htp] at hl12 hr12;rw [← hq] at hv1 hv2;have hbk : ∀ b, b < w0.1.size → wr.1[b]? = w0.1[b]? := fun b hb => (hfz.keep b (by have := HR.out.2.2.2.2.size; omega) (.inl (by omega))).trans (HR.out.2.2.2.2.block b hb)
   have hv2' : bL wr (fun b => b < BL) true q (.agg cs') := hv2.keep (fun b hb hl => hbk b hl) (fun b hl hb => by omega);have hk0 := hv1.conc;have hk1 := hv2'.conc;obtain ⟨k0, k1, k2, k3, k4, k5, k6, k7, ek, _⟩ := hk0;obtain ⟨m0, m1, m2, m3, m4, m5, m6, m7, em, _⟩ := hk1;obtain rfl := (Value.agg.inj ek);obtain rfl := (Value.agg.inj em);have hwl : ∀ o, w.cell? ⟨gl, o, none⟩ = wl.cell? ⟨gl, o, none⟩ := fun o => HL.out.2.2.2.2.cell (p := ⟨gl, o, none⟩) hgl
   have hwr : ∀ k, k < 13 → wr.cell? ⟨gl, ol + j * 13 + k, none⟩ = wl.cell? ⟨gl, ol + j * 13 + k, none⟩ := fun k hk => by
    have h := (hrow gl ol rfl (j * 13 + k) (by omega)).1;rw [← Nat.add_assoc] at h;rw [h, hwl]
   have hwr0 : ∀ o, wr.cell? ⟨gr, o, none⟩ = w0.cell? ⟨gr, o, none⟩ := fun o => by
    unfold World.cell?;rw [hbk gr hgr]
   have hd1' : ∀ k, k < 11 → wr.cell? ⟨gl, ol + j * 13 + k, none⟩ = (#[.int .i64 q.k, .int .u64 (q.t : Nat), .int .u64 (q.x : Nat), .int .u64 (q.w : Nat), .int .u64 (q.n : Nat), .int .u64 (q.v : Nat), .int .i64 k0, .int .u64 (k1 : Nat), .int .u64 (k2 : Nat), .slice k3 k4 k5, .slice k6 q.es.length k7] : Array Value).toList[k]? := fun k hk => by rw [hwr k (by omega), hd1 k hk, hc1 k hk]
   have hd2' : ∀ k, k < 11 → wr.cell? ⟨gr, og + j * 13 + k, none⟩ = (#[.int .i64 q.k, .int .u64 (q.t : Nat), .int .u64 (q.x : Nat), .int .u64 (q.w : Nat), .int .u64 (q.n : Nat), .int .u64 (q.v : Nat), .int .i64 m0, .int .u64 (m1 : Nat), .int .u64 (m2 : Nat), .slice m3 m4 m5, .slice m6 q.es.length m7] : Array Value).toList[k]? := fun k hk => by rw [hwr0, hd2 k hk, hc2 k hk]
   have c11 : wr.cell? ⟨gl, ol + j * 13 + 11, none⟩ = some (.int .i64 (fr : Nat)) := (by rw [hwr 11 (by omega)]; exact hl11);have c12 : wr.cell? ⟨gl, ol + j * 13 + 12, none⟩ = some (.int .i64 (tp : Nat)) := (by rw [hwr 12 (by omega)]; exact hl12);have d11 : wr.cell? ⟨gr, og + j * 13 + 11, none⟩ = some (.int .i64 (fr : Nat)) := (by rw [hwr0]; exact hr11);have d12 : wr.cell? ⟨gr, og + j * 13 + 12, none⟩ = some (.int .i64 (tp : Nat)) := (by rw [hwr0]; exact hr12);have f11 : wr.frozen? ⟨gl, ol + j * 13 + 11, none⟩ = false := by
    have h := (hrow gl ol rfl (j * 13 + 11) (by omega)).2;rw [← Nat.add_assoc] at h;rw [h];have h2 : w.frozen? ⟨gl, ol + j * 13 + 11, none⟩ = wl.frozen? ⟨gl, ol + j * 13 + 11, none⟩ := by
     unfold World.frozen?;rw [HL.out.2.2.2.2.block gl hgl]
    rw [h2];exact hlf
   have hqm : q ∈ ps.map Plc.q := (by rw [hq]; exact List.getElem_mem _);have HD : Hid (q.p.depth ≤ 1000 ∧ q.p.size ≤ 1000 ∧ q.es.length ≤ 100000 ∧ q.p.depth ≤ 900) := hid (by
    obtain ⟨x, hx, e⟩ := List.mem_map.1 hqm;have h := HQ.out.1 x hx;rw [e] at h;exact ⟨by omega, h.2.1, h.2.2, h.1⟩)
   have HD := hid (au HD.out.1 (au HD.out.2.1 HD.out.2.2.1));have HD9 : Hid (q.p.depth ≤ 900) := hid (by
    obtain ⟨x, hx, e⟩ := List.mem_map.1 hqm;have h := HQ.out.1 x hx;rw [e] at h;exact h.1)
   have HV : Hid (bL wr (fun b => (Value.slice (some ⟨gl, ol, none⟩) ps.length lc).ownBlock ≠ some b ∧ m ≤ b ∧ b < mid) true q (.agg #[.int .i64 q.k, .int .u64 (q.t : Nat), .int .u64 (q.x : Nat), .int .u64 (q.w : Nat), .int .u64 (q.n : Nat), .int .u64 (q.v : Nat), .int .i64 k0, .int .u64 (k1 : Nat), .int .u64 (k2 : Nat), .slice k3 k4 k5, .slice k6 q.es.length k7]) ∧ bL wr (fun b => b < BL) true q (.agg #[.int .i64 q.k, .int .u64 (q.t : Nat), .int .u64 (q.x : Nat), .int .u64 (q.w : Nat), .int .u64 (q.n : Nat), .int .u64 (q.v : Nat), .int .i64 m0, .int .u64 (m1 : Nat), .int .u64 (m2 : Nat), .slice m3 m4 m5, .slice m6 q.es.length m7])) := hid ⟨hv1, hv2'⟩;have llt : gl < wr.1.size := (by omega);have rlt : gr < wr.1.size := (by have := HR.out.2.2.2.2.size; omega);have i0 : (0 : Int) ≤ (j : Int) := (by omega);have i1 : (j : Int) < (ps.length : Int) := (by omega);have c0 := hd1' 0 (by omega);have c1 := hd1' 1 (by omega);have c2 := hd1' 2 (by omega);have c3 := hd1' 3 (by omega);have c4 := hd1' 4 (by omega);have c5 := hd1' 5 (by omega);have c6 := hd1' 6 (by omega);have c7 := hd1' 7 (by omega);have c8 := hd1' 8 (by omega);have c9 := hd1' 9 (by omega);have c10 := hd1' 10 (by omega);have d0 := hd2' 0 (by omega);have d1 := hd2' 1 (by omega);have d2 := hd2' 2 (by omega);have d3 := hd2' 3 (by omega);have d4 := hd2' 4 (by omega);have d5 := hd2' 5 (by omega);have d6 := hd2' 6 (by omega);have d7 := hd2' 7 (by omega);have d8 := hd2' 8 (by omega);have d9 := hd2' 9 (by omega);have d10 := hd2' 10 (by omega);simp only [Nat.add_zero, List.getElem?_cons_zero, List.getElem?_cons_succ] at c0 c1 c2 c3 c4 c5 c6 c7 c8 c9 c10 d0 d1 d2 d3 d4 d5 d6 d7 d8 d9 d10;have HI := hid (au hfz (au hrow (au hrest2 (au hmid (au hm (au hlo hlb))))));have hmh := hrest2.le;have HLT := hid hlt;clear hfz hrow hrest hrest2 hmid hq hc1 hc2 hd1 hd2 hd1' hd2' hv1 hv2 hv2' ek em hcs hcs' hmid' hl11 hl12 hr11 hr12 hlo hlf hfr htp hbk hwl hwr hwr0 hqm
   go_upto_region 6 with fail
   refine dK (w0 := wr) rfl ((.eq (.slice (some ⟨gl, ol, none⟩) ps.length lc)) :: (.eq (.int .i64 (j : Nat))) :: (.eq (.pointer (some ⟨gl, ol + j * 13, none⟩))) :: (.eq (.pointer (some ⟨gl, ol + j * 13 + 11, none⟩))) :: (.eq (.int .i64 (fr : Nat))) :: (.eq (.slice (some ⟨gr, og, none⟩) ps.length rc)) :: (.eq (.int .i64 (j : Nat))) :: (.eq (.pointer (some ⟨gr, og + j * 13, none⟩))) :: (.eq (.pointer (some ⟨gr, og + j * 13 + 11, none⟩))) :: (.eq (.int .i64 (fr : Nat))) :: (.eq (.bool false)) :: (.eq (.bool false)) :: (.eq (.slice (some ⟨gl, ol, none⟩) ps.length lc)) :: (.eq (.int .i64 (j : Nat))) :: (.eq (.pointer (some ⟨gl, ol + j * 13, none⟩))) :: (.eq (.pointer (some ⟨gl, ol + j * 13 + 12, none⟩))) :: (.eq (.int .i64 (tp : Nat))) :: (.eq (.slice (some ⟨gr, og, none⟩) ps.length rc)) :: (.eq (.int .i64 (j : Nat))) :: (.eq (.pointer (some ⟨gr, og + j * 13, none⟩))) :: (.eq (.pointer (some ⟨gr, og + j * 13 + 12, none⟩))) :: (.eq (.int .i64 (tp : Nat))) :: (.eq (.bool false)) :: (.eq (.bool false)) :: (.eq (.bool false)) :: (.eq (.slice (some ⟨gl, ol, none⟩) ps.length lc)) :: (.eq (.int .i64 (j : Nat))) :: (.eq (.pointer (some ⟨gl, ol + j * 13, none⟩))) :: (.eq (.pointer (some ⟨gl, ol + j * 13, none⟩))) :: (.eq (.agg #[.int .i64 q.k, .int .u64 (q.t : Nat), .int .u64 (q.x : Nat), .int .u64 (q.w : Nat), .int .u64 (q.n : Nat), .int .u64 (q.v : Nat), .int .i64 k0, .int .u64 (k1 : Nat), .int .u64 (k2 : Nat), .slice k3 k4 k5, .slice k6 q.es.length k7])) :: (.of (pRc q)) :: (.eq (.slice (some ⟨gr, og, none⟩) ps.length rc)) :: (.eq (.int .i64 (j : Nat))) :: (.eq (.pointer (some ⟨gr, og + j * 13, none⟩))) :: (.eq (.pointer (some ⟨gr, og + j * 13, none⟩))) :: (.eq (.agg #[.int .i64 q.k, .int .u64 (q.t : Nat), .int .u64 (q.x : Nat), .int .u64 (q.w : Nat), .int .u64 (q.n : Nat), .int .u64 (q.v : Nat), .int .i64 m0, .int .u64 (m1 : Nat), .int .u64 (m2 : Nat), .slice m3 m4 m5, .slice m6 q.es.length m7])) :: (.eq (.bool true)) :: (.eq (.bool false)) :: (.eq (.bool false)) :: []) (by kernel_rfl) ⟨?_, ?_, ?_, ?_, ?_, ?_, ?_, ?_, ?_, ?_, ?_, ?_, ?_, ?_, ?_, ?_, ?_, ?_, ?_, ?_, ?_, ?_, ?_, ?_, ?_, ?_, ?_, ?_, ?_, ?_, ?_, ?_, ?_, ?_, ?_, ?_, ?_, ?_, ?_, ?_, trivial⟩ (fun vs => [(17, (.slice (some ⟨gl, ol, none⟩) ps.length lc)), (18, (.int .i64 (j : Nat))), (19, (.pointer (some ⟨gl, ol + j * 13, none⟩))), (20, (.pointer (some ⟨gl, ol + j * 13 + 11, none⟩))), (21, (.int .i64 (fr : Nat))), (22, (.slice (some ⟨gr, og, none⟩) ps.length rc)), (23, (.int .i64 (j : Nat))), (24, (.pointer (some ⟨gr, og + j * 13, none⟩))), (25, (.pointer (some ⟨gr, og + j * 13 + 11, none⟩))), (26, (.int .i64 (fr : Nat))), (27, (.bool false)), (28, (.bool false)), (29, (.slice (some ⟨gl, ol, none⟩) ps.length lc)), (30, (.int .i64 (j : Nat))), (31, (.pointer (some ⟨gl, ol + j * 13, none⟩))), (32, (.pointer (some ⟨gl, ol + j * 13 + 12, none⟩))), (33, (.int .i64 (tp : Nat))), (34, (.slice (some ⟨gr, og, none⟩) ps.length rc)), (35, (.int .i64 (j : Nat))), (36, (.pointer (some ⟨gr, og + j * 13, none⟩))), (37, (.pointer (some ⟨gr, og + j * 13 + 12, none⟩))), (38, (.int .i64 (tp : Nat))), (39, (.bool false)), (40, (.bool false)), (41, (.bool false)), (42, (.slice (some ⟨gl, ol, none⟩) ps.length lc)), (43, (.int .i64 (j : Nat))), (44, (.pointer (some ⟨gl, ol + j * 13, none⟩))), (45, (.pointer (some ⟨gl, ol + j * 13, none⟩))), (46, (.agg #[.int .i64 q.k, .int .u64 (q.t : Nat), .int .u64 (q.x : Nat), .int .u64 (q.w : Nat), .int .u64 (q.n : Nat), .int .u64 (q.v : Nat), .int .i64 k0, .int .u64 (k1 : Nat), .int .u64 (k2 : Nat), .slice k3 k4 k5, .slice k6 q.es.length k7])), (47, vs 30), (48, (.slice (some ⟨gr, og, none⟩) ps.length rc)), (49, (.int .i64 (j : Nat))), (50, (.pointer (some ⟨gr, og + j * 13, none⟩))), (51, (.pointer (some ⟨gr, og + j * 13, none⟩))), (52, (.agg #[.int .i64 q.k, .int .u64 (q.t : Nat), .int .u64 (q.x : Nat), .int .u64 (q.w : Nat), .int .u64 (q.n : Nat), .int .u64 (q.v : Nat), .int .i64 m0, .int .u64 (m1 : Nat), .int .u64 (m2 : Nat), .slice m3 m4 m5, .slice m6 q.es.length m7])), (53, (.bool true)), (54, (.bool false)), (55, (.bool false))]) (fun _ => rfl) ?_
   ·refine rZ fun S a wx K Q hR hK => ?_
    have t0 : a.tmps[0]? = some (.slice (some ⟨gl, ol, none⟩) ps.length lc) := hR.o 0;go_simp;exact hK _ _ br rfl
   ·refine rZ fun S a wx K Q hR hK => ?_
    have t5 : a.tmps[5]? = some (.int .i64 (j : Nat)) := hR.o 5;go_simp;exact hK _ _ br rfl
   ·refine rZ fun S a wx K Q hR hK => ?_
    have t17 := hR.q 0;have t18 := hR.q 1;go_simp;exact hK _ _ br rfl
   ·refine rZ fun S a wx K Q hR hK => ?_
    have t19 := hR.q 2;go_simp;exact hK _ _ br rfl
   ·refine rZ fun S a wx K Q hR hK => ?_
    have t20 := hR.q 3;have y0 := (hR.bel.cell llt).trans c11;go_simp;exact hK _ _ br rfl
   ·refine rZ fun S a wx K Q hR hK => ?_
    have t1 : a.tmps[1]? = some (.slice (some ⟨gr, og, none⟩) ps.length rc) := hR.o 1;go_simp;exact hK _ _ br rfl
   ·refine rZ fun S a wx K Q hR hK => ?_
    have t5 : a.tmps[5]? = some (.int .i64 (j : Nat)) := hR.o 5;go_simp;exact hK _ _ br rfl
   ·refine rZ fun S a wx K Q hR hK => ?_
    have t22 := hR.q 5;have t23 := hR.q 6;go_simp;exact hK _ _ br rfl
   ·refine rZ fun S a wx K Q hR hK => ?_
    have t24 := hR.q 7;go_simp;exact hK _ _ br rfl
   ·refine rZ fun S a wx K Q hR hK => ?_
    have t25 := hR.q 8;have y0 := (hR.bel.cell rlt).trans d11;go_simp;exact hK _ _ br rfl
   ·refine rZ fun S a wx K Q hR hK => ?_
    have t21 := hR.q 4;have t26 := hR.q 9;go_simp
    (try go_ints)
    exact hK _ _ br rfl
   ·refine rZ fun S a wx K Q hR hK => ?_
    have t27 := hR.q 10;go_simp;exact hK _ _ br rfl
   ·refine rZ fun S a wx K Q hR hK => ?_
    have t0 : a.tmps[0]? = some (.slice (some ⟨gl, ol, none⟩) ps.length lc) := hR.o 0;go_simp;exact hK _ _ br rfl
   ·refine rZ fun S a wx K Q hR hK => ?_
    have t5 : a.tmps[5]? = some (.int .i64 (j : Nat)) := hR.o 5;go_simp;exact hK _ _ br rfl
   ·refine rZ fun S a wx K Q hR hK => ?_
    have t29 := hR.q 12;have t30 := hR.q 13;go_simp;exact hK _ _ br rfl
   ·refine rZ fun S a wx K Q hR hK => ?_
    have t31 := hR.q 14;go_simp;exact hK _ _ br rfl
   ·refine rZ fun S a wx K Q hR hK => ?_
    have t32 := hR.q 15;have y0 := (hR.bel.cell llt).trans c12;go_simp;exact hK _ _ br rfl
   ·refine rZ fun S a wx K Q hR hK => ?_
    have t1 : a.tmps[1]? = some (.slice (some ⟨gr, og, none⟩) ps.length rc) := hR.o 1;go_simp;exact hK _ _ br rfl
   ·refine rZ fun S a wx K Q hR hK => ?_
    have t5 : a.tmps[5]? = some (.int .i64 (j : Nat)) := hR.o 5;go_simp;exact hK _ _ br rfl
   ·refine rZ fun S a wx K Q hR hK => ?_
    have t34 := hR.q 17;have t35 := hR.q 18;go_simp;exact hK _ _ br rfl
   ·refine rZ fun S a wx K Q hR hK => ?_
    have t36 := hR.q 19;go_simp;exact hK _ _ br rfl
   ·refine rZ fun S a wx K Q hR hK => ?_
    have t37 := hR.q 20;have y0 := (hR.bel.cell rlt).trans d12;go_simp;exact hK _ _ br rfl
   ·refine rZ fun S a wx K Q hR hK => ?_
    have t33 := hR.q 16;have t38 := hR.q 21;go_simp
    (try go_ints)
    exact hK _ _ br rfl
   ·refine rZ fun S a wx K Q hR hK => ?_
    have t28 := hR.q 11;have t39 := hR.q 22;go_simp;exact hK _ _ br rfl
   ·refine rZ fun S a wx K Q hR hK => ?_
    have t40 := hR.q 23;go_simp;exact hK _ _ br rfl
   ·refine rZ fun S a wx K Q hR hK => ?_
    have t0 : a.tmps[0]? = some (.slice (some ⟨gl, ol, none⟩) ps.length lc) := hR.o 0;go_simp;exact hK _ _ br rfl
   ·refine rZ fun S a wx K Q hR hK => ?_
    have t5 : a.tmps[5]? = some (.int .i64 (j : Nat)) := hR.o 5;go_simp;exact hK _ _ br rfl
   ·refine rZ fun S a wx K Q hR hK => ?_
    have t42 := hR.q 25;have t43 := hR.q 26;go_simp;exact hK _ _ br rfl
   ·refine rZ fun S a wx K Q hR hK => ?_
    have t44 := hR.q 27;go_simp;exact hK _ _ br rfl
   ·refine rZ fun S a wx K Q hR hK => ?_
    have t45 := hR.q 28;have y0 := (hR.bel.cell llt).trans c0;have y1 := (hR.bel.cell llt).trans c1;have y2 := (hR.bel.cell llt).trans c2;have y3 := (hR.bel.cell llt).trans c3;have y4 := (hR.bel.cell llt).trans c4;have y5 := (hR.bel.cell llt).trans c5;have y6 := (hR.bel.cell llt).trans c6;have y7 := (hR.bel.cell llt).trans c7;have y8 := (hR.bel.cell llt).trans c8;have y9 := (hR.bel.cell llt).trans c9;have y10 := (hR.bel.cell llt).trans c10;go_simp;exact hK _ _ br rfl
   ·exact zB q
   ·refine rZ fun S a wx K Q hR hK => ?_
    have t46 := hR.q 29;go_simp
    go_at_call 26
    go_fit (mK _ true q _ _ HD.out.1 HD.out.2.1 HD.out.2.2 (HV.out.1.below hR.bel nl))
    rintro e w9 ⟨⟨v9, rfl, hv9⟩, hb9⟩;exact hK _ _ hb9 (hv9.wider (fun b _ hb => hR.new b hb))
   ·refine rZ fun S a wx K Q hR hK => ?_
    have t1 : a.tmps[1]? = some (.slice (some ⟨gr, og, none⟩) ps.length rc) := hR.o 1;go_simp;exact hK _ _ br rfl
   ·refine rZ fun S a wx K Q hR hK => ?_
    have t5 : a.tmps[5]? = some (.int .i64 (j : Nat)) := hR.o 5;go_simp;exact hK _ _ br rfl
   ·refine rZ fun S a wx K Q hR hK => ?_
    have t48 := hR.q 31;have t49 := hR.q 32;go_simp;exact hK _ _ br rfl
   ·refine rZ fun S a wx K Q hR hK => ?_
    have t50 := hR.q 33;go_simp;exact hK _ _ br rfl
   ·refine rZ fun S a wx K Q hR hK => ?_
    have t51 := hR.q 34;have y0 := (hR.bel.cell rlt).trans d0;have y1 := (hR.bel.cell rlt).trans d1;have y2 := (hR.bel.cell rlt).trans d2;have y3 := (hR.bel.cell rlt).trans d3;have y4 := (hR.bel.cell rlt).trans d4;have y5 := (hR.bel.cell rlt).trans d5;have y6 := (hR.bel.cell rlt).trans d6;have y7 := (hR.bel.cell rlt).trans d7;have y8 := (hR.bel.cell rlt).trans d8;have y9 := (hR.bel.cell rlt).trans d9;have y10 := (hR.bel.cell rlt).trans d10;go_simp;exact hK _ _ br rfl
   ·refine rZ fun S a wx K Q hR hK => ?_
    obtain ⟨u47, t47, f47⟩ := hR.f 30;have t52 := hR.q 35;go_simp
    go_at_call 25
    go_fit (om _ _ true true q q _ _ _ HD.out.1 (show bL wx _ true q _ from f47) (HV.out.2.below hR.bel nl))
    rintro e w9 ⟨rfl, hb9⟩;rw [vU q];exact hK _ _ hb9 rfl
   ·refine rZ fun S a wx K Q hR hK => ?_
    have t53 := hR.q 36;go_simp;exact hK _ _ br rfl
   ·refine rZ fun S a wx K Q hR hK => ?_
    have t41 := hR.q 24;have t54 := hR.q 37;go_simp;exact hK _ _ br rfl
   intro S1 vs w1 hD;have HB1 := hid hD.bel;simp only [bS, List.foldl_cons, List.foldl_nil];clear hD;replace c0 := (HB1.out.cell llt).trans c0;replace c1 := (HB1.out.cell llt).trans c1;replace c2 := (HB1.out.cell llt).trans c2;replace c3 := (HB1.out.cell llt).trans c3;replace c4 := (HB1.out.cell llt).trans c4;replace c5 := (HB1.out.cell llt).trans c5;replace c6 := (HB1.out.cell llt).trans c6;replace c7 := (HB1.out.cell llt).trans c7;replace c8 := (HB1.out.cell llt).trans c8;replace c9 := (HB1.out.cell llt).trans c9;replace c10 := (HB1.out.cell llt).trans c10;replace c11 := (HB1.out.cell llt).trans c11;replace f11 : w1.frozen? ⟨gl, ol + j * 13 + 11, none⟩ = false := by
    unfold World.frozen? at f11 ⊢;rw [HB1.out.block gl llt];exact f11
   have hz1 := HB1.out.size;have HS := hid (oJ BL (fun b => (Value.slice (some ⟨gl, ol, none⟩) ps.length lc).ownBlock ≠ some b ∧ m ≤ b ∧ b < mid) (fun b hb => by omega) q _ w1 (by omega) HD9.out (HV.out.1.below HB1.out nl));clear d0 d1 d2 d3 d4 d5 d6 d7 d8 d9 d10 d11 d12 c12;go_simp;go_wp2_with fail;refine HS.out.mono ?_;rintro e w2 ⟨rfl, hb2, hk2⟩;have hgS : ¬ ((Value.slice (some ⟨gl, ol, none⟩) ps.length lc).ownBlock ≠ some gl ∧ m ≤ gl ∧ gl < mid) := fun h => h.1 HI.out.2.2.2.2.2.1
   have hg2 : w2.1[gl]? = w1.1[gl]? := hk2 gl hgS (by omega);replace c11 : w2.cell? ⟨gl, ol + j * 13 + 11, none⟩ = some (.int .i64 (fr : Nat)) := by
    unfold World.cell? at c11 ⊢;rw [hg2];exact c11
   replace f11 : w2.frozen? ⟨gl, ol + j * 13 + 11, none⟩ = false := by
    unfold World.frozen? at f11 ⊢;rw [hg2];exact f11
   have hz2 := hb2.size;have HK := hid (au hb2 (au hk2 hg2));clear hb2 hk2 hg2 hgS c0 c1 c2 c3 c4 c5 c6 c7 c8 c9 c10;go_wp2_with fail;go_roundw
   case rel =>
    obtain ⟨hb2, hk2, hg2⟩ := HK.out;obtain ⟨hfz, hrow, hrest2, hmid, hm, hlo, hlb⟩ := HI.out;have hhL := HL.out.1;have hHH := HHL.out;refine ⟨j + 1, mid, by go_num, HLT.out, by omega, ?_, ?_, ?_⟩
    ·refine hfz.trans ((Fz.of_below HB1.out).trans (Fz.trans (y := w2) ⟨hb2.os, hb2.tape, hb2.output, hb2.size, fun b hbl hbn => hk2 b (fun h => by omega) hbl⟩ ⟨rfl, rfl, rfl, by simp, fun b hbl hbn => ay _ _ _ _ (by show b ≠ gl; omega)⟩))
    ·refine bu.keep (L := mid) (H := hi) (fun b ha h1 h2 hl => ?_) (fun b _ ha _ _ => ha) nl nl hrest2
     exact (ay _ _ _ _ (by show b ≠ gl; intro e; subst e; exact ha hlo)).trans ((hk2 b (fun h => by omega) (by omega)).trans (HB1.out.block b hl))
    ·intro bl off he i hi2
     injection he with he
     injection he with he1 he2
     subst he1 he2;obtain ⟨h1, h2⟩ := hrow gl ol rfl i (by omega);have e1 : w2.cell? ⟨gl, ol + i, none⟩ = wr.cell? ⟨gl, ol + i, none⟩ := by
      unfold World.cell?;rw [hg2, HB1.out.block gl llt]
     have e2 : w2.frozen? ⟨gl, ol + i, none⟩ = wr.frozen? ⟨gl, ol + i, none⟩ := by
      unfold World.frozen?;rw [hg2, HB1.out.block gl llt]
     constructor
     ·rw [aF _ _ _ _ (by intro e; injection e with _ e; omega), e1, h1]
     ·rw [World.frozen?_setCell, e2, h2]
   case measure => have := HLT.out; simp [intOf]; omega
  ·have hj2 : j = ps.length := by omega
   subst hj2;have HE := hid hfz;clear hfz hrow hrest;go_wp2_with fail;go_ret
   exact ⟨rfl, HE.out⟩
end Go.Proofs.YtlpgokcapdjgjaaGreatDoor
