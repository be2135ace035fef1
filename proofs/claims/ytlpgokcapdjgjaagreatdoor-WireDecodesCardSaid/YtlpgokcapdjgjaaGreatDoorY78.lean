/- The law WireDecodes, walked. -/
import Derived.Test.YtlpgokcapdjgjaaGreatDoorY77
import Derived.Test.YtlpgokcapdjgjaaGreatDoorY86
set_option maxHeartbeats 8000000
set_option maxRecDepth 100000
namespace Go.Proofs.YtlpgokcapdjgjaaGreatDoor
open Go.RowKit Go
set_option linter.unusedVariables false
set_option linter.unusedSimpArgs false
def wk1 : Rec := ⟨1, 1, 0, 0, 0, 0, .zero, []⟩
def wk2 : Rec := ⟨6, 1, 0, 0, 0, 0, .zero, []⟩
theorem GM : uE [wk1, wk2] = 0 := by decide +kernel
theorem ET : (encR [wk1, wk2]).length = 14 := by decide +kernel
theorem GN : lG (encR [wk1, wk2]) = ([⟨wk1, 0, 7⟩, ⟨wk2, 7, 14⟩], 14, 0) := by kernel_rfl
theorem GQ : lG ((encR [wk1, wk2]).take 10) = ([⟨wk1, 0, 7⟩], 7, 1) := by kernel_rfl
theorem Dm : ∀ p, p < 14 → (bn ((encR [wk1, wk2]).drop p)).rule = 0 → ((bn ((encR [wk1, wk2]).drop p)).kind = 1 ∨ (bn ((encR [wk1, wk2]).drop p)).kind = 6) ∧ (bn ((encR [wk1, wk2]).drop p)).pay.length ≤ 14 := by decide +kernel
theorem Be : ∀ p, p < 14 → (bn (((encR [wk1, wk2]).take 10).drop p)).rule = 0 → ((bn (((encR [wk1, wk2]).take 10).drop p)).kind = 1 ∨ (bn (((encR [wk1, wk2]).take 10).drop p)).kind = 6) ∧ (bn (((encR [wk1, wk2]).take 10).drop p)).pay.length ≤ 14 := by decide +kernel
def wkS : List UInt8 := [98, 101, 103, 105, 110, 32, 49, 10, 35, 10, 10, 99, 111, 109, 109, 105, 116, 32, 120]
theorem Ii : eZ [120] = none := Cm (fun n h => by
 have h5 := dU n;rw [← h] at h5;have h6 : n = numOf [120] := h5.symm;have h7 : numOf [120] = 72 := by decide
 rw [h7] at h6;subst h6;simp [Lib.decDigits] at h)
theorem GR : eT [99, 111, 109, 109, 105, 116, 32, 120] = none := by
 have hc : cuts 32 [99, 111, 109, 109, 105, 116, 32, 120] = [[99, 111, 109, 109, 105, 116], [120]] := by decide
 unfold eT;rw [hc];simp only;rw [Ii];split <;> rfl
theorem Gg : eT [98, 101, 103, 105, 110, 32, 49] = some wk1 := by
 have h := zS (r := wk1) ((Rec.right_iff _).1 (by decide)) ⟨by decide, by decide, by decide, by decide, by decide, bD, by simp [wk1]⟩;have ht : wk1.told = [98, 101, 103, 105, 110, 32, 49] := by
  have h1 : Lib.decDigits 1 = [49] := by simp [Lib.decDigits]
  unfold Rec.told Rec.words Rec.tail wk1;simp only [h1];rfl
 rw [ht] at h;exact h
theorem EU : gy (lns wkS) 0 [] = ([], 4, 50) := by
 have hl : lns wkS = [[98, 101, 103, 105, 110, 32, 49], [35], [], [99, 111, 109, 109, 105, 116, 32, 120]] := by decide
 rw [hl, rG _ _ _ (by decide) Gg, mW _ _ _ (by decide), mW _ _ _ (by decide), ve _ _ _ (by decide) GR]
theorem EW : ∀ x, x ∈ lns wkS → ¬ mute x → (cuts 32 x)[0]? = some (bB 1) ∨ (cuts 32 x)[0]? = some (bB 6) := by
 have hl : lns wkS = [[98, 101, 103, 105, 110, 32, 49], [35], [], [99, 111, 109, 109, 105, 116, 32, 120]] := by decide
 rw [hl]
 decide
theorem lT {w : World} {base sz : Nat} {e : TypeId} {v : Value} {xs : List Value} {n : Nat} (h : w.ownsRow base e sz v n xs) (hn : 0 < n) :
  ∃ g cap, v = .slice (some ⟨g, 0, none⟩) n cap ∧ base ≤ g ∧ g < w.1.size ∧ n ≤ cap ∧ ∀ k x, xs[k]? = some x → w.cell? ⟨g, k, none⟩ = some x := by
 obtain ⟨hl, h⟩ := h;rcases h with ⟨h, h2⟩ | ⟨g, cap, cur, hv, hb, hg, hn2, hm, hs, ht⟩
 ·omega
 ·refine ⟨g, cap, hv, hb, (ak hg).1, hn2, fun k x hk => ?_⟩
  rw [ax w _ _ _ _ _ hg];have hkl := (List.getElem?_eq_some_iff.1 hk).1;rw [← ht, List.getElem?_take, if_pos (by omega)] at hk;simpa using hk
theorem pR {w : World} {S : Nat → Prop} {x : Plc} {cs : List Value} (h : plI.P w S x cs) : ∃ k0 k1 k2 k3 k4 k5 k6 k7, cs = [.int .i64 x.q.k, .int .u64 (x.q.t : Nat), .int .u64 (x.q.x : Nat), .int .u64 (x.q.w : Nat), .int .u64 (x.q.n : Nat), .int .u64 (x.q.v : Nat), .int .i64 k0, .int .u64 (k1 : Nat), .int .u64 (k2 : Nat), .slice k3 k4 k5, .slice k6 x.q.es.length k7, .int .i64 (x.fr : Nat), .int .i64 (x.tp : Nat)] := by
 obtain ⟨c, rfl, hr⟩ := h;obtain ⟨k0, k1, k2, k3, k4, k5, k6, k7, e, _⟩ := hr.conc;have := vH e;subst this;exact ⟨k0, k1, k2, k3, k4, k5, k6, k7, rfl⟩
theorem EX (w : World) (a b : Rec) (ca cb : List Value) (ha : bL w (fun _ => True) false a (.agg ca.toArray)) (hb : bL w (fun _ => True) false b (.agg cb.toArray)) (g : Nat) (T : TypeId) (hg : w.1[g]? = some (.cells (ca ++ cb).toArray T (0, 0))) : oh Ea w (fun _ => True) [a, b] (.slice (some ⟨g, 0, none⟩) 2 2) := by
 have la : ca.length = 11 := by have := (iJ ha).1; simpa using this
 have lb : cb.length = 11 := by have := (iJ hb).1; simpa using this
 refine ⟨ca ++ cb, ⟨by simp [Ea]; omega, by simp, _, _, rfl, by simp, fun _ => ⟨_, _, rfl, trivial, fun j hj => ⟨?_, fun h => by cases h⟩⟩⟩, ca, cb, rfl, ha, cb, [], by simp, hb, rfl⟩;rw [ax w _ _ _ _ _ hg, Nat.zero_add];simp [hj]
theorem BS (w : World) (k : Nat) (hk : k ≤ 7) : bL w (fun _ => True) false ⟨(k : Int), 1, 0, 0, 0, 0, .zero, []⟩ (.agg [.int .i64 (k : Int), .int .u64 1, .int .u64 0, .int .u64 0, .int .u64 0, .int .u64 0, .int .i64 0, .int .u64 0, .int .u64 0, .slice none 0 0, .slice none 0 0].toArray) :=
 ⟨_, _, _, _, _, rfl, by show (-9223372036854775808 : Int) ≤ (k : Int); omega, by show (k : Int) ≤ 9223372036854775807; omega, ⟨by show (1 : Nat) < 18446744073709551616; omega, by show (0 : Nat) < 18446744073709551616; omega, by show (0 : Nat) < 18446744073709551616; omega, by show (0 : Nat) < 18446744073709551616; omega, by show (0 : Nat) < 18446744073709551616; omega, bD, by simp⟩, (lw w _).unown, Sl.nil w _ false 4⟩
theorem uf (w : World) (hL : Lq w.1.size w) : Calls Tryz.prog 7 #[] w fun e w' => e = .returned (.bool true) ∧ Below w.1.size w w' := by
 obtain ⟨X, hX⟩ : ∃ X, X = w.alloc (.cells #[.int .i64 1, .int .u64 1, .int .u64 0, .int .u64 0, .int .u64 0, .int .u64 0, .int .i64 0, .int .u64 0, .int .u64 0, .slice none 0 0, .slice none 0 0, .int .i64 6, .int .u64 1, .int .u64 0, .int .u64 0, .int .u64 0, .int .u64 0, .int .i64 0, .int .u64 0, .int .u64 0, .slice none 0 0, .slice none 0 0] 73) := ⟨_, rfl⟩;have hbX : Below w.1.size w X := by rw [hX]; exact br.alloc nl _
 have hgX : X.1[w.1.size]? = some (.cells #[.int .i64 1, .int .u64 1, .int .u64 0, .int .u64 0, .int .u64 0, .int .u64 0, .int .i64 0, .int .u64 0, .int .u64 0, .slice none 0 0, .slice none 0 0, .int .i64 6, .int .u64 1, .int .u64 0, .int .u64 0, .int .u64 0, .int .u64 0, .int .i64 0, .int .u64 0, .int .u64 0, .slice none 0 0, .slice none 0 0] 73 (0, 0)) := by rw [hX]; exact aK _ _ _ rfl
 have HE := hid (sN [wk1, wk2] (by
  intro q hq;simp only [List.mem_cons, List.not_mem_nil, or_false] at hq;rcases hq with rfl | rfl
  ·exact fun S v w hv => qo S false _ (.inl rfl) v w (by decide) (by decide) hv
  ·exact fun S v w hv => qo S false _ (.inr rfl) v w (by decide) (by decide) hv) _ _ X (by simp) (by
  intro q hq;simp only [List.mem_cons, List.not_mem_nil, or_false] at hq;rcases hq with rfl | rfl
  ·decide
  ·decide) (EX X wk1 wk2 _ _ (BS X 1 (by omega)) (BS X 6 (by omega)) w.1.size 73 hgX))
 have HB0 := hid (au hbX (hL.below hbX));have HX := hid hX;clear hbX hgX hX hL
 go_enter Tryz.func7, Tryz.ntmps7
 go_wp2_with fail;rw [← HX.out];refine HE.out.mono ?_;rintro e w1 ⟨hgo, _, hb1⟩;obtain ⟨bv, rfl, hown⟩ := hgo GM;rw [ET] at hown;obtain ⟨gb, cb, rfl, hgb, hgl, hcp, _⟩ := lT hown (by omega);obtain ⟨EB, hEB⟩ : ∃ EB, EB = encR [wk1, wk2] := ⟨_, rfl⟩;rw [← hEB] at hown;have hEl : EB.length = 14 := by rw [hEB]; exact ET
 have hrep : aO w1 (fun _ => True) false EB (.slice (some ⟨gb, 0, none⟩) EB.length cb) := by
  rw [← hEl] at hown;exact Sl.unown ((aO.of_owns hown).keep (by omega) (fun _ _ _ => rfl) (fun _ _ _ => trivial))
 have hs1 := hb1.size;have hbw1 : Below w.1.size w w1 := HB0.out.1.trans (hb1.mono HB0.out.1.size);have HD1 := hid (jh _ false EB (fun p hp hr S pv w hv => by
  have hf := Dm p (by omega) (by rw [← hEB]; exact hr);rw [← hEB] at hf;exact mH S true _ hf.1 _ pv w (by omega) hv) _ w1 hrep (by omega))
 rw [hEl] at HD1;have H1 := hid (au hrep (au hbw1 (au hEl (au hEB (HB0.out.2.below (hb1.mono HB0.out.1.size))))));clear hgo hown hrep hbw1 hb1 hEB hEl;go_wp2_with fail;refine HD1.out.mono ?_;rintro e w2 ⟨sv, acc, n2, rl2, rfl, hd2, hrow2, hb2⟩;rw [H1.out.2.2.2.1, GN] at hd2;simp only [Prod.mk.injEq] at hd2;obtain ⟨rfl, rfl, rfl⟩ := hd2;obtain ⟨ys2, hi2, _, ho2, hg2⟩ := hrow2.resolve_left (fun h => by cases h.2);obtain ⟨gs2, cs2, rfl, hl2a, hl2b, _, hc2⟩ := lT ho2 (by decide);obtain ⟨ca, m1, rest, rfl, _, hpa, cbb, m2, rest2, rfl, _, hpb, rfl, _⟩ := hg2;obtain ⟨p0, p1, p2, p3, p4, p5, p6, p7, rfl⟩ := pR hpa;obtain ⟨q0, q1, q2, q3, q4, q5, q6, q7, rfl⟩ := pR hpb;have u11 : w2.cell? ⟨gs2, 11, none⟩ = some (.int .i64 0) := hc2 11 _ rfl;have u12 : w2.cell? ⟨gs2, 12, none⟩ = some (.int .i64 7) := hc2 12 _ rfl;have u13 : w2.cell? ⟨gs2, 13, none⟩ = some (.int .i64 6) := hc2 13 _ rfl;have u24 : w2.cell? ⟨gs2, 24, none⟩ = some (.int .i64 7) := hc2 24 _ rfl;have u25 : w2.cell? ⟨gs2, 25, none⟩ = some (.int .i64 14) := hc2 25 _ rfl;have hrep2 : aO w2 (fun _ => True) false (EB.take 10) (.slice (some ⟨gb, 0, none⟩) 10 cb) := by
  have h := (aO.below H1.out.1 hb2 nl).cut 0 10 cb (by rw [H1.out.2.2.1]; omega) (by omega);simpa [Addr.add] using h
 have hs2 := hb2.size;have HD2 := hid (jh _ false (EB.take 10) (fun p hp hr S pv w hv => by
  have hf := Be p (by rw [List.length_take] at hp; omega) (by rw [← H1.out.2.2.2.1]; exact hr);rw [← H1.out.2.2.2.1] at hf;exact mH S true _ hf.1 _ pv w (by omega) hv) _ w2 hrep2 (by rw [List.length_take, H1.out.2.2.1]; decide))
 have H2 := hid (au (H1.out.2.1.trans (hb2.mono H1.out.2.1.size)) (H1.out.2.2.2.2.below (hb2.mono H1.out.2.1.size)));clear hrow2 hb2 ho2 hc2 hpa hpb hrep2;have k10 : (10 : Int) ≤ (cb : Int) := by omega
 go_wp2_with fail;refine HD2.out.mono ?_;rintro e w3 ⟨sv3, acc3, n3, rl3, rfl, hd3, hrow3, hb3⟩;rw [H1.out.2.2.2.1, GQ] at hd3;simp only [Prod.mk.injEq] at hd3;obtain ⟨rfl, rfl, rfl⟩ := hd3;obtain ⟨ys3, hi3, _, ho3, hg3⟩ := hrow3.resolve_left (fun h => by cases h.2);obtain ⟨gs3, cs3, rfl, hl3a, hl3b, _, hc3⟩ := lT ho3 (by decide);obtain ⟨cc, m3, rest3, rfl, _, hpc, rfl, _⟩ := hg3;obtain ⟨r0, r1, r2, r3, r4, r5, r6, r7, rfl⟩ := pR hpc;have v1 : w3.cell? ⟨gs3, 1, none⟩ = some (.int .u64 1) := hc3 1 _ rfl;replace u11 := (hb3.cell (p := ⟨gs2, 11, none⟩) hl2b).trans u11;replace u12 := (hb3.cell (p := ⟨gs2, 12, none⟩) hl2b).trans u12;replace u13 := (hb3.cell (p := ⟨gs2, 13, none⟩) hl2b).trans u13;replace u24 := (hb3.cell (p := ⟨gs2, 24, none⟩) hl2b).trans u24;replace u25 := (hb3.cell (p := ⟨gs2, 25, none⟩) hl2b).trans u25;have hs3 := hb3.size;have HLN := hid (uO ⟨wkS.toArray⟩ (fun L hm hn hs w hq => wX L (EW _ hm hn) w hs hq) w3 (by decide) ((H2.out.2.below (hb3.mono (by have := H2.out.1.size; omega))).mono (by have := H2.out.1.size; omega)));have H3 := hid (H2.out.1.trans (hb3.mono (by have := H2.out.1.size; omega)));clear hrow3 hb3 ho3 hc3 hpc;go_wp2_with fail;refine HLN.out.mono ?_;rintro e w4 ⟨sv4, n4, er4, rs4, rfl, hd4, hrow4, hb4⟩;rw [show (⟨wkS.toArray⟩ : ByteArray).data.toList = wkS from rfl, EU] at hd4;simp only [Prod.mk.injEq] at hd4;obtain ⟨rfl, rfl, rfl⟩ := hd4;obtain ⟨sa4, sc4, rfl⟩ := bE.form hrow4;replace u11 := (hb4.cell (p := ⟨gs2, 11, none⟩) (by show gs2 < w3.1.size; omega)).trans u11;replace u12 := (hb4.cell (p := ⟨gs2, 12, none⟩) (by show gs2 < w3.1.size; omega)).trans u12;replace u13 := (hb4.cell (p := ⟨gs2, 13, none⟩) (by show gs2 < w3.1.size; omega)).trans u13;replace u24 := (hb4.cell (p := ⟨gs2, 24, none⟩) (by show gs2 < w3.1.size; omega)).trans u24;replace u25 := (hb4.cell (p := ⟨gs2, 25, none⟩) (by show gs2 < w3.1.size; omega)).trans u25;replace v1 := (hb4.cell (p := ⟨gs3, 1, none⟩) hl3b).trans v1;have H4 := hid (H3.out.trans (hb4.mono H3.out.size));clear hrow4 hb4;go_wp2_with fail;go_ret
 exact ⟨rfl, H4.out⟩
theorem vW : ∀ es : List Ent, es.length ≤ (gq es).length
 | [] => by simp
 | e :: es => by
  have := vW es;simp only [gq, List.flatMap_cons, aI, aJ] at this ⊢;have h2 : 1 ≤ e.put.length := by simp [Ent.put]
  omega
theorem xA {k : Nat} {b : List UInt8} {x : Rec} (h : bC k b = some x) : x.p.size ≤ 900 ∧ x.p.depth ≤ 900 ∧ x.es.length ≤ b.length := by
 obtain ⟨h1, h2, h3, h4⟩ := jT h;refine ⟨(nT h2).1, (nT h2).2, ?_⟩;obtain ⟨q1, q7, hp, ho⟩ := h2;by_cases h5 : x.k = 5
 ·rw [← h4]
  unfold Rec.body;have := vW x.es;simp only [h5];simp; omega
 ·have hz : x.es = [] := by
   rw [← ho];unfold Rec.only;rw [if_neg h5];split
   ·rfl
   split
   ·rfl
   split <;> rfl
  rw [hz];simp
theorem ug (b : List UInt8) : ∀ f p, ∀ x ∈ (kF b f p).1, x.q.p.size ≤ 900 ∧ x.q.p.depth ≤ 900 ∧ x.q.es.length ≤ b.length
 | 0, p => by simp [kF]
 | f + 1, p => by
  rw [kF];split
  ·simp
  ·split
   ·rename_i hr
    split
    ·rename_i q hq
     intro x hx;rcases List.mem_cons.1 hx with h | h
     ·subst h
      have h1 := xA hq;have h2 := (dQ hr).2.2.2.1;rw [List.length_drop] at h2;exact ⟨h1.1, h1.2.1, by show q.es.length ≤ _; omega⟩
     ·exact ug b f _ x h
    ·simp
   ·simp
theorem Bf (b : List UInt8) : ∀ x ∈ (lG b).1, x.q.p.size ≤ 900 ∧ x.q.p.depth ≤ 900 ∧ x.q.es.length ≤ b.length := ug b _ _
theorem Bg {lo hi base n sz : Nat} {T : TypeId} {v : Value} {xs : List Value} {w w' : World} (h : w.ownsRow base T sz v n xs) (hf : Fz lo hi w w') (hb : hi ≤ base) : w'.ownsRow base T sz v n xs := by
 obtain ⟨h1, h2⟩ := h;refine ⟨h1, ?_⟩;rcases h2 with h2 | ⟨g, cap, cur, hv, hg, hh, r⟩
 ·exact Or.inl h2
 ·exact Or.inr ⟨g, cap, cur, hv, hg, (hf.keep g (ak hh).1 (.inr (by omega))).trans hh, r⟩
theorem bE.fz {lo hi base : Nat} {T : TypeId} {sv : Value} {rs : List Rec} {w w' : World} (h : bE w base T sv rs) (hf : Fz lo hi w w') (hb : hi ≤ base) : bE w' base T sv rs := by
 obtain ⟨ys, h1, h0, h2, h3⟩ := h;have hs := hf.size;exact ⟨ys, h1, by omega, Bg h2 hf hb, bu.keep (L := base) (H := h1) (fun k _ hk _ hl => hf.keep k hl (.inr (by omega))) (fun k _ ha _ _ => ha) nl nl h3⟩
theorem qI (S : Nat → Prop) (own : Bool) (b : List UInt8) (bv : Value) (w : World) (hr : aO w S own b bv) (hL : Lq w.1.size w) :
  Calls Tryz.prog 4 #[bv] w fun e w' => e = .returned (.bool true) ∧ Below w.1.size w w' := by
 obtain ⟨_, ad, cap, rfl, _⟩ := hr.shape;by_cases hs : 600 < b.length
 ·have t1 : (600 : Int) < (b.length : Int) := by omega
  have HL := hid hL;clear hL hr hs
  go_enter Tryz.func4, Tryz.ntmps4
  go_wp2_with fail;refine (uf w HL.out).mono ?_;rintro e w2 ⟨rfl, hb2⟩;go_wp2_with fail;go_ret
  exact ⟨rfl, hb2⟩
 have t1 : ¬ (600 : Int) < (b.length : Int) := by omega
 have HL := hid (au hL (au hr (show b.length ≤ 600 by omega)));have HO := hid (vY S own b _ w hr (by omega));obtain ⟨ps, n, rl, hdec⟩ : ∃ ps n rl, lG b = (ps, n, rl) := ⟨_, _, _, rfl⟩;have HQ : Hid ((∀ p ∈ ps, p.q.p.depth ≤ 900 ∧ p.q.p.size ≤ 1000 ∧ p.q.es.length ≤ 100000) ∧ ps.length ≤ 600) := hid (by
  have h1 := yY b;have h2 := Bf b;rw [hdec] at h1 h2;exact ⟨fun p hp => by have h3 := h2 p hp; exact ⟨h3.2.1, by omega, by omega⟩, by simp only at h1; omega⟩)
 have HDc := hid hdec;clear hL hr hs hdec
 go_enter Tryz.func4, Tryz.ntmps4
 go_wp2_with fail;refine HO.out.mono ?_;rintro e w1 ⟨ov, rfl, hown, hb1⟩;have HOW : Hid (aO w1 (fun _ => True) true b ov) := hid ((aO.of_owns hown).keep (by omega) (fun _ _ _ => rfl) (fun _ _ _ => trivial));have hs1 := hb1.size;have HB1 := hid hb1;obtain ⟨oa, oc, rfl⟩ := aQ hown;clear hown hb1 HO;go_wp2_with fail;refine (uP _ true b _ w1 HOW.out (by have := HL.out.2.2; omega)).mono ?_;rintro e w2 ⟨rv, ps2, n2, rl2, rfl, hd2, hm2, hb2⟩;rw [HDc.out] at hd2;simp only [Prod.mk.injEq] at hd2;obtain ⟨rfl, rfl, rfl⟩ := hd2;have hs2 := hb2.size;obtain ⟨ra, rc, rfl⟩ := aS.form (.inr hm2);have H2 := hid (au hm2 (au hb2 (HB1.out.trans (hb2.mono hs1))));clear hm2 hb2;go_wp2_with fail
 go_loopw [7] (fun t wr => ∃ j : Nat, j ≤ 2 ∧ t = .int .i64 j ∧ Hid (Below w2.1.size w2 wr)) (fun t _ => 2 - (intOf t).toNat)
 case atStart => exact ⟨0, by omega, rfl, hid br⟩
 case round =>
  obtain ⟨j, hj, rfl, HI⟩ := hrel;have hsr := HI.out.size;by_cases hlt : j < 2
  ·have HRB : Hid (aO wr S own b (.slice ad b.length cap)) := hid (HL.out.2.1.below (H2.out.2.2.trans (HI.out.mono (by omega))) nl)
   go_wp2_with fail;refine (lL S own b _ wr HRB.out (by have := HL.out.2.2; omega)).mono ?_;rintro e w3 ⟨lv, ps3, n3, rl3, rfl, hd3, hm3, hb3⟩;rw [HDc.out] at hd3;simp only [Prod.mk.injEq] at hd3;obtain ⟨rfl, rfl, rfl⟩ := hd3;have hs3 := hb3.size;obtain ⟨la, lc, rfl⟩ := aS.form hm3;have H3 := hid (au (aS.mk' hm3 hs3) hb3);clear hm3 hb3;go_wp2_with fail;refine (qH S own b _ w3 (HRB.out.below H3.out.2 nl) (by have := HL.out.2.2; omega)).mono ?_;rintro e w4 ⟨mv, ps4, n4, rl4, rfl, hd4, hm4, hb4⟩;rw [HDc.out] at hd4;simp only [Prod.mk.injEq] at hd4;obtain ⟨rfl, rfl, rfl⟩ := hd4;have hs4 := hb4.size;have H4 := hid (au hm4 (au hb4 (HI.out.trans ((H3.out.2.mono hsr).trans (hb4.mono (by omega))))));clear hm4 hb4;have HSD := hid (zC ps _ _ w3 w2 w4 wr.1.size w1.1.size HQ.out.1 (by have := HQ.out.2; omega) H3.out.1 H4.out.2.1 H2.out.1 hsr hs3 H4.out.2.2);go_wp2_with fail;refine HSD.out.mono ?_;rintro e w5 ⟨rfl, hf5⟩;have hs5 := hf5.size;have HF := hid hf5;clear hf5;have H5 : Hid (Below w2.1.size w2 w5) := hid (H4.out.2.2.trans ((HF.out.below (by omega)).mono hsr));have HRR := hid (tY _ ps w1.1.size w2 w5 H2.out.1 H5.out (by have := HQ.out.2; omega));go_wp2_with fail;refine HRR.out.mono ?_;rintro e w6 ⟨rv6, A, hi, zs, rfl, hhi, hrs, hrow, hb6⟩;have hs6 := hb6.size;have HSR := hid (xz (ps.map Plc.q) mv rv6 w5 w6 w3.1.size w1.1.size hi A zs (fun q hq => by
     obtain ⟨x, hx, e⟩ := List.mem_map.1 hq;have h := HQ.out.1 x hx;rw [e] at h;exact h) (by rw [List.length_map]; have := HQ.out.2; omega) (H4.out.1.fz HF.out nl) (by omega) hb6
    (Sl.unown (Sl.keep (Sl.of_owns hrow (by omega)) (by omega) (fun _ _ _ => rfl) (fun b _ h => .inr h.2)))
    (bu.keep (L := 0) (H := hi) (fun b _ _ _ h => hb6.block b h) (fun b _ ha _ _ => ha) (Nat.zero_le _) nl hrs) (by omega))
   have H6 := hid (H5.out.trans (hb6.mono (by omega)));clear hrs hrow hb6;go_wp2_with fail;refine HSR.out.mono ?_;rintro e w7 ⟨rfl, hf7⟩;have hs7 := hf7.size;have H7 := hid (H6.out.trans ((hf7.below (by omega)).mono (by omega)));clear hf7;go_wp2_with fail;go_roundw
   case rel => exact ⟨j + 1, by omega, by go_num, H7⟩
   case measure => simp [intOf]; omega
  ·obtain rfl : j = 2 := by omega
   have hso := HI.out.size;go_wp2_with fail;have HSB := hid (uj S (fun _ => True) own true b b _ _ wr (HL.out.2.1.below (H2.out.2.2.trans (HI.out.mono (by omega))) nl) (HOW.out.below (H2.out.2.1.trans (HI.out.mono hs2)) nl));refine HSB.out.mono ?_;rintro e w3 ⟨rfl, hb3⟩;have H3 : Hid (Below w.1.size w w3) := hid (H2.out.2.2.trans ((HI.out.mono (by omega)).trans (hb3.mono (by omega))));have t2 : decide (b = b) = true := (by simp);clear hb3;go_wp2_with fail;refine (uf w3 (HL.out.1.below H3.out |>.mono H3.out.size)).mono ?_;rintro e w4 ⟨rfl, hb4⟩;have H4 := hid (H3.out.trans (hb4.mono H3.out.size));clear hb4;go_wp2_with fail;go_ret
   exact ⟨rfl, H4.out⟩
end Go.Proofs.YtlpgokcapdjgjaaGreatDoor
