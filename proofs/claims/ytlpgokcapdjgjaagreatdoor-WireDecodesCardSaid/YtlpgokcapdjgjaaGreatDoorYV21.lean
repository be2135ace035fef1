/- Walks. -/
import Derived.Test.YtlpgokcapdjgjaaGreatDoorYW24c
set_option maxHeartbeats 8000000
set_option maxRecDepth 100000
namespace Go.Proofs.YtlpgokcapdjgjaaGreatDoor
open Go.RowKit Go
set_option linter.unusedVariables false
set_option linter.unusedSimpArgs false
theorem Ew : (Tryz.prog.info? 130).map (fun i => (i.zero, i.size, i.bytes)) = some (some (.agg #[.int .u64 0, .int .u64 0, .int .u64 0, .bool false]), 4, 32) := by kernel_rfl
theorem lI (a b : Nat) (w : World) : Calls Tryz.prog 50 #[.agg #[.int .u64 a, .int .u64 b]] w fun e w' => e = .returned (.agg #[.int .u64 a, .int .u64 b]) ∧ Below w.1.size w w' := by
 go_enter Tryz.func50, Tryz.ntmps50
 go_wp2_with fail;exact aC (v := .agg #[.int .u64 a, .int .u64 b]) (by simp [results, Tryz.results50, go_sem]) rfl ⟨rfl, (br.alloc nl _).alloc (by simp) _⟩
def yZ (r : Rec) (S : Nat → Prop) (v : Value) (w : World) : Prop := ∃ c0 c1 c2 c3, v = .agg #[.int .i64 r.k, .int .u64 r.t, .int .u64 r.x, .int .u64 r.w, .int .u64 r.n, .int .u64 r.v, c0, c1, c2, c3, .slice none 0 0] ∧ aT w S true r.p (.agg #[c0, c1, c2, c3])
theorem AR (r : Rec) : kW (yZ r) := fun S S' v w w' hk hs hS h => by
 obtain ⟨c0, c1, c2, c3, h1, h2⟩ := h;exact ⟨c0, c1, c2, c3, h1, h2.keep hk hS⟩
theorem Ey {r : Rec} {S : Nat → Prop} {w : World} {c0 c1 c2 c3 : Value} (hp : aT w S true r.p (.agg #[c0, c1, c2, c3])) :
  yZ r S (.agg #[.int .i64 r.k, .int .u64 r.t, .int .u64 r.x, .int .u64 r.w, .int .u64 r.n, .int .u64 r.v, c0, c1, c2, c3, .slice none 0 0]) w := ⟨_, _, _, _, rfl, hp⟩
theorem za {r : Rec} : ∀ (S : Nat → Prop) (v : Value) (w : World), (Pr.of (yZ r)).holds S w v → ∃ cs, v = .agg cs ∧ cs.size = 11 ∧ ∀ x ∈ cs.toList, x.oneCell' = true := fun S v w h => by
 obtain ⟨c0, c1, c2, c3, rfl, hp⟩ := h;obtain ⟨k', a', b', ad', n', cap', he⟩ := hp.conc;simp only [Value.agg.injEq, Array.mk.injEq, List.cons.injEq, and_true] at he;obtain ⟨rfl, rfl, rfl, rfl⟩ := he;exact ⟨_, rfl, rfl, by simp [Value.oneCell']⟩
def mJ (hd10 : List Value) (sv : Value) : Array Value := (hd10 ++ [sv]).toArray
structure EbZ (gb xb base j : Nat) (TR TE : TypeId) (hd10 : List Value) (sa : Option Addr) (sc : Nat) (es : List Ent) (e : Ent) (wr : World) (st : Nat) (vs : Nat → Value) (w : World) : Prop where
 lt : gb < base ∧ base ≤ wr.1.size ∧ hd10.length = 10
 rg : Below gb wr w ∧ wr.1.size ≤ w.1.size
 keep : ∀ b, b < base → b ≠ gb → w.1[b]? = wr.1[b]?
 old : st ≤ 3 → w.1[gb]? = some (.cells (mJ hd10 (.slice sa j sc)) TR (0, 0))
 own : st ≤ 2 → w.ownsRow base TE 4 (.slice sa j sc) j (aZ es)
 box : st ≤ 1 → ∃ T, w.1[xb]? = some (.cells (eY e) T (0, 0))
 one : st = 2 → ∃ bb, vs 10 = .slice (some ⟨bb, 0, none⟩) 1 1 ∧ w.1[bb]? = some (.cells (eY e) TE (0, 0))
 two : 3 ≤ st → ∃ gg gcap, vs 11 = .slice (some ⟨gg, 0, none⟩) (j + 1) gcap ∧ w.ownsRow base TE 4 (.slice (some ⟨gg, 0, none⟩) (j + 1) gcap) (j + 1) (aZ (es ++ [e]))
 new : 4 ≤ st → w.1[gb]? = some (.cells (mJ hd10 (vs 11)) TR (0, 0))
section
variable {gb xb base j : Nat} {TR TE : TypeId} {hd10 : List Value} {sa : Option Addr} {sc : Nat} {es : List Ent} {e : Ent} {wr : World} {st : Nat} {vs : Nat → Value} {w : World}
theorem Ez (hl : hd10.length = 10) (v : Value) : (mJ hd10 v)[10]? = some v := by simp [mJ, ← hl]
theorem CZ (hl : hd10.length = 10) (u v : Value) : (mJ hd10 u).setIfInBounds 10 v = mJ hd10 v := by
 unfold mJ;apply Array.ext';simp [← hl]
theorem EbZ.c10 (h : EbZ gb xb base j TR TE hd10 sa sc es e wr st vs w) (hs : st ≤ 3) : w.cell? ⟨gb, 10, none⟩ = some (.slice sa j sc) ∧ w.frozen? ⟨gb, 10, none⟩ = false :=
 ⟨by rw [ax w _ 10 _ _ _ (h.old hs)]; exact Ez h.lt.2.2 _, by rw [aA w _ 10 _ _ (h.old hs)]⟩
theorem EbZ.xs (h : EbZ gb xb base j TR TE hd10 sa sc es e wr st vs w) (hs : st ≤ 1) :
  w.cell? ⟨xb, 0, none⟩ = some (.int .u64 (e.x : Nat)) ∧ w.cell? ⟨xb, 1, none⟩ = some (.int .u64 (e.w : Nat)) ∧ w.cell? ⟨xb, 2, none⟩ = some (.int .u64 (e.n : Nat)) ∧ w.cell? ⟨xb, 3, none⟩ = some (.bool e.m) := by
 obtain ⟨T, hb⟩ := h.box hs;exact ⟨by rw [ax w _ 0 _ _ _ hb]; rfl, by rw [ax w _ 1 _ _ _ hb]; rfl, by rw [ax w _ 2 _ _ _ hb]; rfl, by rw [ax w _ 3 _ _ _ hb]; rfl⟩
theorem EbZ.gbl (h : EbZ gb xb base j TR TE hd10 sa sc es e wr st vs w) : gb < w.1.size := by have := h.lt; have := h.rg.2; omega
theorem EbZ.grow {i : Nat} {u : Value} {w' : World} (h : EbZ gb xb base j TR TE hd10 sa sc es e wr st vs w) (h1 : st + 1 ≤ 1) (hi : i ≠ 10 ∧ i ≠ 11) (hb : Below w.1.size w w') : EbZ gb xb base j TR TE hd10 sa sc es e wr (st + 1) (upd vs i u) w' := by
 have hlt := h.lt;have hrg := h.rg;have hgl := h.gbl;obtain ⟨T, hbx⟩ := h.box (by omega);have hxl := (ak hbx).1;have hs := hb.size;exact ⟨hlt, ⟨hrg.1.trans (hb.mono (by omega)), by omega⟩, fun b hb1 hn => (hb.block b (by omega)).trans (h.keep b hb1 hn), fun _ => (hb.block _ hgl).trans (h.old (by omega)), fun _ => ownsRow_below (h.own (by omega)) hb nl, fun _ => ⟨T, (hb.block _ hxl).trans hbx⟩, (fun h => by omega), (fun h => by omega), (fun h => by omega)⟩
theorem EbZ.build {i : Nat} (h : EbZ gb xb base j TR TE hd10 sa sc es e wr st vs w) (h1 : st = 1) (hi : i = 10) : EbZ gb xb base j TR TE hd10 sa sc es e wr (st + 1) (upd vs i (.slice (some ⟨w.1.size, 0, none⟩) 1 1)) (w.alloc (.cells (eY e) TE)) := by
 subst hi;have hlt := h.lt;have hrg := h.rg;have hgl := h.gbl;exact ⟨hlt, ⟨hrg.1.alloc (by omega) _, by simp; omega⟩, fun b hb1 hn => (aL _ _ _ (by omega)).trans (h.keep b hb1 hn), fun _ => (aL _ _ _ hgl).trans (h.old (by omega)), fun _ => (h.own (by omega)).alloc _, (fun h => by omega), fun _ => ⟨_, upd_self _ _ _, aK _ _ _ rfl⟩, (fun h => by omega), (fun h => by omega)⟩
theorem EbZ.app {i gg gcap : Nat} {w3 : World} (h : EbZ gb xb base j TR TE hd10 sa sc es e wr st vs w) (h1 : st = 2) (hi : i = 11) (hown : w3.ownsRow base TE 4 (.slice (some ⟨gg, 0, none⟩) (j + 1) gcap) (j + 1) (aZ (es ++ [e]))) (hg : w.grownBy w3 (Value.slice sa j sc).ownBlock) :
  EbZ gb xb base j TR TE hd10 sa sc es e wr (st + 1) (upd vs i (.slice (some ⟨gg, 0, none⟩) (j + 1) gcap)) w3 := by
 subst hi;have hlt := h.lt;have hrg := h.rg;have hgl := h.gbl;have hob := (h.own (by omega)).lt;have hgs := hg.size;have hne : ∀ b, b < base → some b ≠ (Value.slice sa j sc).ownBlock := fun b hb e => by have := hob b e.symm; omega
 exact ⟨hlt, ⟨Below.grown2 hrg.1 hg (fun k hk => (hob k hk).1) (by omega) (by omega), by omega⟩, fun b hb1 hn => (vD hg (by omega) (hne b hb1)).trans (h.keep b hb1 hn), fun _ => (vD hg hgl (hne _ hlt.1)).trans (h.old (by omega)), (fun h => by omega), (fun h => by omega), (fun h => by omega), fun _ => ⟨gg, gcap, upd_self _ _ _, hown⟩, (fun h => by omega)⟩
theorem EbZ.sto {i : Nat} {v u : Value} (h : EbZ gb xb base j TR TE hd10 sa sc es e wr st vs w) (h1 : st = 3) (hi : i ≠ 11) (hv : vs 11 = v) : EbZ gb xb base j TR TE hd10 sa sc es e wr (st + 1) (upd vs i u) (w.setCell ⟨gb, 10, none⟩ v) := by
 have hlt := h.lt;have hrg := h.rg;obtain ⟨gg, gcap, ev, ho⟩ := h.two (by omega);refine ⟨hlt, ⟨hrg.1.setCell (by simp) _, by simp; omega⟩, fun b hb1 hn => (ay _ _ _ _ (by simpa using hn)).trans (h.keep b hb1 hn), (fun h => by omega), (fun h => by omega), (fun h => by omega), (fun h => by omega), fun _ => ⟨gg, gcap, (upd_ne _ _ (fun e => hi e.symm)).trans ev, ownsRow_setCell_below ho (by simp; omega) _⟩, fun _ => ?_⟩;rw [upd_ne _ _ (fun e => hi e.symm), hv];exact aM (h.old (by omega)) (CZ hlt.2.2 _ _).symm
end
structure EbR (gb base m : Nat) (TR TE : TypeId) (hd10 : List Value) (es : List Ent) (W : World) (j : Nat) (wr : World) : Prop where
 le : j ≤ m
 ex : ∃ sv, wr.1[gb]? = some (.cells (mJ hd10 sv) TR (0, 0)) ∧ wr.ownsRow base TE 4 sv j (aZ (es.take j))
 bel : Below gb W wr
 keep : ∀ b, b < base → b ≠ gb → wr.1[b]? = W.1[b]?
 size : base ≤ wr.1.size
theorem mK (S : Nat → Prop) (own : Bool) (r : Rec) (v : Value) (w : World) (hd : r.p.depth ≤ 1000) (hsz : r.p.size ≤ 1000) (hl : r.es.length ≤ 100000) (hv : bL w S own r v) :
  Calls Tryz.prog 26 #[v] w fun e w' => (∃ v', e = .returned v' ∧ bL w' (fun b => w.1.size ≤ b) true r v') ∧ Below w.1.size w w' := by
 obtain ⟨i0, hi0, hz0, hz1, hz2⟩ := info_parts Ew;have HI := hid (au hi0 (au hz0 (au hz1 hz2)));obtain ⟨k0, k1, k2, k3, k4, k5, k6, k7, rfl, hk1, hk2, hnums, he, hes⟩ := hv.conc;have HH := hid (au he hes);have HN := hid (au hk1 (au hk2 hnums));have hinf : (Tryz.prog.info? 65).map (·.size) = some 11 := by kernel_rfl
 clear hi0 hz0 hz1 hz2 he hes hv hnums hk1 hk2
 go_enter Tryz.func26, Tryz.ntmps26
 go_wp2_with fail;obtain ⟨W, hW⟩ : ∃ W, W = ((w.alloc (.cells #[.int .i64 r.k, .int .u64 r.t, .int .u64 r.x, .int .u64 r.w, .int .u64 r.n, .int .u64 r.v, .int .i64 k0, .int .u64 k1, .int .u64 k2, .slice k3 k4 k5, .slice k6 r.es.length k7] 73)).alloc (.cells #[.int .i64 0, .int .u64 0, .int .u64 0, .int .u64 0, .int .u64 0, .int .u64 0, .int .i64 0, .int .u64 0, .int .u64 0, .slice none 0 0, .slice none 0 0] 65)) := ⟨_, rfl⟩;have hbx : W.1[w.1.size]? = some (.cells #[.int .i64 r.k, .int .u64 r.t, .int .u64 r.x, .int .u64 r.w, .int .u64 r.n, .int .u64 r.v, .int .i64 k0, .int .u64 k1, .int .u64 k2, .slice k3 k4 k5, .slice k6 r.es.length k7] 73 (0, 0)) := by rw [hW]; exact heap_alloc2_old _ _ _
 have hrb : W.1[w.1.size + 1]? = some (.cells #[.int .i64 0, .int .u64 0, .int .u64 0, .int .u64 0, .int .u64 0, .int .u64 0, .int .i64 0, .int .u64 0, .int .u64 0, .slice none 0 0, .slice none 0 0] 65 (0, 0)) := by rw [hW]; exact aK _ _ _ (by simp)
 have hB0 : Below w.1.size w W := by rw [hW]; exact (br.alloc nl _).alloc (by simp) _
 have hzW : W.1.size = w.1.size + 2 := by rw [hW]; simp
 have b0 : W.cell? ⟨w.1.size, 0, none⟩ = some (.int .i64 r.k) := by rw [ax W _ 0 _ _ _ hbx]; rfl
 have b1 : W.cell? ⟨w.1.size, 1, none⟩ = some (.int .u64 r.t) := by rw [ax W _ 1 _ _ _ hbx]; rfl
 have b2 : W.cell? ⟨w.1.size, 2, none⟩ = some (.int .u64 r.x) := by rw [ax W _ 2 _ _ _ hbx]; rfl
 have b3 : W.cell? ⟨w.1.size, 3, none⟩ = some (.int .u64 r.w) := by rw [ax W _ 3 _ _ _ hbx]; rfl
 have b4 : W.cell? ⟨w.1.size, 4, none⟩ = some (.int .u64 r.n) := by rw [ax W _ 4 _ _ _ hbx]; rfl
 have b5 : W.cell? ⟨w.1.size, 5, none⟩ = some (.int .u64 r.v) := by rw [ax W _ 5 _ _ _ hbx]; rfl
 have b6 : W.cell? ⟨w.1.size, 6, none⟩ = some (.int .i64 k0) := by rw [ax W _ 6 _ _ _ hbx]; rfl
 have b7 : W.cell? ⟨w.1.size, 7, none⟩ = some (.int .u64 k1) := by rw [ax W _ 7 _ _ _ hbx]; rfl
 have b8 : W.cell? ⟨w.1.size, 8, none⟩ = some (.int .u64 k2) := by rw [ax W _ 8 _ _ _ hbx]; rfl
 have b9 : W.cell? ⟨w.1.size, 9, none⟩ = some (.slice k3 k4 k5) := by rw [ax W _ 9 _ _ _ hbx]; rfl
 have l0 : w.1.size < W.1.size := by omega
 rw [← hW];have HB0 := hid hB0;have HX := hid (au hbx hrb);clear hW hbx hrb hB0;refine dK (w0 := W) rfl [.eq (.pointer (some ⟨w.1.size, 0, none⟩)), .eq (.int .i64 r.k), .eq (.pointer (some ⟨w.1.size, 1, none⟩)), .eq (.int .u64 r.t), .eq (.pointer (some ⟨w.1.size, 2, none⟩)), .eq (.int .u64 r.x), .eq (.pointer (some ⟨w.1.size, 3, none⟩)), .eq (.agg #[.int .u64 r.w, .int .u64 r.n]), .eq (.agg #[.int .u64 r.w, .int .u64 r.n]), .eq (.pointer (some ⟨w.1.size, 5, none⟩)), .eq (.int .u64 r.v), .eq (.pointer (some ⟨w.1.size, 6, none⟩)), .eq (.agg #[.int .i64 k0, .int .u64 k1, .int .u64 k2, .slice k3 k4 k5]), .of (Gi r.p), .of (yZ r), .box 65 #[.int .i64 0, .int .u64 0, .int .u64 0, .int .u64 0, .int .u64 0, .int .u64 0, .int .i64 0, .int .u64 0, .int .u64 0, .slice none 0 0, .slice none 0 0], .sto 15 14] (by kernel_rfl) ⟨?_, ?_, ?_, ?_, ?_, ?_, ?_, ?_, ?_, ?_, ?_, ?_, ?_, ?_, ?_, ?_, ?_, ?_, ?_, trivial⟩ (fun vs => [(6, (.pointer (some ⟨w.1.size, 0, none⟩))), (7, (.int .i64 r.k)), (8, (.pointer (some ⟨w.1.size, 1, none⟩))), (9, (.int .u64 r.t)), (10, (.pointer (some ⟨w.1.size, 2, none⟩))), (11, (.int .u64 r.x)), (12, (.pointer (some ⟨w.1.size, 3, none⟩))), (13, (.agg #[.int .u64 r.w, .int .u64 r.n])), (14, (.agg #[.int .u64 r.w, .int .u64 r.n])), (15, (.pointer (some ⟨w.1.size, 5, none⟩))), (16, (.int .u64 r.v)), (17, (.pointer (some ⟨w.1.size, 6, none⟩))), (18, (.agg #[.int .i64 k0, .int .u64 k1, .int .u64 k2, .slice k3 k4 k5])), (19, vs 13), (20, vs 14), (3, vs 15)]) (fun _ => rfl) ?_
 ·refine rZ fun S a wx K Q hR hK => ?_
  have t1 : a.tmps[1]? = some (.pointer (some ⟨w.1.size, 0, none⟩)) := hR.o 1;go_simp;exact hK _ _ br rfl
 ·refine rZ fun S a wx K Q hR hK => ?_
  have t6 := hR.q 0;have y0 := (hR.bel.cell l0).trans b0;go_simp;exact hK _ _ br rfl
 ·refine rZ fun S a wx K Q hR hK => ?_
  have t1 : a.tmps[1]? = some (.pointer (some ⟨w.1.size, 0, none⟩)) := hR.o 1;go_simp;exact hK _ _ br rfl
 ·refine rZ fun S a wx K Q hR hK => ?_
  have t8 := hR.q 2;have y0 := (hR.bel.cell l0).trans b1;go_simp;exact hK _ _ br rfl
 ·refine rZ fun S a wx K Q hR hK => ?_
  have t1 : a.tmps[1]? = some (.pointer (some ⟨w.1.size, 0, none⟩)) := hR.o 1;go_simp;exact hK _ _ br rfl
 ·refine rZ fun S a wx K Q hR hK => ?_
  have t10 := hR.q 4;have y0 := (hR.bel.cell l0).trans b2;go_simp;exact hK _ _ br rfl
 ·refine rZ fun S a wx K Q hR hK => ?_
  have t1 : a.tmps[1]? = some (.pointer (some ⟨w.1.size, 0, none⟩)) := hR.o 1;go_simp;exact hK _ _ br rfl
 ·refine rZ fun S a wx K Q hR hK => ?_
  have t12 := hR.q 6;have y0 := (hR.bel.cell l0).trans b3;have y1 := (hR.bel.cell l0).trans b4;go_simp;exact hK _ _ br rfl
 ·refine rZ fun S a wx K Q hR hK => ?_
  have t13 := hR.q 7;go_simp
  go_at_call 50
  refine (lI _ _ _).mono ?_;rintro e w' ⟨rfl, hbx⟩;exact hK _ _ hbx rfl
 ·refine rZ fun S a wx K Q hR hK => ?_
  have t1 : a.tmps[1]? = some (.pointer (some ⟨w.1.size, 0, none⟩)) := hR.o 1;go_simp;exact hK _ _ br rfl
 ·refine rZ fun S a wx K Q hR hK => ?_
  have t15 := hR.q 9;have y0 := (hR.bel.cell l0).trans b5;go_simp;exact hK _ _ br rfl
 ·refine rZ fun S a wx K Q hR hK => ?_
  have t1 : a.tmps[1]? = some (.pointer (some ⟨w.1.size, 0, none⟩)) := hR.o 1;go_simp;exact hK _ _ br rfl
 ·refine rZ fun S a wx K Q hR hK => ?_
  have t17 := hR.q 11;have y0 := (hR.bel.cell l0).trans b6;have y1 := (hR.bel.cell l0).trans b7;have y2 := (hR.bel.cell l0).trans b8;have y3 := (hR.bel.cell l0).trans b9;go_simp;exact hK _ _ br rfl
 ·exact Ak _
 ·refine rZ fun S a wx K Q hR hK => ?_
  have t18 := hR.q 12;go_simp
  go_at_call 51
  refine (xU r.p.depth _ _ r.p _ _ nl hd hsz ((HH.out.1.below HB0.out nl).below hR.bel nl)).mono ?_;rintro e w' ⟨⟨vt, rfl, hvt⟩, hbt⟩;exact hK _ _ hbt (hvt.wider (fun b _ h => hR.new b h))
 ·exact AR _
 ·refine rZ fun S a wx K Q hR hK => ?_
  have t7 := hR.q 1;have t9 := hR.q 3;have t11 := hR.q 5;have t14 := hR.q 8;have t16 := hR.q 10;obtain ⟨u19, t19, f19⟩ := hR.f 13;obtain ⟨q0, q1, q2, q3, q4, q5, rfl⟩ := (show aT wx S true r.p u19 from f19).conc;go_simp;exact hK _ _ br (Ey f19)
 ·intro w; kernel_rfl
 ·exact StoOK.mk rfl rfl rfl hinf za
 intro S1 vs w1 hD;obtain ⟨gb, cs, egb, hg0, hg1, hgb, ecs, hnS⟩ := hD.box 16 15 14 _ _ rfl rfl;obtain ⟨c0, c1, c2, c3, ev, hp⟩ : yZ r S1 (vs 14) w1 := hD.ofs 14 _ rfl;rw [ecs] at ev;injection ev with ev
 have hb1 := hD.bel;have hlow := hD.low;obtain ⟨q0, q1, q2, q3, q4, q5, hq⟩ := hp.conc;simp only [Value.agg.injEq, Array.mk.injEq, List.cons.injEq, and_true] at hq;obtain ⟨rfl, rfl, rfl, rfl⟩ := hq;obtain ⟨hd10, hh10⟩ : ∃ hd10 : List Value, hd10 = [.int .i64 r.k, .int .u64 r.t, .int .u64 r.x, .int .u64 r.w, .int .u64 r.n, .int .u64 r.v, .int .i64 q0, .int .u64 q1, .int .u64 q2, .slice q3 q4 q5] := ⟨_, rfl⟩;have e10 : ∀ sv, mJ hd10 sv = #[.int .i64 r.k, .int .u64 r.t, .int .u64 r.x, .int .u64 r.w, .int .u64 r.n, .int .u64 r.v, .int .i64 q0, .int .u64 q1, .int .u64 q2, .slice q3 q4 q5, sv] := fun sv => by rw [hh10]; rfl
 have hgb' : w1.1[gb]? = some (.cells (mJ hd10 (.slice none 0 0)) 65 (0, 0)) := by rw [e10, ← ev]; exact hgb
 have hS1 : ∀ b, b < w1.1.size → S1 b → w.1.size + 2 ≤ b ∧ b < w1.1.size ∧ b ≠ gb := fun b hbl hb => ⟨by have := hlow b hb; omega, hbl, fun e => hnS (e ▸ hb)⟩
 have hz1 := hb1.size;have HP := hid (au (hp.wider hS1) (au hgb' (au e10 (au (HB0.out.trans (hb1.mono (by omega))) (au ((hb1.block _ (by omega)).trans HX.out.1) (au ((hb1.block _ (by omega)).trans HX.out.2) (by rw [hh10]; rfl : hd10.length = 10)))))));have egb' : vs 15 = .pointer (some ⟨gb, 0, none⟩) := egb;simp only [egb', bS, List.foldl_cons, List.foldl_nil];clear hD ev egb egb' ecs hgb hgb' hp hnS hlow hS1 b0 b1 b2 b3 b4 b5 b6 b7 b8 b9 hb1 hh10 e10;generalize vs 14 = v14;generalize vs 13 = v13;go_simp;obtain ⟨base, hbase⟩ : ∃ base, base = w1.1.size := ⟨_, rfl⟩;go_wp2_with fail
 go_loopw [4] (fun i wr => ∃ j : Nat, i = .int .i64 j ∧ EbR gb base r.es.length 65 130 hd10 r.es w1 j wr) (fun i _ => r.es.length - (intOf i).toNat)
 case atStart => exact ⟨0, rfl, ⟨by omega, ⟨.slice none 0 0, HP.out.2.1, World.ownsRow_nil _ _ _ _⟩, br, fun _ _ _ => rfl, by omega⟩⟩
 case round =>
  obtain ⟨j, rfl, hRel⟩ := hrel;have hjm := hRel.le;have hkx : wr.1[w.1.size]? = some _ := (hRel.keep _ (by omega) (by omega)).trans HP.out.2.2.2.2.1;have b10 : wr.cell? ⟨w.1.size, 10, none⟩ = some (.slice k6 r.es.length k7) := by rw [ax wr _ 10 _ _ _ hkx]; rfl
  have hbw : Below w.1.size w wr := HP.out.2.2.2.1.trans (hRel.bel.mono (by omega));by_cases hlt : j < r.es.length
  ·obtain ⟨bl, off, rfl, _, d0, d1, d2, d3, _⟩ := (HH.out.2.below hbw nl).part j hlt
   obtain ⟨sv, hgr, hown⟩ := hRel.ex;obtain ⟨sa, sc, rfl⟩ := aQ hown;have hsz2 := hRel.size;have HR := hid (au hgr (au hown (au hRel.bel (au hRel.keep hbw))));clear hRel hgr hown hbw hkx;go_wp2_with fail;obtain ⟨W2, hW2⟩ : ∃ W2, W2 = (wr.alloc (.cells #[.int .u64 r.es[j].x, .int .u64 r.es[j].w, .int .u64 r.es[j].n, .bool r.es[j].m] 135)) := ⟨_, rfl⟩;have hb2 : Below wr.1.size wr W2 := (by rw [hW2]; exact br.alloc nl _);have hx2 : W2.1[wr.1.size]? = some (.cells (eY r.es[j]) 135 (0, 0)) := (by rw [hW2]; exact aK _ _ _ rfl);have hz2 : W2.1.size = wr.1.size + 1 := (by rw [hW2]; simp);have hZ0 : EbZ gb wr.1.size base j 65 130 hd10 sa sc (r.es.take j) r.es[j] W2 0 (fun _ => undef) W2.drew := by
    obtain ⟨hgr, hown, hbel, hkeep, hbw⟩ := HR.out;exact ⟨⟨by omega, by omega, HP.out.2.2.2.2.2.2⟩, ⟨br.drew, Nat.le_refl _⟩, fun _ _ _ => rfl, fun _ => (hb2.block _ (by omega)).trans hgr, fun _ => ownsRow_below hown (hb2.trans br.drew) nl, fun _ => ⟨_, hx2⟩, (fun h => by omega), (fun h => by omega), (fun h => by omega)⟩
   have HZ0 := hid hZ0;have HB2 := hid hb2;rw [← hW2];clear hW2 hb2 hx2 hZ0 d0 d1 d2 d3;have hjl := hl;refine dC (w0 := W2) rfl [.eq (.pointer (some ⟨gb, 10, none⟩)), .eq (.slice sa j sc), .eq (.pointer (some ⟨wr.1.size, 0, none⟩)), .eq (.int .u64 (r.es[j].x : Nat)), .eq (.pointer (some ⟨wr.1.size, 1, none⟩)), .eq (.agg #[.int .u64 (r.es[j].w : Nat), .int .u64 (r.es[j].n : Nat)]), .weq (.agg #[.int .u64 (r.es[j].w : Nat), .int .u64 (r.es[j].n : Nat)]), .eq (.pointer (some ⟨wr.1.size, 3, none⟩)), .eq (.bool r.es[j].m), .eq (.agg #[.int .u64 (r.es[j].x : Nat), .int .u64 (r.es[j].w : Nat), .int .u64 (r.es[j].n : Nat), .bool r.es[j].m]), .wr, .wr, .eq (.pointer (some ⟨gb, 10, none⟩)), .wr] (EbZ gb wr.1.size base j 65 130 hd10 sa sc (r.es.take j) r.es[j] W2) (by kernel_rfl) (⟨fun _ => undef, HZ0.out⟩) ⟨?_, ?_, ?_, ?_, ?_, ?_, ?_, ?_, ?_, ?_, ?_, ?_, ?_, ?_, trivial⟩ (fun vs => [(33, .pointer (some ⟨gb, 10, none⟩)), (34, .slice sa j sc), (35, .pointer (some ⟨wr.1.size, 0, none⟩)), (36, .int .u64 (r.es[j].x : Nat)), (37, .pointer (some ⟨wr.1.size, 1, none⟩)), (38, .agg #[.int .u64 (r.es[j].w : Nat), .int .u64 (r.es[j].n : Nat)]), (39, .agg #[.int .u64 (r.es[j].w : Nat), .int .u64 (r.es[j].n : Nat)]), (40, .pointer (some ⟨wr.1.size, 3, none⟩)), (41, .bool r.es[j].m), (42, .agg #[.int .u64 (r.es[j].x : Nat), .int .u64 (r.es[j].w : Nat), .int .u64 (r.es[j].n : Nat), .bool r.es[j].m]), (43, vs 10), (44, vs 11), (45, .pointer (some ⟨gb, 10, none⟩))]) (fun _ => rfl) 4 (by kernel_rfl) ?_
   ·refine pZ fun t vs ac wx K Q hR hZ hK => ?_
    have t3 : ac.tmps[3]? = some (.pointer (some ⟨gb, 0, none⟩)) := hR.o 3;go_simp;exact hK _ hZ
   ·refine pZ fun t vs ac wx K Q hR hZ hK => ?_
    have t33 := hR.q 0;have y0 := (hZ.c10 (by have h : t ≤ 2 := hR.hi 11 .wr rfl rfl (by kernel_rfl); omega)).1;go_simp;exact hK _ hZ
   ·refine pZ fun t vs ac wx K Q hR hZ hK => ?_
    have t5 : ac.tmps[5]? = some (.pointer (some ⟨wr.1.size, 0, none⟩)) := hR.o 5;go_simp;exact hK _ hZ
   ·refine pZ fun t vs ac wx K Q hR hZ hK => ?_
    have t35 := hR.q 2;have y0 := (hZ.xs (by have h : t ≤ 1 := hR.hi 10 .wr rfl rfl (by kernel_rfl); omega)).1;go_simp;exact hK _ hZ
   ·refine pZ fun t vs ac wx K Q hR hZ hK => ?_
    have t5 : ac.tmps[5]? = some (.pointer (some ⟨wr.1.size, 0, none⟩)) := hR.o 5;go_simp;exact hK _ hZ
   ·refine pZ fun t vs ac wx K Q hR hZ hK => ?_
    have t37 := hR.q 4;have y0 := (hZ.xs (by have h : t ≤ 1 := hR.hi 10 .wr rfl rfl (by kernel_rfl); omega)).2.1;have y1 := (hZ.xs (by have h : t ≤ 1 := hR.hi 10 .wr rfl rfl (by kernel_rfl); omega)).2.2.1;go_simp;exact hK _ hZ
   ·refine wZ fun vs ac wx K Q hR hZ hK => ?_
    have t38 := hR.q 5;go_simp
    go_at_call 50
    refine (lI _ _ _).mono ?_;rintro e w' ⟨rfl, hbx⟩;exact hK _ _ gz (hZ.grow (by omega) ⟨by omega, by omega⟩ hbx)
   ·refine pZ fun t vs ac wx K Q hR hZ hK => ?_
    have t5 : ac.tmps[5]? = some (.pointer (some ⟨wr.1.size, 0, none⟩)) := hR.o 5;go_simp;exact hK _ hZ
   ·refine pZ fun t vs ac wx K Q hR hZ hK => ?_
    have t40 := hR.q 7;have y0 := (hZ.xs (by have h : t ≤ 1 := hR.hi 10 .wr rfl rfl (by kernel_rfl); omega)).2.2.2;go_simp;exact hK _ hZ
   ·refine pZ fun t vs ac wx K Q hR hZ hK => ?_
    have t36 := hR.q 3;have t39 := hR.weq 6 (by kernel_rfl) rfl rfl;have t41 := hR.q 8;go_simp;exact hK _ hZ
   ·refine wZ fun vs ac wx K Q hR hZ hK => ?_
    have t42 := hR.q 9;go_simp;exact hK _ _ nofun (hZ.build rfl rfl)
   ·refine wZ fun vs ac wx K Q hR hZ hK => ?_
    have t34 := hR.q 1;have t43 := hR.w 10;obtain ⟨bb, ev, hbb⟩ := hZ.one rfl;rw [ev] at t43;obtain ⟨hi0, hz0, hz1, hz2⟩ := HI.out;have hob := (hZ.own (by omega)).lt;have hrz := hZ.rg.2;refine wp_append_lies wx (.tmp 34) (.tmp 43) 63 rfl base 130 i0 _ 4 32 Tryz.underlying63 hi0 hz0 hz1 hz2 rfl (by omega) (.slice sa j sc) j (aZ (r.es.take j)) (gZ t34) (hZ.own (by omega)) ⟨bb, 0, none⟩ 1 1 (eY r.es[j]).toList (gZ t43) rfl (World.news_of_block hbb) (by simp [eY, Ent.cells, Value.oneCell']) (by omega) (by unfold maxLen; omega) (by omega) (by omega) wx.1.size rfl ?_;intro gg gcap w3 hown2 hgrow hat hlt3;rw [← gB] at hown2;exact hK _ _ nofun (hZ.app rfl rfl hown2 hgrow)
   ·refine pZ fun t vs ac wx K Q hR hZ hK => ?_
    have t3 : ac.tmps[3]? = some (.pointer (some ⟨gb, 0, none⟩)) := hR.o 3;go_simp;exact hK _ hZ
   ·refine wZ fun vs ac wx K Q hR hZ hK => ?_
    have t45 := hR.q 12;have t44 := hR.w 11;obtain ⟨gg, gcap, ev, ho⟩ := hZ.two (by omega);rw [ev] at t44;obtain ⟨c5, f5⟩ := hZ.c10 (by omega);have HO := hid ev;clear ev ho;go_simp;exact hK undef _ nofun (hZ.sto rfl (by omega) HO.out)
   intro vs wN hZ;simp only [bS, List.foldl_cons, List.foldl_nil];have HZ := hid hZ;obtain ⟨gg, gcap, ev, ho⟩ := hZ.two (by omega);rw [ev];clear hZ ev ho;generalize vs 10 = v10;go_simp;go_wp2_with fail;go_roundw
   case rel =>
    obtain ⟨hgr, hown, hbel, hkeep, hbw⟩ := HR.out;obtain ⟨gg2, gcap2, ev, ho⟩ := HZ.out.two (by omega);have hnew := HZ.out.new (by omega);rw [ev] at hnew;have hrz := HZ.out.rg.2;refine ⟨j + 1, by go_num, ⟨by omega, ⟨_, hnew, by rw [fH r.es j hlt]; exact ho⟩, hbel.trans ((HB2.out.mono (by omega)).trans HZ.out.rg.1), fun b hb hn => (HZ.out.keep b hb hn).trans ((HB2.out.block b (by omega)).trans (hkeep b hb hn)), by omega⟩⟩
   case measure => simp [intOf]; omega
  ·have hj2 : j = r.es.length := by omega
   subst hj2;obtain ⟨sv, hgr, hown⟩ := hRel.ex;rw [List.take_length] at hown;obtain ⟨sa, sc, rfl⟩ := aQ hown;rw [HP.out.2.2.1] at hgr;have hrb2 : wr.1[w.1.size + 1]? = some (.cells #[.int .i64 0, .int .u64 0, .int .u64 0, .int .u64 0, .int .u64 0, .int .u64 0, .int .i64 0, .int .u64 0, .int .u64 0, .slice none 0 0, .slice none 0 0] 65 (0, 0)) := (hRel.keep _ (by omega) (by omega)).trans HP.out.2.2.2.2.2.1;have HR := hid (au hgr (au hown (au hrb2 (au hbw hRel.keep))));clear hRel hgr hown hrb2 hbw hkx
   go_wp2_with (first
    | (refine wpList_load_row rfl 65 (.tmp 3) rfl gb rfl 65 _ (0, 0) _ HR.out.1 Tryz.underlying65 rfl (by kernel_rfl) ?_)
    | (refine wpList_store_row rfl 65 (.tmp 2) (.tmp 46) rfl rfl (w.1.size + 1) rfl _ rfl 65 _ HR.out.2.2.1 (by kernel_rfl) rfl (by simp [Value.oneCell']) ?_))
   obtain ⟨hgr, hown, hrb2, hbw, hkeep⟩ := HR.out;refine aC (v := .agg #[.int .i64 r.k, .int .u64 r.t, .int .u64 r.x, .int .u64 r.w, .int .u64 r.n, .int .u64 r.v, .int .i64 q0, .int .u64 q1, .int .u64 q2, .slice q3 q4 q5, .slice sa r.es.length sc]) (results_cell_row rfl _ _ (w.1.size + 1) 65 _ _ _ rfl (aB _ _ _ _ _ _ hrb2) Tryz.underlying65 rfl (by kernel_rfl)) rfl ⟨⟨_, rfl, ?_⟩, below_setRow hbw _ _ (by omega)⟩;have ho := Sl.of_owns hown (by omega);refine ⟨_, _, _, _, _, rfl, HN.out.1, HN.out.2.1, HN.out.2.2, aT.keep (w := wr) (S := fun b => w.1.size + 2 ≤ b ∧ b < w1.1.size ∧ b ≠ gb) (fun b hb _ => setRow_other _ _ _ _ (by omega)) (fun b _ hb => by omega) (aT.keep (w := w1) (fun b hb _ => hkeep b (by omega) hb.2.2) (fun b _ hb => hb) HP.out.1), ?_⟩;exact ho.keep (by omega) (fun b hb _ => setRow_other _ _ _ _ (by have := hb.2; omega)) (fun b _ hb => by have := hb.2; omega)
end Go.Proofs.YtlpgokcapdjgjaaGreatDoor
