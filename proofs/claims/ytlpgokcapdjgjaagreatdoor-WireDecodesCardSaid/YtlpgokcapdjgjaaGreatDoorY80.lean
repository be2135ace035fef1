/- Walks. -/
import Derived.Test.YtlpgokcapdjgjaaGreatDoorY74
import Derived.Test.YtlpgokcapdjgjaaGreatDoorYV21
import Derived.Laws.IdiomStrings
import Derived.Deep.CutRange
set_option maxHeartbeats 8000000
set_option maxRecDepth 100000
namespace Go.Proofs.YtlpgokcapdjgjaaGreatDoor
open Go.RowKit Go
set_option linter.unusedVariables false
set_option linter.unusedSimpArgs false
def Dl (v v' : Value) : Prop := Sim v v' ∨ ∃ b b', v = .bool b ∧ v' = .bool b'
structure Sp2 (W : World) (bx B : Nat) (row : Array Value) (S : Nat → Prop) (wr : World) : Prop where
 bel : Below B W wr
 keep : cz (fun b => ¬ S b) W wr
 soft : ∀ b o v, S b → W.cell? ⟨b, o, none⟩ = some v → ∃ v', wr.cell? ⟨b, o, none⟩ = some v' ∧ Dl v v'
 fro : ∀ b o, S b → b < W.1.size → wr.frozen? ⟨b, o, none⟩ = W.frozen? ⟨b, o, none⟩
 box : wr.1[bx]? = some (.cells row 73 (0, 0))
theorem Dl.int {v' : Value} {k : IntKind} {n : Int} (h : Dl (.int k n) v') : ∃ n', v' = .int k n' := by
 rcases h with (h | ⟨k1, a, b, h1, rfl⟩) | ⟨a, b, h1, _⟩
 ·exact ⟨n, h⟩
 ·simp only [Value.int.injEq] at h1; obtain ⟨rfl, _⟩ := h1; exact ⟨b, rfl⟩
 ·cases h1
theorem Dl.bool {v' : Value} {b : Bool} (h : Dl (.bool b) v') : ∃ b', v' = .bool b' := by
 rcases h with (h | ⟨k1, a, c, h1, rfl⟩) | ⟨a, c, h1, rfl⟩
 ·exact ⟨b, h⟩
 ·cases h1
 ·exact ⟨c, rfl⟩
theorem Sp2.set {W : World} {bx B : Nat} {row : Array Value} {S : Nat → Prop} {wr : World} (h : Sp2 W bx B row S wr) {bl off : Nat} (hS : S bl) (hB : B ≤ bl) (hx : bl ≠ bx) {u v : Value} (hu : W.cell? ⟨bl, off, none⟩ = some u) (huv : Dl u v) : Sp2 W bx B row S (wr.setCell ⟨bl, off, none⟩ v) := by
 refine ⟨h.bel.setCell (by simp; omega) _, h.keep.trans h.bel.size (fun b hb _ => ay _ _ _ _ (fun e => hb (by rw [e]; exact hS))), fun b o x hb hx => ?_, fun b o hb hl => ?_, ?_⟩
 ·obtain ⟨y, hy, hs⟩ := h.soft b o x hb hx
  by_cases e : (⟨bl, off, none⟩ : Addr) = ⟨b, o, none⟩
  ·rw [← e] at hx hy ⊢
   rw [hu] at hx;cases hx
   exact ⟨v, World.cell?_setCell_same _ _ _ hy, huv⟩
  ·exact ⟨y, by rw [aF _ _ _ _ e]; exact hy, hs⟩
 ·rw [World.frozen?_setCell]; exact h.fro b o hb hl
 ·rw [ay _ _ _ _ (fun e => hx e.symm)]; exact h.box
theorem Sp2.drew {W : World} {bx B : Nat} {row : Array Value} {S : Nat → Prop} {wr : World} (h : Sp2 W bx B row S wr) : Sp2 W bx B row S wr.drew :=
 ⟨h.bel.drew, h.keep, fun b o v hb hc => by simpa using h.soft b o v hb hc, fun b o hb hl => by simpa using h.fro b o hb hl, h.box⟩
theorem oJ (B : Nat) (S : Nat → Prop) (hSB : ∀ b, S b → B ≤ b) (r : Rec) (v : Value) (w : World) (hBN : B ≤ w.1.size) (hd : r.p.depth ≤ 900) (hr : bL w S true r v) :
  Calls Tryz.prog 33 #[v] w fun e w' => e = .returned (.tuple #[]) ∧ Below B w w' ∧ cz (fun b => ¬ S b) w w' := by
 obtain ⟨c0, c1, c2, c3, s, rfl, _, _, _, hp, he⟩ := hr;obtain ⟨_, ad, cp, rfl, _⟩ := he.shape;obtain ⟨row, hrow⟩ : ∃ row : Array Value, row = #[.int .i64 r.k, .int .u64 r.t, .int .u64 r.x, .int .u64 r.w, .int .u64 r.n, .int .u64 r.v, c0, c1, c2, c3, .slice ad r.es.length cp] := ⟨_, rfl⟩;rw [← hrow];have h0 := heap_alloc_new w (.cells row 73);have hb0 : Below w.1.size w (w.alloc (.cells row 73)) := br.alloc nl _;have hs0 : (w.alloc (.cells row 73)).1.size = w.1.size + 1 := aD _ _;have hp1 : aT (w.alloc (.cells row 73)) (fun b => S b ∧ b < w.1.size) true r.p (.agg #[c0, c1, c2, c3]) := aT.keep (fun b _ hl => hb0.block b hl) (fun b hb h => ⟨h, hb⟩) hp;have he1 : fQ (w.alloc (.cells row 73)) (fun b => S b ∧ b < w.1.size) true r.es (.slice ad r.es.length cp) := he.keep (fun b _ hl => hb0.block b hl) (fun b hb h => ⟨h, hb⟩);have HSH := hid (aT.shape hp1 900 hd);have HE := hid he1;have HB := hid (au hb0 hs0);clear hp he hp1 he1 hb0 hs0
 go_enter Tryz.func33, Tryz.ntmps33
 rw [hrow] at h0 HSH HE HB ⊢
 go_upto_region 1 with fail
 generalize w.alloc (.cells #[.int .i64 r.k, .int .u64 r.t, .int .u64 r.x, .int .u64 r.w, .int .u64 r.n, .int .u64 r.v, c0, c1, c2, c3, .slice ad r.es.length cp] 73) = W at h0 HSH HE HB ⊢;have g6 : W.cell? ⟨w.1.size, 6, none⟩ = some c0 := by rw [ax W _ 6 _ _ _ h0]; rfl
 have g7 : W.cell? ⟨w.1.size, 7, none⟩ = some c1 := by rw [ax W _ 7 _ _ _ h0]; rfl
 have g8 : W.cell? ⟨w.1.size, 8, none⟩ = some c2 := by rw [ax W _ 8 _ _ _ h0]; rfl
 have g9 : W.cell? ⟨w.1.size, 9, none⟩ = some c3 := by rw [ax W _ 9 _ _ _ h0]; rfl
 go_wp2_with fail;refine (uq B w.1.size (fun b => S b ∧ b < w.1.size) (fun b h => ⟨hSB b h.1, h.2⟩) 900 _ _ hBN (by have := HB.out.2; omega) HSH.out).mono ?_;rintro e w1 ⟨rfl, hsp⟩;have H1 : Hid (Sp2 W w.1.size B row (fun b => S b ∧ b < w.1.size) w1) := hid ⟨hsp.below, hsp.keeps, fun b o x hb hc => by obtain ⟨y, h1, h2⟩ := hsp.soft.1 b o x hb hc; exact ⟨y, h1, .inl h2⟩, hsp.soft.2, (hsp.keeps w.1.size (fun h => by have := h.2; omega) (ak h0).1).trans (by rw [hrow]; exact h0)⟩;clear hsp g6 g7 g8 g9 h0 HSH;have HSB := hid hSB;have HRW := hid hrow;clear hSB hrow;go_wp2_with fail
 go_loopw [2] (fun i wr => ∃ j : Nat, j ≤ r.es.length ∧ i = .int .i64 j ∧ Hid (Sp2 W w.1.size B row (fun b => S b ∧ b < w.1.size) wr)) (fun i _ => r.es.length - (intOf i).toNat)
 case atStart => exact ⟨0, by omega, rfl, H1⟩
 case round =>
  obtain ⟨j, hj, rfl, HQ⟩ := hrel;have g10 : wr.cell? ⟨w.1.size, 10, none⟩ = some (.slice ad r.es.length cp) := by rw [ax wr _ 10 _ _ _ HQ.out.box, HRW.out]; rfl
  by_cases hlt : j < r.es.length
  ·obtain ⟨bl, off, rfl, hS, x0, _, _, x3, xf⟩ := HE.out.part j hlt
   obtain ⟨v0, y0, s0⟩ := HQ.out.soft _ _ _ hS x0;obtain ⟨v3, y3, s3⟩ := HQ.out.soft _ _ _ hS x3;obtain ⟨n0, rfl⟩ := s0.int;obtain ⟨b3, rfl⟩ := s3.bool;have hbl : bl < W.1.size := (by have := HB.out.2; have := hS.2; omega);have f0 : wr.frozen? ⟨bl, off + j * 4, none⟩ = false := (by rw [HQ.out.fro _ _ hS hbl]; exact xf rfl 0 (by omega));have f3 : wr.frozen? ⟨bl, off + j * 4 + 3, none⟩ = false := (by rw [HQ.out.fro _ _ hS hbl]; exact xf rfl 3 (by omega));have z1 : (0 : Int) ≤ (j : Int) := (by omega);have z2 : (j : Int) < (r.es.length : Int) := (by omega);have hS4 : Sp2 W w.1.size B row (fun b => S b ∧ b < w.1.size) (wr.setCell ⟨bl, off + j * 4, none⟩ (.int .u64 (IntKind.u64.wrap (n0 + 1)))) := HQ.out.set hS (HSB.out bl hS.1) (by have := hS.2; omega) x0 (.inl (.inr ⟨_, _, _, rfl, rfl⟩));have m3 : (wr.setCell ⟨bl, off + j * 4, none⟩ (.int .u64 (IntKind.u64.wrap (n0 + 1)))).cell? ⟨bl, off + j * 4 + 3, none⟩ = some (.bool b3) := (by rw [aF _ _ _ _ (by simp)]; exact y3);have k3 : (wr.setCell ⟨bl, off + j * 4, none⟩ (.int .u64 (IntKind.u64.wrap (n0 + 1)))).frozen? ⟨bl, off + j * 4 + 3, none⟩ = false := (by rw [World.frozen?_setCell]; exact f3);have H4 := hid hS4;have HX3 := hid x3;have HSS := hid hS;clear x0 x3 xf s0 s3 hS4 hS y3 f3
   go_upto_region 6 with fail
   generalize (wr.setCell ⟨bl, off + j * 4, none⟩ (.int .u64 (IntKind.u64.wrap (n0 + 1)))) = w4 at H4 m3 k3 ⊢;have h10 : w4.cell? ⟨w.1.size, 10, none⟩ = some (.slice (some ⟨bl, off, none⟩) r.es.length cp) := (by rw [ax w4 _ 10 _ _ _ H4.out.box, HRW.out]; rfl);clear g10 y0 f0;have HN : Hid (Sp2 W w.1.size B row (fun b => S b ∧ b < w.1.size) (w4.drew.setCell ⟨bl, off + j * 4 + 3, none⟩ (.bool (!b3)))) := hid (H4.out.drew.set HSS.out (HSB.out bl HSS.out.1) (by have := HSS.out.2; omega) HX3.out (.inr ⟨_, _, rfl, rfl⟩))
   go_region
   go_wp2_with fail;go_roundw
   case rel => exact ⟨j + 1, by omega, by go_num, HN⟩
   case measure => simp [intOf]; omega
  ·have z2 : ¬ (j : Int) < (r.es.length : Int) := by omega
   have HF := hid (au ((HB.out.1.mono hBN).trans HQ.out.bel) (fun b (hb : ¬ S b) (hl : b < w.1.size) => (HQ.out.keep b (fun h => hb h.1) (by have := HB.out.2; omega)).trans (HB.out.1.block b hl)));go_wp2_with fail
   go_end0
   exact ⟨rfl, HF.out.1, HF.out.2⟩
def pRc (q : Rec) (S : Nat → Prop) (v : Value) (w : World) : Prop := bL w S true q v
theorem zB (q : Rec) : kW (pRc q) := fun S S' v w w' hk hs hS h => bL.keep (w := w) h hk hS
theorem vU (q : Rec) : q.same q = true := (Rec.same_iff q q).2 rfl
theorem bu.dropAt {w : World} {A : Nat → Prop} {hi : Nat} : ∀ {lo : Nat} {rs : List Rec} {ys : List Value} {j : Nat}, bu w A lo hi rs ys → j ≤ rs.length → bu w A lo hi (rs.drop j) (ys.drop (j * 11))
 | lo, rs, ys, 0, h, _ => by simpa using h
 | lo, [], ys, j + 1, h, hj => by simp at hj
 | lo, r :: rs, ys, j + 1, h, hj => by
  obtain ⟨cs, mid, rest, rfl, hc, hm, h1, h2⟩ := h;have hcl : cs.toList.length = 11 := by simpa using hc
  rw [List.drop_succ_cons, show (j + 1) * 11 = 11 + j * 11 by omega, ← List.drop_drop, List.drop_left' hcl];exact (bu.dropAt h2 (by simpa using hj)).lo hm
theorem bu.cut {w : World} {A : Nat → Prop} {lo hi j : Nat} {rs : List Rec} {ys : List Value} (hj : j < rs.length) (h : bu w A lo hi (rs.drop j) (ys.drop (j * 11))) :
  ∃ (cs : Array Value) (mid : Nat), cs.size = 11 ∧ lo ≤ mid ∧ bL w (fun b => A b ∧ lo ≤ b ∧ b < mid) true rs[j] (.agg cs) ∧ bu w A mid hi (rs.drop (j + 1)) (ys.drop ((j + 1) * 11)) ∧ ∀ k, k < 11 → ys[j * 11 + k]? = cs.toList[k]? := by
 rw [List.drop_eq_getElem_cons hj] at h;obtain ⟨cs, mid, rest, e, hc, hm, h1, h2⟩ := h;have hcl : cs.toList.length = 11 := by simpa using hc
 have hd : ys.drop ((j + 1) * 11) = rest := by rw [show (j + 1) * 11 = j * 11 + 11 by omega, ← List.drop_drop, e, List.drop_left' hcl]
 refine ⟨cs, mid, hc, hm, h1, ?_, fun k hk => ?_⟩
 ·rw [hd]
  exact h2
 ·rw [← List.getElem?_drop, e, List.getElem?_append_left (by omega)]
theorem Sl.cellAt {w : World} {S : Nat → Prop} {own : Bool} {n cap j : Nat} {ys : List Value} {ad : Option Addr} (h : Sl w S own 11 n ys (.slice ad n cap)) (hj : j < n) :
  ∃ bl off, ad = some ⟨bl, off, none⟩ ∧ S bl ∧ ∀ k, k < 11 → w.cell? ⟨bl, off + j * 11 + k, none⟩ = ys[j * 11 + k]? := by
 obtain ⟨bl, off, ha, hS, hc⟩ := Sl.cells h (by omega);have hl := h.1;refine ⟨bl, off, ha, hS, fun k hk => ?_⟩;rw [Nat.add_assoc, (hc (j * 11 + k) (by omega)).1, af (by omega)]
structure Fz (lo hi : Nat) (w w' : World) : Prop where
 os : w'.os = w.os
 tape : w'.tape = w.tape
 output : w'.output = w.output
 size : w.1.size ≤ w'.1.size
 keep : ∀ b, b < w.1.size → (b < lo ∨ hi ≤ b) → w'.1[b]? = w.1[b]?
theorem Fz.refl (lo hi : Nat) (w : World) : Fz lo hi w w := ⟨rfl, rfl, rfl, Nat.le_refl _, fun _ _ _ => rfl⟩
theorem Fz.trans {lo hi : Nat} {x y z : World} (h : Fz lo hi x y) (k : Fz lo hi y z) : Fz lo hi x z :=
 ⟨k.os.trans h.os, k.tape.trans h.tape, k.output.trans h.output, Nat.le_trans h.size k.size, fun b hb hn => (k.keep b (by have := h.size; omega) hn).trans (h.keep b hb hn)⟩
theorem Fz.of_below {lo hi : Nat} {w w' : World} (h : Below w.1.size w w') : Fz lo hi w w' := ⟨h.os, h.tape, h.output, h.size, fun b hb _ => h.block b hb⟩
theorem Fz.below {lo hi : Nat} {w w' : World} (h : Fz lo hi w w') (hl : lo ≤ w.1.size) : Below lo w w' := ⟨h.os, h.tape, h.output, h.size, fun b hb => h.keep b (by omega) (.inl hb)⟩
theorem Gf {w : World} {a : Addr} {v : Value} (h : w.cell? a = some v) : a.block < w.1.size := by
 unfold World.cell? at h;by_cases hb : a.block < w.1.size
 ·exact hb
 ·rw [Array.getElem?_eq_none (by omega)] at h
  simp at h
theorem xz (qs : List Rec) (lv rv : Value) (wl w : World) (BL base hi' : Nat) (A : Nat → Prop) (zs : List Value) (hq : ∀ q ∈ qs, q.p.depth ≤ 900 ∧ q.p.size ≤ 1000 ∧ q.es.length ≤ 100000) (hn : qs.length ≤ 100000) (hl : bE wl BL 73 lv qs) (hBL : BL ≤ wl.1.size) (hlw : Below wl.1.size wl w)
  (hs : Sl w (fun b => b < BL ∨ wl.1.size ≤ b) false 11 qs.length zs rv) (hrs : bu w A base hi' qs zs) (hi0 : hi' ≤ BL) :
  Calls Tryz.prog 10 #[lv, rv] w fun e w' => e = .returned (.bool true) ∧ Fz BL wl.1.size w w' := by
 obtain ⟨ys, hi, hhi, hown, hrl⟩ := hl;obtain ⟨la, lc, rfl⟩ := aQ hown;obtain ⟨ra, rc, rfl, _⟩ := (Sl.shape hs).2.2;obtain ⟨HLs, hHL⟩ : ∃ H, H = wl.1.size := ⟨_, rfl⟩;have hwz := hlw.size;have hlt := hown.lt;have hsl : Sl w _ true 11 qs.length ys (.slice la qs.length lc) := Sl.below (Sl.of_owns hown (by omega)) (by omega) hlw nl;have hrl' : bu w (fun b => (Value.slice la qs.length lc).ownBlock ≠ some b) BL hi qs ys := bu.keep (L := 0) (H := hi) (fun b _ _ _ h => hlw.block b h) (fun b _ ha _ _ => ha) (Nat.zero_le _) nl hrl;rw [← hHL] at hhi hs hwz hlt hBL ⊢;have HL := hid (au hhi (au hsl hrl'));have HR := hid (au hi0 (au hs hrs));have HQ := hid (au hq hlt);have t0 : ((qs.length : Int) != (qs.length : Int)) = false := by simp
 clear hown hrs hrl hrl' hsl hs hhi hi0 hq hlw hlt hHL
 go_enter Tryz.func10, Tryz.ntmps10
 go_wp2_with fail
 go_loopw [5] (fun i wr => ∃ (j m : Nat), i = .int .i64 (j : Nat) ∧ j ≤ qs.length ∧ BL ≤ m ∧ Fz BL HLs w wr ∧ (∀ b, (Value.slice la qs.length lc).ownBlock = some b → wr.1[b]? = w.1[b]?) ∧ bu wr (fun b => (Value.slice la qs.length lc).ownBlock ≠ some b) m hi (qs.drop j) (ys.drop (j * 11))) (fun i _ => qs.length - (intOf i).toNat)
 case atStart => exact ⟨0, BL, rfl, by omega, Nat.le_refl _, Fz.refl _ _ _, fun _ _ => rfl, by simpa using HL.out.2.2⟩
 case round =>
  obtain ⟨j, m, rfl, hj, hm, hbel, hrow, hrest⟩ := hrel;have hsz := hbel.size;by_cases hlt : j < qs.length
  ·obtain ⟨cs, mid, hcs, hmid, hv1, hrest2, hc1⟩ := bu.cut hlt hrest
   obtain ⟨cs', mx, mx', e1, hcs', _, _, hmx, hv2, _⟩ := HR.out.2.2.at j hlt;obtain ⟨gl, ol, rfl, hS1, hd1⟩ := HL.out.2.1.cellAt hlt;obtain ⟨gr, og, rfl, hS2, hd2⟩ := HR.out.2.1.cellAt hlt;have hgl := HQ.out.2 gl rfl;have hgr : gr < w.1.size := by
    have h := hd2 0 (by omega);rw [af (by have h1 := HR.out.2.1.1; omega)] at h;exact Gf h
   have hbk : ∀ b, b < w.1.size → b < BL ∨ HLs ≤ b → wr.1[b]? = w.1[b]? := hbel.keep;obtain ⟨q, hq⟩ : ∃ q, q = qs[j] := ⟨_, rfl⟩;rw [← hq] at hv1 hv2;have hv2' : bL wr (fun b => b < BL) true q (.agg cs') := hv2.keep (fun b hb hl => hbk b hl (.inl (by have := HR.out.1; omega))) (fun b hl hb => by have := HR.out.1; omega);obtain ⟨k0, k1, k2, k3, k4, k5, k6, k7, ek, _⟩ := hv1.conc;obtain ⟨m0, m1, m2, m3, m4, m5, m6, m7, em, _⟩ := hv2'.conc;obtain rfl := (Value.agg.inj ek);obtain rfl := (Value.agg.inj em);have hd1' : ∀ k, k < 11 → wr.cell? ⟨gl, ol + j * 11 + k, none⟩ = (#[.int .i64 q.k, .int .u64 (q.t : Nat), .int .u64 (q.x : Nat), .int .u64 (q.w : Nat), .int .u64 (q.n : Nat), .int .u64 (q.v : Nat), .int .i64 k0, .int .u64 (k1 : Nat), .int .u64 (k2 : Nat), .slice k3 k4 k5, .slice k6 q.es.length k7] : Array Value).toList[k]? := fun k hk => by
    rw [← hc1 k hk, ← hd1 k hk];unfold World.cell?;rw [hrow gl rfl]
   have hd2' : ∀ k, k < 11 → wr.cell? ⟨gr, og + j * 11 + k, none⟩ = (#[.int .i64 q.k, .int .u64 (q.t : Nat), .int .u64 (q.x : Nat), .int .u64 (q.w : Nat), .int .u64 (q.n : Nat), .int .u64 (q.v : Nat), .int .i64 m0, .int .u64 (m1 : Nat), .int .u64 (m2 : Nat), .slice m3 m4 m5, .slice m6 q.es.length m7] : Array Value).toList[k]? := fun k hk => by
    rw [show wr.cell? ⟨gr, og + j * 11 + k, none⟩ = w.cell? ⟨gr, og + j * 11 + k, none⟩ by (unfold World.cell?; rw [hbk gr hgr hS2]), hd2 k hk, ← e1, List.getElem?_take, if_pos hk, List.getElem?_drop]
   have HD : Hid (q.p.depth ≤ 1000 ∧ q.p.size ≤ 1000 ∧ q.es.length ≤ 100000) := hid (by have h := HQ.out.1 q (by rw [hq]; exact List.getElem_mem _); exact ⟨by omega, h.2.1, h.2.2⟩);have HV : Hid (bL wr (fun b => (Value.slice (some ⟨gl, ol, none⟩) qs.length lc).ownBlock ≠ some b ∧ m ≤ b ∧ b < mid) true q (.agg #[.int .i64 q.k, .int .u64 (q.t : Nat), .int .u64 (q.x : Nat), .int .u64 (q.w : Nat), .int .u64 (q.n : Nat), .int .u64 (q.v : Nat), .int .i64 k0, .int .u64 (k1 : Nat), .int .u64 (k2 : Nat), .slice k3 k4 k5, .slice k6 q.es.length k7]) ∧ bL wr (fun b => b < BL) true q (.agg #[.int .i64 q.k, .int .u64 (q.t : Nat), .int .u64 (q.x : Nat), .int .u64 (q.w : Nat), .int .u64 (q.n : Nat), .int .u64 (q.v : Nat), .int .i64 m0, .int .u64 (m1 : Nat), .int .u64 (m2 : Nat), .slice m3 m4 m5, .slice m6 q.es.length m7])) := hid ⟨hv1, hv2'⟩;have llt : gl < wr.1.size := (by omega);have rlt : gr < wr.1.size := (by omega);have i0 : (0 : Int) ≤ (j : Int) := (by omega);have i1 : (j : Int) < (qs.length : Int) := (by omega);have c0 := hd1' 0 (by omega);have c1 := hd1' 1 (by omega);have c2 := hd1' 2 (by omega);have c3 := hd1' 3 (by omega);have c4 := hd1' 4 (by omega);have c5 := hd1' 5 (by omega);have c6 := hd1' 6 (by omega);have c7 := hd1' 7 (by omega);have c8 := hd1' 8 (by omega);have c9 := hd1' 9 (by omega);have c10 := hd1' 10 (by omega);have d0 := hd2' 0 (by omega);have d1 := hd2' 1 (by omega);have d2 := hd2' 2 (by omega);have d3 := hd2' 3 (by omega);have d4 := hd2' 4 (by omega);have d5 := hd2' 5 (by omega);have d6 := hd2' 6 (by omega);have d7 := hd2' 7 (by omega);have d8 := hd2' 8 (by omega);have d9 := hd2' 9 (by omega);have d10 := hd2' 10 (by omega);simp only [Nat.add_zero, List.getElem?_cons_zero, List.getElem?_cons_succ] at c0 c1 c2 c3 c4 c5 c6 c7 c8 c9 c10 d0 d1 d2 d3 d4 d5 d6 d7 d8 d9 d10;have HI := hid (au hbel (au hrow (au hrest2 (au hmid hm))));have HQQ := hid hq;clear hbel hrow hrest hrest2 hmid hm hq e1 hc1 hd1 hd2 hd1' hd2' hv1 hv2 hv2' hbk ek em hcs hcs' hS1 hS2
   go_upto_region 6 with fail
   refine dK (w0 := wr) rfl [.eq (.slice (some ⟨gl, ol, none⟩) qs.length lc), .eq (.int .i64 (j : Nat)), .eq (.pointer (some ⟨gl, ol + j * 11, none⟩)), .eq (.agg #[.int .i64 q.k, .int .u64 (q.t : Nat), .int .u64 (q.x : Nat), .int .u64 (q.w : Nat), .int .u64 (q.n : Nat), .int .u64 (q.v : Nat), .int .i64 k0, .int .u64 (k1 : Nat), .int .u64 (k2 : Nat), .slice k3 k4 k5, .slice k6 q.es.length k7]), .of (pRc q), .eq (.slice (some ⟨gr, og, none⟩) qs.length rc), .eq (.int .i64 (j : Nat)), .eq (.pointer (some ⟨gr, og + j * 11, none⟩)), .eq (.agg #[.int .i64 q.k, .int .u64 (q.t : Nat), .int .u64 (q.x : Nat), .int .u64 (q.w : Nat), .int .u64 (q.n : Nat), .int .u64 (q.v : Nat), .int .i64 m0, .int .u64 (m1 : Nat), .int .u64 (m2 : Nat), .slice m3 m4 m5, .slice m6 q.es.length m7]), .eq (.bool true), .eq (.bool false)] (by kernel_rfl) ⟨?_, ?_, ?_, ?_, ?_, ?_, ?_, ?_, ?_, ?_, ?_, ?_, trivial⟩ (fun vs => [(17, (.slice (some ⟨gl, ol, none⟩) qs.length lc)), (18, (.int .i64 (j : Nat))), (19, (.pointer (some ⟨gl, ol + j * 11, none⟩))), (20, (.agg #[.int .i64 q.k, .int .u64 (q.t : Nat), .int .u64 (q.x : Nat), .int .u64 (q.w : Nat), .int .u64 (q.n : Nat), .int .u64 (q.v : Nat), .int .i64 k0, .int .u64 (k1 : Nat), .int .u64 (k2 : Nat), .slice k3 k4 k5, .slice k6 q.es.length k7])), (21, vs 4), (22, (.slice (some ⟨gr, og, none⟩) qs.length rc)), (23, (.int .i64 (j : Nat))), (24, (.pointer (some ⟨gr, og + j * 11, none⟩))), (25, (.agg #[.int .i64 q.k, .int .u64 (q.t : Nat), .int .u64 (q.x : Nat), .int .u64 (q.w : Nat), .int .u64 (q.n : Nat), .int .u64 (q.v : Nat), .int .i64 m0, .int .u64 (m1 : Nat), .int .u64 (m2 : Nat), .slice m3 m4 m5, .slice m6 q.es.length m7])), (26, (.bool true)), (27, (.bool false))]) (fun _ => rfl) ?_
   ·refine rZ fun S a wx K Q hR hK => ?_
    have t0 : a.tmps[0]? = some (.slice (some ⟨gl, ol, none⟩) qs.length lc) := hR.o 0;go_simp;exact hK _ _ br rfl
   ·refine rZ fun S a wx K Q hR hK => ?_
    have t5 : a.tmps[5]? = some (.int .i64 (j : Nat)) := hR.o 5;go_simp;exact hK _ _ br rfl
   ·refine rZ fun S a wx K Q hR hK => ?_
    have t17 := hR.q 0;have t18 := hR.q 1;go_simp;exact hK _ _ br rfl
   ·refine rZ fun S a wx K Q hR hK => ?_
    have t19 := hR.q 2;have y0 := (hR.bel.cell llt).trans c0;have y1 := (hR.bel.cell llt).trans c1;have y2 := (hR.bel.cell llt).trans c2;have y3 := (hR.bel.cell llt).trans c3;have y4 := (hR.bel.cell llt).trans c4;have y5 := (hR.bel.cell llt).trans c5;have y6 := (hR.bel.cell llt).trans c6;have y7 := (hR.bel.cell llt).trans c7;have y8 := (hR.bel.cell llt).trans c8;have y9 := (hR.bel.cell llt).trans c9;have y10 := (hR.bel.cell llt).trans c10;go_simp;exact hK _ _ br rfl
   ·exact zB q
   ·refine rZ fun S a wx K Q hR hK => ?_
    have t20 := hR.q 3;go_simp
    go_at_call 26
    go_fit (mK _ true q _ _ HD.out.1 HD.out.2.1 HD.out.2.2 (HV.out.1.below hR.bel nl))
    rintro e w9 ⟨⟨v9, rfl, hv9⟩, hb9⟩;exact hK _ _ hb9 (hv9.wider (fun b _ hb => hR.new b hb))
   ·refine rZ fun S a wx K Q hR hK => ?_
    have t1 : a.tmps[1]? = some (.slice (some ⟨gr, og, none⟩) qs.length rc) := hR.o 1;go_simp;exact hK _ _ br rfl
   ·refine rZ fun S a wx K Q hR hK => ?_
    have t5 : a.tmps[5]? = some (.int .i64 (j : Nat)) := hR.o 5;go_simp;exact hK _ _ br rfl
   ·refine rZ fun S a wx K Q hR hK => ?_
    have t22 := hR.q 5;have t23 := hR.q 6;go_simp;exact hK _ _ br rfl
   ·refine rZ fun S a wx K Q hR hK => ?_
    have t24 := hR.q 7;have y0 := (hR.bel.cell rlt).trans d0;have y1 := (hR.bel.cell rlt).trans d1;have y2 := (hR.bel.cell rlt).trans d2;have y3 := (hR.bel.cell rlt).trans d3;have y4 := (hR.bel.cell rlt).trans d4;have y5 := (hR.bel.cell rlt).trans d5;have y6 := (hR.bel.cell rlt).trans d6;have y7 := (hR.bel.cell rlt).trans d7;have y8 := (hR.bel.cell rlt).trans d8;have y9 := (hR.bel.cell rlt).trans d9;have y10 := (hR.bel.cell rlt).trans d10;go_simp;exact hK _ _ br rfl
   ·refine rZ fun S a wx K Q hR hK => ?_
    obtain ⟨u21, t21, f21⟩ := hR.f 4;have t25 := hR.q 8;go_simp
    go_at_call 25
    go_fit (om _ _ true true q q _ _ _ HD.out.1 (show bL wx _ true q _ from f21) (HV.out.2.below hR.bel nl))
    rintro e w9 ⟨rfl, hb9⟩;rw [vU q];exact hK _ _ hb9 rfl
   ·refine rZ fun S a wx K Q hR hK => ?_
    have t26 := hR.q 9;go_simp;exact hK _ _ br rfl
   intro S1 vs w1 hD;have HB1 := hid hD.bel;simp only [bS, List.foldl_cons, List.foldl_nil];clear hD;replace c0 := (HB1.out.cell llt).trans c0;replace c1 := (HB1.out.cell llt).trans c1;replace c2 := (HB1.out.cell llt).trans c2;replace c3 := (HB1.out.cell llt).trans c3;replace c4 := (HB1.out.cell llt).trans c4;replace c5 := (HB1.out.cell llt).trans c5;replace c6 := (HB1.out.cell llt).trans c6;replace c7 := (HB1.out.cell llt).trans c7;replace c8 := (HB1.out.cell llt).trans c8;replace c9 := (HB1.out.cell llt).trans c9;replace c10 := (HB1.out.cell llt).trans c10;have HS := hid (oJ BL (fun b => (Value.slice (some ⟨gl, ol, none⟩) qs.length lc).ownBlock ≠ some b ∧ m ≤ b ∧ b < mid) (fun b hb => by have := HI.out.2.2.2.2; omega) q _ w1 (by have := HB1.out.size; omega) (by have h := HQ.out.1 q (by rw [HQQ.out]; exact List.getElem_mem _); exact h.1) (HV.out.1.below HB1.out nl));clear d0 d1 d2 d3 d4 d5 d6 d7 d8 d9 d10;go_simp;go_wp2_with fail;refine HS.out.mono ?_;rintro e w2 ⟨rfl, hb2, hk2⟩;have HK := hid (au hb2 hk2);clear hb2 hk2;go_wp2_with fail;go_roundw
   case rel =>
    have hz1 := HB1.out.size;refine ⟨j + 1, mid, by go_num, by omega, by have := HI.out.2.2.2; omega, HI.out.1.trans ((Fz.of_below HB1.out).trans ⟨HK.out.1.os, HK.out.1.tape, HK.out.1.output, HK.out.1.size, fun b hbl hbn => HK.out.2 b (fun h => by have := HI.out.2.2; have := HI.out.2.2.1.le; have := HL.out.1; omega) hbl⟩), fun b hb => ?_, ?_⟩
    ·have hbe : gl = b := by simpa [Value.ownBlock] using hb
     subst hbe;exact (HK.out.2 gl (fun h => h.1 rfl) (by omega)).trans ((HB1.out.block gl (by omega)).trans (HI.out.2.1 gl rfl))
    ·have hmh := HI.out.2.2.1.le
     refine bu.keep (L := mid) (H := hi) (fun b ha h1 h2 hl => ?_) (fun b _ ha _ _ => ha) nl nl HI.out.2.2.1;exact (HK.out.2 b (fun h => by omega) (by omega)).trans (HB1.out.block b hl)
   case measure => simp [intOf]; omega
  ·have hj2 : j = qs.length := by omega
   subst hj2;have HE := hid hbel;clear hbel hrow hrest;go_wp2_with fail;go_ret
   exact ⟨rfl, HE.out⟩
end Go.Proofs.YtlpgokcapdjgjaaGreatDoor
