/- Walks. -/
import Derived.Laws.StructEq
import Derived.Test.YtlpgokcapdjgjaaGreatDoorY48
import Derived.IntWalk
import Derived.Test.YtlpgokcapdjgjaaGreatDoorY10
import Derived.Deep.RegionWith
import Derived.ArgAppend
set_option maxHeartbeats 8000000
set_option maxRecDepth 100000
namespace Go.Proofs.YtlpgokcapdjgjaaGreatDoor
open Go.RowKit Go
set_option linter.unusedVariables false
set_option linter.unusedSimpArgs false
theorem Ent.eq_iff (a b : Ent) : a = b ↔ a.x = b.x ∧ a.w = b.w ∧ a.n = b.n ∧ a.m = b.m := by cases a; cases b; simp
theorem Eb (a b : Ent) (w : World) : (binOp .neq 135 (.agg #[.int .u64 a.x, .int .u64 a.w, .int .u64 a.n, .bool a.m]) (.agg #[.int .u64 b.x, .int .u64 b.w, .int .u64 b.n, .bool b.m])).run Tryz.prog w = .ok (.bool (!decide (a = b))) w := by
 have hn : ∀ (d : Nat) (xs ys : Array Value) (w : World), (Op.equalIn (d + 1) 67 (.agg xs) (.agg ys)).run Tryz.prog w = (Op.eqFields d xs ys (Tryz.prog.fieldsOf 67).toList).run Tryz.prog w := fun d xs ys w => run_equalIn_agg w d 67 xs ys (by kernel_rfl) (by kernel_rfl)
 rw [run_neq_struct, show (10000 : Nat) = 9999 + 1 from rfl, run_equalIn_agg w 9999 135 _ _ (by kernel_rfl) (by kernel_rfl)];simp only [Program.fieldsOf, Tryz.underlying135];go_simp;have hc : ∀ p q : Nat, ((p : Int) = (q : Int)) ↔ p = q := fun p q => Int.ofNat_inj
 simp only [hc, Ent.eq_iff];by_cases h1 : a.x = b.x <;> by_cases h2 : a.w = b.w <;> by_cases h3 : a.n = b.n <;> by_cases h4 : a.m = b.m <;> simp [h1, h2, h3, h4]
theorem wW (S S' : Nat → Prop) (own own' : Bool) (es es' : List Ent) (ad ad' : Option Addr) (n n' cap cap' : Nat) (w : World) (hn : n = es.length) (hn' : n' = es'.length) (h : fQ w S own es (.slice ad n cap)) (h' : fQ w S' own' es' (.slice ad' n' cap')) :
  Calls Tryz.prog 130 #[.slice ad n cap, .slice ad' n' cap'] w fun e w' => e = .returned (.bool (decide (es = es'))) ∧ Below w.1.size w w' := by
 subst hn hn';have hl := h.shape.1;have hl' := h'.shape.1;have HH := hid (au h h');clear h h';by_cases hlen : es.length = es'.length
 ·have t1 : ((es.length : Int) != (es'.length : Int)) = false := by simp [hlen]
  have HL := hid hlen;clear hlen
  go_enter Tryz.func130, Tryz.ntmps130
  go_wp2_with fail
  go_loopw [13] (fun i wr => ∃ j : Nat, i = .int .i64 j ∧ j ≤ es.length ∧ es.take j = es'.take j ∧ Below w.1.size w wr) (fun i _ => es.length - (intOf i).toNat)
  case atStart => exact ⟨0, rfl, by omega, by simp, br⟩
  case round =>
   obtain ⟨j, rfl, hj, heq, hb⟩ := hrel;have HB := hid hb;have HE := hid heq;by_cases hlt : j < es.length
   ·have hlt' : j < es'.length := by have := HL.out; omega
    obtain ⟨bl, off, rfl, _, c0, c1, c2, c3, _⟩ := (HH.out.1.below hb nl).part j hlt;obtain ⟨bl', off', rfl, _, d0, d1, d2, d3, _⟩ := (HH.out.2.below hb nl).part j hlt';clear hb heq;have hm : Tryz.prog.eqGuardType Tryz.prog.depth 135 = false := (by kernel_rfl);by_cases he : es[j] = es'[j]
    ·have hq : ∀ W, (binOp .neq 135 (.agg #[.int .u64 es[j].x, .int .u64 es[j].w, .int .u64 es[j].n, .bool es[j].m]) (.agg #[.int .u64 es'[j].x, .int .u64 es'[j].w, .int .u64 es'[j].n, .bool es'[j].m])).run Tryz.prog W = .ok (.bool false) W := fun W => by rw [Eb, decide_eq_true he]; rfl
     have HX := hid he;clear he;go_wp2_with fail
     go_quiet (fail)
     go_wp2_with fail;go_roundw
     case rel => exact ⟨j + 1, by go_num, by omega, iG _ _ j hlt hlt' HE.out HX.out, below_drewN HB.out _⟩
     case measure => simp [intOf]; omega
    ·have hq : ∀ W, (binOp .neq 135 (.agg #[.int .u64 es[j].x, .int .u64 es[j].w, .int .u64 es[j].n, .bool es[j].m]) (.agg #[.int .u64 es'[j].x, .int .u64 es'[j].w, .int .u64 es'[j].n, .bool es'[j].m])).run Tryz.prog W = .ok (.bool true) W := fun W => by rw [Eb, decide_eq_false he]; rfl
     have HX := hid he;clear he;go_wp2_with fail
     go_quiet (fail)
     go_wp2_with fail;go_ret
     exact ⟨aR (by rw [decide_eq_false]; intro e; subst e; exact HX.out rfl), below_drewN HB.out _⟩
   ·have hj2 : j = es.length := by omega
    subst hj2;clear hb heq;go_wp2_with fail;go_ret
    refine ⟨aR ?_, HB.out⟩;have h1 := HE.out;rw [List.take_length, HL.out, List.take_length] at h1;rw [decide_eq_true h1]
 ·have t1 : ((es.length : Int) != (es'.length : Int)) = true := by simp; omega
  go_enter Tryz.func130, Tryz.ntmps130
  go_wp2_with fail;go_ret
  exact ⟨aR (by rw [decide_eq_false]; intro e; exact hlen (by rw [e])), br⟩
theorem Ec (a b a' b' : Nat) (w : World) : (binOp .eql 67 (.agg #[.int .u64 a, .int .u64 b]) (.agg #[.int .u64 a', .int .u64 b'])).run Tryz.prog w = .ok (.bool (decide (a = a' ∧ b = b'))) w := by
 rw [run_eql_struct, show (10000 : Nat) = 9999 + 1 from rfl, run_equalIn_agg w 9999 67 _ _ (by kernel_rfl) (by kernel_rfl)];simp only [Program.fieldsOf, Tryz.underlying67];go_simp;have hc : ∀ p q : Nat, ((p : Int) = (q : Int)) ↔ p = q := fun p q => Int.ofNat_inj
 simp only [hc];by_cases h1 : a = a' <;> by_cases h2 : b = b' <;> simp [h1, h2]
theorem Ed (a b a' b' : Nat) (w : World) : (binOp .eql 59 (.agg #[.int .u64 a, .int .u64 b]) (.agg #[.int .u64 a', .int .u64 b'])).run Tryz.prog w = .ok (.bool (decide (a = a' ∧ b = b'))) w := by
 rw [run_eql_struct, show (10000 : Nat) = 9999 + 1 from rfl, run_equalIn_agg w 9999 59 _ _ (by kernel_rfl) (by kernel_rfl)];simp only [Program.fieldsOf, Tryz.underlying59];go_simp;have hc : ∀ p q : Nat, ((p : Int) = (q : Int)) ↔ p = q := fun p q => Int.ofNat_inj
 simp only [hc];by_cases h1 : a = a' <;> by_cases h2 : b = b' <;> simp [h1, h2]
theorem eO {a b : Rec} (h : a ≠ b) : a.same b = false := by
 cases hs : a.same b with
 | false => rfl
 | true => exact absurd ((Rec.same_iff a b).1 hs) h
theorem qm (S S' : Nat → Prop) (own own' : Bool) (a b : Rec) (v v' : Value) (w : World) (hv : bL w S own a v) (hv' : bL w S' own' b v') :
  Calls Tryz.prog 89 #[v, v'] w fun e w' => e = .returned (.bool (a.same b)) ∧ Below w.1.size w w' := by
 obtain ⟨k0, k1, k2, k3, k4, k5, k6, k7, rfl, ha1, ha2, han, hae, has⟩ := hv.conc;obtain ⟨m0, m1, m2, m3, m4, m5, m6, m7, rfl, hb1, hb2, hbn, hbe, hbs⟩ := hv'.conc;have hm : Tryz.prog.eqGuardType Tryz.prog.depth 67 = false := by kernel_rfl
 have hB : ∀ o o', Below w.1.size w ((w.alloc o).alloc o') := fun o o' => (br.alloc nl _).alloc (by simp) _
 have HH := hid (au hae (au has (au hbe hbs)));have HB := hid hB;clear hv hv' hae has hbe hbs hB han hbn;by_cases h1 : a.k = b.k
 ·have t1 : (a.k == b.k) = true := by simp [h1]
  have H1 := hid h1;clear h1;by_cases h2 : a.t = b.t
  ·have t2 : ((a.t : Int) == (b.t : Int)) = true := by simp [h2]
   have H2 := hid h2;clear h2;by_cases h3 : a.x = b.x
   ·have t3 : ((a.x : Int) == (b.x : Int)) = true := by simp [h3]
    have H3 := hid h3;clear h3;by_cases h4 : a.w = b.w ∧ a.n = b.n
    ·have t4 : ∀ W, (binOp .eql 67 (.agg #[.int .u64 a.w, .int .u64 a.n]) (.agg #[.int .u64 b.w, .int .u64 b.n])).run Tryz.prog W = .ok (.bool true) W := fun W => by rw [Ec, decide_eq_true h4]
     have H4 := hid h4;clear h4;by_cases h5 : a.v = b.v
     ·have t5 : ((a.v : Int) == (b.v : Int)) = true := by simp [h5]
      have H5 := hid h5;clear h5
      go_enter Tryz.func89, Tryz.ntmps89
      go_wp2_with fail;refine (wE a.p.depth S S' own own' a.p b.p _ _ _ nl (HH.out.1.below (HB.out _ _) nl) (HH.out.2.2.1.below (HB.out _ _) nl)).mono ?_;rintro e w1 ⟨rfl, hb1⟩;cases hp : a.p.same b.p with
      | false =>
       have HS := hid (eO (a := a) (b := b) (fun e => by rw [e, Ex.same_refl] at hp; cases hp));have HB1 := hid ((HB.out _ _).trans (hb1.mono (by simp; omega)));clear hb1;go_wp2_with fail;go_ret
       exact ⟨aR HS.out.symm, HB1.out⟩
      | true =>
       have HP := hid hp;obtain ⟨hc, hf⟩ := xE hb1;have hz1 : w.1.size + 1 < w1.1.size := (by have := hb1.size; simp at this; omega);have HB1 := hid ((HB.out _ _).trans (hb1.mono (by simp; omega)));clear hb1 hp;go_wp2_with fail;refine (wW S S' own own' a.es b.es _ _ _ _ _ _ _ rfl rfl (HH.out.2.1.below HB1.out nl) (HH.out.2.2.2.below HB1.out nl)).mono ?_;rintro e w2 ⟨rfl, hb2⟩;have HB2 := hid (HB1.out.trans (hb2.mono HB1.out.size));clear hb2;go_wp2_with fail;go_ret
       refine ⟨aR ?_, HB2.out⟩;simp [Rec.same, H1.out, H2.out, H3.out, H4.out.1, H4.out.2, H5.out, HP.out]
     ·have hs := eO (a := a) (b := b) (fun e => h5 (by rw [e]))
      have HS := hid hs;have t5 : ((a.v : Int) == (b.v : Int)) = false := (by simp; omega);clear hs
      go_enter Tryz.func89, Tryz.ntmps89
      go_wp2_with fail;go_ret
      exact ⟨aR HS.out.symm, HB.out _ _⟩
    ·have hs := eO (a := a) (b := b) (fun e => h4 (by rw [e]; simp))
     have HS := hid hs;have t4 : ∀ W, (binOp .eql 67 (.agg #[.int .u64 a.w, .int .u64 a.n]) (.agg #[.int .u64 b.w, .int .u64 b.n])).run Tryz.prog W = .ok (.bool false) W := fun W => by rw [Ec, decide_eq_false h4]
     clear hs h4
     go_enter Tryz.func89, Tryz.ntmps89
     go_wp2_with fail;go_ret
     exact ⟨aR HS.out.symm, HB.out _ _⟩
   ·have hs := eO (a := a) (b := b) (fun e => h3 (by rw [e]))
    have HS := hid hs;have t3 : ((a.x : Int) == (b.x : Int)) = false := (by simp; omega);clear hs
    go_enter Tryz.func89, Tryz.ntmps89
    go_wp2_with fail;go_ret
    exact ⟨aR HS.out.symm, HB.out _ _⟩
  ·have hs := eO (a := a) (b := b) (fun e => h2 (by rw [e]))
   have HS := hid hs;have t2 : ((a.t : Int) == (b.t : Int)) = false := (by simp; omega);clear hs
   go_enter Tryz.func89, Tryz.ntmps89
   go_wp2_with fail;go_ret
   exact ⟨aR HS.out.symm, HB.out _ _⟩
 ·have hs := eO (a := a) (b := b) (fun e => h1 (by rw [e]))
  have HS := hid hs;have t1 : (a.k == b.k) = false := by simp; omega
  clear hs
  go_enter Tryz.func89, Tryz.ntmps89
  go_wp2_with fail;go_ret
  exact ⟨aR HS.out.symm, HB.out _ _⟩
theorem BI (a b : Ent) (w : World) : (binOp .neq 130 (.agg #[.int .u64 a.x, .int .u64 a.w, .int .u64 a.n, .bool a.m]) (.agg #[.int .u64 b.x, .int .u64 b.w, .int .u64 b.n, .bool b.m])).run Tryz.prog w = .ok (.bool (!decide (a = b))) w := by
 have hn : ∀ (d : Nat) (xs ys : Array Value) (w : World), (Op.equalIn (d + 1) 59 (.agg xs) (.agg ys)).run Tryz.prog w = (Op.eqFields d xs ys (Tryz.prog.fieldsOf 59).toList).run Tryz.prog w := fun d xs ys w => run_equalIn_agg w d 59 xs ys (by kernel_rfl) (by kernel_rfl)
 rw [run_neq_struct, show (10000 : Nat) = 9999 + 1 from rfl, run_equalIn_agg w 9999 130 _ _ (by kernel_rfl) (by kernel_rfl)];simp only [Program.fieldsOf, Tryz.underlying130];go_simp;have hc : ∀ p q : Nat, ((p : Int) = (q : Int)) ↔ p = q := fun p q => Int.ofNat_inj
 simp only [hc, Ent.eq_iff];by_cases h1 : a.x = b.x <;> by_cases h2 : a.w = b.w <;> by_cases h3 : a.n = b.n <;> by_cases h4 : a.m = b.m <;> simp [h1, h2, h3, h4]
theorem om (S S' : Nat → Prop) (own own' : Bool) (a b : Rec) (v v' : Value) (w : World) (hd : a.p.depth ≤ 1000) (hv : bL w S own a v) (hv' : bL w S' own' b v') :
  Calls Tryz.prog 25 #[v, v'] w fun e w' => e = .returned (.bool (a.same b)) ∧ Below w.1.size w w' := by
 obtain ⟨k0, k1, k2, k3, k4, k5, k6, k7, rfl, ha1, ha2, han, hae, has⟩ := hv.conc;obtain ⟨m0, m1, m2, m3, m4, m5, m6, m7, rfl, hb1, hb2, hbn, hbe, hbs⟩ := hv'.conc;have hB : ∀ o o', Below w.1.size w ((w.alloc o).alloc o') := fun o o' => (br.alloc nl _).alloc (by simp) _
 have hl := has.shape.1;have hl' := hbs.shape.1;have HH := hid (au hae (au has (au hbe hbs)));have HB := hid hB;clear hv hv' hae has hbe hbs hB han hbn;by_cases hlen : a.es.length = b.es.length
 ·have t0 : ((a.es.length : Int) != (b.es.length : Int)) = false := by simp [hlen]
  have HL := hid hlen;clear hlen;have hm : Tryz.prog.eqGuardType Tryz.prog.depth 130 = false := by kernel_rfl
  have hm2 : Tryz.prog.eqGuardType Tryz.prog.depth 59 = false := by kernel_rfl
  go_enter Tryz.func25, Tryz.ntmps25
  go_wp2_with fail
  go_loopw [5] (fun i wr => ∃ j : Nat, i = .int .i64 j ∧ j ≤ a.es.length ∧ a.es.take j = b.es.take j ∧ Below (w.1.size + 2) ((w.alloc (.cells #[.int .i64 a.k, .int .u64 a.t, .int .u64 a.x, .int .u64 a.w, .int .u64 a.n, .int .u64 a.v, .int .i64 k0, .int .u64 k1, .int .u64 k2, .slice k3 k4 k5, .slice k6 a.es.length k7] 65)).alloc (.cells #[.int .i64 b.k, .int .u64 b.t, .int .u64 b.x, .int .u64 b.w, .int .u64 b.n, .int .u64 b.v, .int .i64 m0, .int .u64 m1, .int .u64 m2, .slice m3 m4 m5, .slice m6 b.es.length m7] 65)) wr) (fun i _ => a.es.length - (intOf i).toNat)
  case atStart => exact ⟨0, rfl, by omega, by simp, br⟩
  case round =>
   obtain ⟨j, rfl, hj, heq, hb⟩ := hrel;have hx0 : ∀ o, wr.cell? ⟨w.1.size, o, none⟩ = _ := fun o => hb.cell (p := ⟨w.1.size, o, none⟩) (by simp)
   have hx1 : ∀ o, wr.cell? ⟨w.1.size + 1, o, none⟩ = _ := fun o => hb.cell (p := ⟨w.1.size + 1, o, none⟩) (by simp)
   have hzz := hb.size;simp only [aD] at hzz;have hB2 : Below w.1.size w wr := (HB.out _ _).trans (hb.mono (by omega));have HE := hid heq;have HX := hid (au hb hB2);by_cases hlt : j < a.es.length
   ·have hlt' : j < b.es.length := by have := HL.out; omega
    obtain ⟨bl, off, rfl, _, c0, c1, c2, c3, _⟩ := (HH.out.2.1.below hB2 nl).part j hlt;obtain ⟨bl', off', rfl, _, d0, d1, d2, d3, _⟩ := (HH.out.2.2.2.below hB2 nl).part j hlt';clear hb heq hB2;by_cases he : a.es[j] = b.es[j]
    ·have hq : ∀ W, (binOp .neq 130 (.agg #[.int .u64 a.es[j].x, .int .u64 a.es[j].w, .int .u64 a.es[j].n, .bool a.es[j].m]) (.agg #[.int .u64 b.es[j].x, .int .u64 b.es[j].w, .int .u64 b.es[j].n, .bool b.es[j].m])).run Tryz.prog W = .ok (.bool false) W := fun W => by rw [BI, decide_eq_true he]; rfl
     have HY := hid he;clear he;go_wp2_with fail
     go_quiet (fail)
     go_wp2_with fail;go_roundw
     case rel => exact ⟨j + 1, by go_num, by omega, iG _ _ j hlt hlt' HE.out HY.out, below_drewN HX.out.1 _⟩
     case measure => simp [intOf]; omega
    ·have hq : ∀ W, (binOp .neq 130 (.agg #[.int .u64 a.es[j].x, .int .u64 a.es[j].w, .int .u64 a.es[j].n, .bool a.es[j].m]) (.agg #[.int .u64 b.es[j].x, .int .u64 b.es[j].w, .int .u64 b.es[j].n, .bool b.es[j].m])).run Tryz.prog W = .ok (.bool true) W := fun W => by rw [BI, decide_eq_false he]; rfl
     have hs := eO (a := a) (b := b) (fun e => he (by subst e; rfl));have HS := hid hs;clear he hs;go_wp2_with fail
     go_quiet (fail)
     go_wp2_with fail;go_ret
     exact ⟨aR HS.out.symm, below_drewN HX.out.2 _⟩
   ·have hj2 : j = a.es.length := by omega
    subst hj2;have hes : a.es = b.es := by
     have h1 := HE.out;rw [List.take_length, HL.out, List.take_length] at h1;exact h1
    have HES := hid hes;clear hb heq hB2 hes;by_cases h1 : a.k = b.k
    ·have t1 : (a.k == b.k) = true := by simp [h1]
     have H1 := hid h1;clear h1;by_cases h2 : a.t = b.t
     ·have t2 : ((a.t : Int) == (b.t : Int)) = true := by simp [h2]
      have H2 := hid h2;clear h2;by_cases h3 : a.x = b.x
      ·have t3 : ((a.x : Int) == (b.x : Int)) = true := by simp [h3]
       have H3 := hid h3;clear h3;by_cases h4 : a.w = b.w ∧ a.n = b.n
       ·have t4 : ∀ W, (binOp .eql 59 (.agg #[.int .u64 a.w, .int .u64 a.n]) (.agg #[.int .u64 b.w, .int .u64 b.n])).run Tryz.prog W = .ok (.bool true) W := fun W => by rw [Ed, decide_eq_true h4]
        have H4 := hid h4;clear h4;by_cases h5 : a.v = b.v
        ·have t5 : ((a.v : Int) == (b.v : Int)) = true := by simp [h5]
         have H5 := hid h5;clear h5;go_wp2_with fail;refine (xS a.p.depth S S' own own' a.p b.p _ _ _ nl hd (HH.out.1.below HX.out.2 nl) (HH.out.2.2.1.below HX.out.2 nl)).mono ?_;rintro e w2 ⟨rfl, hb2⟩;have HB2 := hid (HX.out.2.trans (hb2.mono HX.out.2.size));clear hb2;go_wp2_with fail;go_ret
         refine ⟨aR ?_, HB2.out⟩;simp [Rec.same, H1.out, H2.out, H3.out, H4.out.1, H4.out.2, H5.out, HES.out]
        ·have HS := hid (eO (a := a) (b := b) (fun e => h5 (by rw [e])))
         have t5 : ((a.v : Int) == (b.v : Int)) = false := (by simp; omega);go_wp2_with fail;go_ret
         exact ⟨aR HS.out.symm, HX.out.2⟩
       ·have HS := hid (eO (a := a) (b := b) (fun e => h4 (by rw [e]; simp)))
        have t4 : ∀ W, (binOp .eql 59 (.agg #[.int .u64 a.w, .int .u64 a.n]) (.agg #[.int .u64 b.w, .int .u64 b.n])).run Tryz.prog W = .ok (.bool false) W := fun W => by rw [Ed, decide_eq_false h4]
        clear h4;go_wp2_with fail;go_ret
        exact ⟨aR HS.out.symm, HX.out.2⟩
      ·have HS := hid (eO (a := a) (b := b) (fun e => h3 (by rw [e])))
       have t3 : ((a.x : Int) == (b.x : Int)) = false := (by simp; omega);go_wp2_with fail;go_ret
       exact ⟨aR HS.out.symm, HX.out.2⟩
     ·have HS := hid (eO (a := a) (b := b) (fun e => h2 (by rw [e])))
      have t2 : ((a.t : Int) == (b.t : Int)) = false := (by simp; omega);go_wp2_with fail;go_ret
      exact ⟨aR HS.out.symm, HX.out.2⟩
    ·have HS := hid (eO (a := a) (b := b) (fun e => h1 (by rw [e])))
     have t1 : (a.k == b.k) = false := (by simp; omega);go_wp2_with fail;go_ret
     exact ⟨aR HS.out.symm, HX.out.2⟩
 ·have hs := eO (a := a) (b := b) (fun e => hlen (by rw [e]))
  have HS := hid hs;have t0 : ((a.es.length : Int) != (b.es.length : Int)) = true := by simp; omega
  clear hs
  go_enter Tryz.func25, Tryz.ntmps25
  go_wp2_with fail;go_ret
  exact ⟨aR HS.out.symm, HB.out _ _⟩
theorem sG (c : UInt8) (l : List UInt8) : (cuts c l).length ≤ l.length + 1 := by
 induction l with
 | nil => simp [cuts]
 | cons b l ih =>
  simp only [cuts];split
  ·simp; omega
  ·split <;> rename_i h <;> rw [h] at ih <;> simp at ih ⊢ <;> omega
theorem qE (c : UInt8) (l : List UInt8) : ∀ x ∈ cuts c l, x.length ≤ l.length := by
 induction l with
 | nil => simp [cuts]
 | cons b l ih =>
  simp only [cuts];split
  ·intro x hx
   rcases List.mem_cons.1 hx with rfl | hx
   ·simp
   ·have := ih x hx; simp; omega
  ·split
   ·rename_i h; exact absurd h (nP _ _)
   ·rename_i y r h
    rw [h] at ih;intro x hx;rcases List.mem_cons.1 hx with rfl | hx
    ·have := ih y (by simp); simp; omega
    ·have := ih x (by simp [hx]); simp; omega
theorem Rg.cell {g : Nat} {w w' : World} (h : Rg g w w') {b o : Nat} {v : Value} (hc : w.cell? ⟨b, o, none⟩ = some v) (hne : b ≠ g) : w'.cell? ⟨b, o, none⟩ = some v := by
 have hl : b < w.1.size := aG w ⟨b, o, none⟩ hc;rw [World.cell?_of_block (w := w) (a := ⟨b, o, none⟩) (h.keep b hl hne)]; exact hc
def eY (e : Ent) : Array Value := e.cells.toArray
def yB (g : Nat) (o : Option Rec) (w : World) (e : Ending) (w' : World) : Prop :=
 ∃ cs', e = .returned (.bool o.isSome) ∧ w'.1[g]? = some (.cells cs' 73 (0, 0)) ∧ Rg g w w' ∧ ∀ r, o = some r → bL w' (fun b => w.1.size ≤ b) true r (.agg cs')
theorem lw (W : World) (S : Nat → Prop) : aT W S true .zero (.agg #[.int .i64 0, .int .u64 0, .int .u64 0, .slice none 0 0]) := bN (by omega) (by omega) (by omega) (by omega)
theorem gN (W : World) (S : Nat → Prop) (k t x w n v : Nat) (hk : k ≤ 7) (ht : t < 18446744073709551616) (hx : x < 18446744073709551616) (hw : w < 18446744073709551616) (hn : n < 18446744073709551616) (hv : v < 18446744073709551616) :
  bL W S true ⟨k, t, x, w, n, v, .zero, []⟩ (.agg #[.int .i64 (k : Nat), .int .u64 (t : Nat), .int .u64 (x : Nat), .int .u64 (w : Nat), .int .u64 (n : Nat), .int .u64 (v : Nat), .int .i64 0, .int .u64 0, .int .u64 0, .slice none 0 0, .slice none 0 0]) :=
 ⟨_, _, _, _, _, rfl, by dsimp only; omega, by dsimp only; omega, ⟨ht, hx, hw, hn, hv, bD, by simp⟩, lw W S, Sl.nil W S true 4⟩
theorem yC {g : Nat} {o : Option Rec} {w w' : World} {cs' : Array Value} (h1 : Rg g w w') (h2 : w'.1[g]? = some (.cells cs' 73 (0, 0))) (h3 : o = none) : yB g o w (.returned (.bool false)) w' := by
 subst h3; exact ⟨cs', rfl, h2, h1, fun r hr => by cases hr⟩
theorem Aj {g : Nat} {o : Option Rec} {w w' : World} {cs' : Array Value} (r : Rec) (h1 : Rg g w w') (h2 : w'.1[g]? = some (.cells cs' 73 (0, 0))) (h3 : o = some r) (h4 : bL w' (fun b => w.1.size ≤ b) true r (.agg cs')) : yB g o w (.returned (.bool true)) w' := by
 subst h3; exact ⟨cs', rfl, h2, h1, fun r' hr => by injection hr with hr; subst hr; exact h4⟩
theorem oo (g k t n cap : Nat) (l : List (List UInt8)) (ad : Option Addr) (w : World) (hk : k = 1 ∨ k = 6 ∨ k = 7) (hn : n = l.length) (ht : t < 18446744073709551616) (hh : w.1[g]? = some (.cells #[.int .i64 (k : Nat), .int .u64 (t : Nat), .int .u64 0, .int .u64 0, .int .u64 0, .int .u64 0, .int .i64 0, .int .u64 0, .int .u64 0, .slice none 0 0, .slice none 0 0] 73 (0, 0))) :
  Calls Tryz.prog 102 #[.slice ad n cap, .pointer (some ⟨g, 0, none⟩)] w (yB g (iC k t l) w) := by
 have HH := hid hh;have hT : iC k t l = if l = [] then some ⟨k, t, 0, 0, 0, 0, .zero, []⟩ else none := by
  unfold iC;rw [if_neg (by omega), if_neg (by omega), if_neg (by omega), if_neg (by omega)]
 have HT := hid hT;clear hh hT;cases l with
 | nil =>
  have hn0 : n = 0 := hn;subst hn0;clear hn
  go_enter Tryz.func102, Tryz.ntmps102
  go_wp2_with fail;go_ret
  exact Aj _ (Rg.refl _ _) HH.out (by rw [HT.out]; rfl) (gN w _ k t 0 0 0 0 (by omega) ht (by omega) (by omega) (by omega) (by omega))
 | cons a l =>
  have t1 : ((n : Int) == 0) = false := by simp at hn ⊢; omega
  clear hn
  go_enter Tryz.func102, Tryz.ntmps102
  go_wp2_with fail;go_ret
  exact yC (Rg.refl _ _) HH.out (by rw [HT.out]; rfl)
structure Gv (w : World) (g : Nat) (l : List (List UInt8)) (v : Value) : Prop where
 rep : mX w (fun b => b ≠ g) l v
 len : ∀ x ∈ l, x.length ≤ 50000
def Gi (e : Ex) (S : Nat → Prop) (v : Value) (w : World) : Prop := aT w S true e v
theorem Ak (e : Ex) : kW (Gi e) := fun S S' v w w' hk hs hS h => aT.keep hk hS h
def pu (l : List UInt8) (S : Nat → Prop) (v : Value) (w : World) : Prop := aO w S true l v
theorem il (l : List UInt8) : kW (pu l) := fun S S' v w w' hk hs hS h => Sl.keep (w := w) h (by omega) hk hS
theorem StoOK.mk {P : Program} {G : List Pr} {al vl n : Nat} {T0 : TypeId} {z0 : Array Value} {p0 : Pr} (h1 : G[al]? = some (.box T0 z0)) (h2 : G[vl]? = some p0) (hz : z0.size = n) (hi : (P.info? T0).map (·.size) = some n)
  (h : ∀ S v w, p0.holds S w v → ∃ cs, v = .agg cs ∧ cs.size = n ∧ ∀ x ∈ cs.toList, x.oneCell' = true) :
  ∀ T z S v w, G[al]? = some (.box T z) → (∀ p, G[vl]? = some p → p.holds S w v) → (P.info? T).map (·.size) = some z.size ∧ ∃ cs, v = .agg cs ∧ cs.size = z.size ∧ ∀ x ∈ cs.toList, x.oneCell' = true := by
 intro T z S v w ha hv;rw [h1] at ha;cases ha
 rw [hz];exact ⟨hi, h S v w (hv _ h2)⟩
theorem gZ {a : Act} {s : Nat} {v : Value} (h : a.tmps[s]? = some v) : a.eval (.tmp s) = v := by
 simp only [Act.eval, Array.getD_eq_getD_getElem?, h]; rfl
theorem Below.grown2 {B base : Nat} {w W w2 : World} {sv : Value} (h : Below B w W) (hg : W.grownBy w2 sv.ownBlock) (hob : ∀ k, sv.ownBlock = some k → base ≤ k) (hB : B ≤ W.1.size) (hbb : B ≤ base) : Below B w w2 :=
 h.grown hg (by omega) (fun k hk => by have := hob k hk; omega)
theorem vD {W w2 : World} {row : Option Nat} {b : Nat} (hg : W.grownBy w2 row) (hb : b < W.1.size) (hne : some b ≠ row) : w2.1[b]? = W.1[b]? := hg.block b hb hne
theorem FB : (Tryz.prog.info? 135).map (fun i => (i.zero, i.size, i.bytes)) = some (some (.agg #[.int .u64 0, .int .u64 0, .int .u64 0, .bool false]), 4, 32) := by kernel_rfl
theorem yD (e : Ent) : (eY e).toList = e.cells := rfl
def pc (t : Nat) (q0 : Int) (q1 q2 : Nat) (q3 : Option Addr) (q4 q5 : Nat) (sv : Value) : Array Value := #[.int .i64 5, .int .u64 (t : Nat), .int .u64 0, .int .u64 0, .int .u64 0, .int .u64 0, .int .i64 q0, .int .u64 q1, .int .u64 q2, .slice q3 q4 q5, sv]
theorem gB (es : List Ent) (e : Ent) : aZ (es ++ [e]) = aZ es ++ (eY e).toList := by rw [iA, yD]; simp [aZ]
end Go.Proofs.YtlpgokcapdjgjaaGreatDoor
