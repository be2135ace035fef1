/- Walks. -/
import Derived.Test.YtlpgokcapdjgjaaGreatDoorY20
import Derived.Laws.StructEq
set_option maxHeartbeats 8000000
set_option maxRecDepth 100000
namespace Go.Proofs.YtlpgokcapdjgjaaGreatDoor
open Go.RowKit Go
set_option linter.unusedVariables false
set_option linter.unusedSimpArgs false
theorem Ent.eq_iff (a b : Ent) : a = b ↔ a.x = b.x ∧ a.w = b.w ∧ a.n = b.n ∧ a.m = b.m := by cases a; cases b; simp
theorem Cf (a b : Ent) (w : World) : (binOp .neq 135 (.agg #[.int .u64 a.x, .int .u64 a.w, .int .u64 a.n, .bool a.m]) (.agg #[.int .u64 b.x, .int .u64 b.w, .int .u64 b.n, .bool b.m])).run Tryz.prog w = .ok (.bool (!decide (a = b))) w := by
 have hn : ∀ (d : Nat) (xs ys : Array Value) (w : World), (Op.equalIn (d + 1) 67 (.agg xs) (.agg ys)).run Tryz.prog w = (Op.eqFields d xs ys (Tryz.prog.fieldsOf 67).toList).run Tryz.prog w := fun d xs ys w => run_equalIn_agg w d 67 xs ys (by kernel_rfl) (by kernel_rfl)
 rw [run_neq_struct, show (10000 : Nat) = 9999 + 1 from rfl, run_equalIn_agg w 9999 135 _ _ (by kernel_rfl) (by kernel_rfl)]
 simp only [Program.fieldsOf, Tryz.underlying135]
 go_simp
 have hc : ∀ p q : Nat, ((p : Int) = (q : Int)) ↔ p = q := fun p q => Int.ofNat_inj
 simp only [hc, Ent.eq_iff]
 by_cases h1 : a.x = b.x <;> by_cases h2 : a.w = b.w <;> by_cases h3 : a.n = b.n <;> by_cases h4 : a.m = b.m <;> simp [h1, h2, h3, h4]
theorem uL (S S' : Nat → Prop) (own own' : Bool) (es es' : List Ent) (ad ad' : Option Addr) (n n' cap cap' : Nat) (w : World) (hn : n = es.length) (hn' : n' = es'.length) (h : eX w S own es (.slice ad n cap)) (h' : eX w S' own' es' (.slice ad' n' cap')) :
  Calls Tryz.prog 130 #[.slice ad n cap, .slice ad' n' cap'] w fun e w' => e = .returned (.bool (decide (es = es'))) ∧ Below w.heap.size w w' := by
 subst hn hn'
 have hl := h.shape.1
 have hl' := h'.shape.1
 have HH := hid (And.intro h h')
 clear h h'
 by_cases hlen : es.length = es'.length
 ·have t1 : ((es.length : Int) != (es'.length : Int)) = false := by simp [hlen]
  have HL := hid hlen
  clear hlen
  go_enter Tryz.func130, Tryz.ntmps130
  go_wp2_with fail
  go_loopw [13] (fun i wr => ∃ j : Nat, i = .int .i64 j ∧ j ≤ es.length ∧ es.take j = es'.take j ∧ Below w.heap.size w wr) (fun i _ => es.length - (intOf i).toNat)
  case atStart => exact ⟨0, rfl, by omega, by simp, br⟩
  case round =>
   obtain ⟨j, rfl, hj, heq, hb⟩ := hrel
   have HB := hid hb
   have HE := hid heq
   by_cases hlt : j < es.length
   ·have hlt' : j < es'.length := by have := HL.out; omega
    obtain ⟨bl, off, rfl, _, c0, c1, c2, c3, _⟩ := (HH.out.1.below hb nl).part j hlt
    obtain ⟨bl', off', rfl, _, d0, d1, d2, d3, _⟩ := (HH.out.2.below hb nl).part j hlt'
    clear hb heq
    have hm : Tryz.prog.eqGuardType Tryz.prog.depth 135 = false := by kernel_rfl
    by_cases he : es[j] = es'[j]
    ·have hq : ∀ W, (binOp .neq 135 (.agg #[.int .u64 es[j].x, .int .u64 es[j].w, .int .u64 es[j].n, .bool es[j].m]) (.agg #[.int .u64 es'[j].x, .int .u64 es'[j].w, .int .u64 es'[j].n, .bool es'[j].m])).run Tryz.prog W = .ok (.bool false) W := fun W => by rw [Cf, decide_eq_true he]; rfl
     have HX := hid he
     clear he
     go_wp2_with fail
     go_quiet (fail)
     go_wp2_with fail
     go_roundw
     case rel => exact ⟨j + 1, by go_num, by omega, gQ _ _ j hlt hlt' HE.out HX.out, below_drewN HB.out _⟩
     case measure => simp [intOf]; omega
    ·have hq : ∀ W, (binOp .neq 135 (.agg #[.int .u64 es[j].x, .int .u64 es[j].w, .int .u64 es[j].n, .bool es[j].m]) (.agg #[.int .u64 es'[j].x, .int .u64 es'[j].w, .int .u64 es'[j].n, .bool es'[j].m])).run Tryz.prog W = .ok (.bool true) W := fun W => by rw [Cf, decide_eq_false he]; rfl
     have HX := hid he
     clear he
     go_wp2_with fail
     go_quiet (fail)
     go_wp2_with fail
     go_ret
     exact ⟨ah (by rw [decide_eq_false]; intro e; subst e; exact HX.out rfl), below_drewN HB.out _⟩
   ·have hj2 : j = es.length := by omega
    subst hj2
    clear hb heq
    go_wp2_with fail
    go_ret
    refine ⟨ah ?_, HB.out⟩
    have h1 := HE.out
    rw [List.take_length, HL.out, List.take_length] at h1
    rw [decide_eq_true h1]
 ·have t1 : ((es.length : Int) != (es'.length : Int)) = true := by simp; omega
  go_enter Tryz.func130, Tryz.ntmps130
  go_wp2_with fail
  go_ret
  exact ⟨ah (by rw [decide_eq_false]; intro e; exact hlen (by rw [e])), br⟩
theorem Cg (a b a' b' : Nat) (w : World) : (binOp .eql 67 (.agg #[.int .u64 a, .int .u64 b]) (.agg #[.int .u64 a', .int .u64 b'])).run Tryz.prog w = .ok (.bool (decide (a = a' ∧ b = b'))) w := by
 rw [run_eql_struct, show (10000 : Nat) = 9999 + 1 from rfl, run_equalIn_agg w 9999 67 _ _ (by kernel_rfl) (by kernel_rfl)]
 simp only [Program.fieldsOf, Tryz.underlying67]
 go_simp
 have hc : ∀ p q : Nat, ((p : Int) = (q : Int)) ↔ p = q := fun p q => Int.ofNat_inj
 simp only [hc]
 by_cases h1 : a = a' <;> by_cases h2 : b = b' <;> simp [h1, h2]
theorem Ch (a b a' b' : Nat) (w : World) : (binOp .eql 59 (.agg #[.int .u64 a, .int .u64 b]) (.agg #[.int .u64 a', .int .u64 b'])).run Tryz.prog w = .ok (.bool (decide (a = a' ∧ b = b'))) w := by
 rw [run_eql_struct, show (10000 : Nat) = 9999 + 1 from rfl, run_equalIn_agg w 9999 59 _ _ (by kernel_rfl) (by kernel_rfl)]
 simp only [Program.fieldsOf, Tryz.underlying59]
 go_simp
 have hc : ∀ p q : Nat, ((p : Int) = (q : Int)) ↔ p = q := fun p q => Int.ofNat_inj
 simp only [hc]
 by_cases h1 : a = a' <;> by_cases h2 : b = b' <;> simp [h1, h2]
theorem eF {a b : Rec} (h : a ≠ b) : a.same b = false := by
 cases hs : a.same b with
 | false => rfl
 | true => exact absurd ((Rec.same_iff a b).1 hs) h
theorem nZ (S S' : Nat → Prop) (own own' : Bool) (a b : Rec) (v v' : Value) (w : World) (hv : aI w S own a v) (hv' : aI w S' own' b v') :
  Calls Tryz.prog 89 #[v, v'] w fun e w' => e = .returned (.bool (a.same b)) ∧ Below w.heap.size w w' := by
 obtain ⟨k0, k1, k2, k3, k4, k5, k6, k7, rfl, ha1, ha2, han, hae, has⟩ := hv.conc
 obtain ⟨m0, m1, m2, m3, m4, m5, m6, m7, rfl, hb1, hb2, hbn, hbe, hbs⟩ := hv'.conc
 have hm : Tryz.prog.eqGuardType Tryz.prog.depth 67 = false := by kernel_rfl
 have hB : ∀ o o', Below w.heap.size w ((w.alloc o).alloc o') := fun o o' => (br.alloc nl _).alloc (by simp) _
 have HH := hid (And.intro hae (And.intro has (And.intro hbe hbs)))
 have HB := hid hB
 clear hv hv' hae has hbe hbs hB han hbn
 by_cases h1 : a.k = b.k
 ·have t1 : (a.k == b.k) = true := by simp [h1]
  have H1 := hid h1
  clear h1
  by_cases h2 : a.t = b.t
  ·have t2 : ((a.t : Int) == (b.t : Int)) = true := by simp [h2]
   have H2 := hid h2
   clear h2
   by_cases h3 : a.x = b.x
   ·have t3 : ((a.x : Int) == (b.x : Int)) = true := by simp [h3]
    have H3 := hid h3
    clear h3
    by_cases h4 : a.w = b.w ∧ a.n = b.n
    ·have t4 : ∀ W, (binOp .eql 67 (.agg #[.int .u64 a.w, .int .u64 a.n]) (.agg #[.int .u64 b.w, .int .u64 b.n])).run Tryz.prog W = .ok (.bool true) W := fun W => by rw [Cg, decide_eq_true h4]
     have H4 := hid h4
     clear h4
     by_cases h5 : a.v = b.v
     ·have t5 : ((a.v : Int) == (b.v : Int)) = true := by simp [h5]
      have H5 := hid h5
      clear h5
      go_enter Tryz.func89, Tryz.ntmps89
      go_wp2_with fail
      refine (uh a.p.depth S S' own own' a.p b.p _ _ _ nl (HH.out.1.below (HB.out _ _) nl) (HH.out.2.2.1.below (HB.out _ _) nl)).mono ?_
      rintro e w1 ⟨rfl, hb1⟩
      cases hp : a.p.same b.p with
      | false =>
       have HS := hid (eF (a := a) (b := b) (fun e => by rw [e, Ex.same_refl] at hp; cases hp))
       have HB1 := hid ((HB.out _ _).trans (hb1.mono (by simp; omega)))
       clear hb1
       go_wp2_with fail
       go_ret
       exact ⟨ah HS.out.symm, HB1.out⟩
      | true =>
       have HP := hid hp
       obtain ⟨hc, hf⟩ := nI hb1
       have hz1 : w.heap.size + 1 < w1.heap.size := by have := hb1.size; simp at this; omega
       have HB1 := hid ((HB.out _ _).trans (hb1.mono (by simp; omega)))
       clear hb1 hp
       go_wp2_with fail
       refine (uL S S' own own' a.es b.es _ _ _ _ _ _ _ rfl rfl (HH.out.2.1.below HB1.out nl) (HH.out.2.2.2.below HB1.out nl)).mono ?_
       rintro e w2 ⟨rfl, hb2⟩
       have HB2 := hid (HB1.out.trans (hb2.mono HB1.out.size))
       clear hb2
       go_wp2_with fail
       go_ret
       refine ⟨ah ?_, HB2.out⟩
       simp [Rec.same, H1.out, H2.out, H3.out, H4.out.1, H4.out.2, H5.out, HP.out]
     ·have hs := eF (a := a) (b := b) (fun e => h5 (by rw [e]))
      have HS := hid hs
      have t5 : ((a.v : Int) == (b.v : Int)) = false := by simp; omega
      clear hs
      go_enter Tryz.func89, Tryz.ntmps89
      go_wp2_with fail
      go_ret
      exact ⟨ah HS.out.symm, HB.out _ _⟩
    ·have hs := eF (a := a) (b := b) (fun e => h4 (by rw [e]; simp))
     have HS := hid hs
     have t4 : ∀ W, (binOp .eql 67 (.agg #[.int .u64 a.w, .int .u64 a.n]) (.agg #[.int .u64 b.w, .int .u64 b.n])).run Tryz.prog W = .ok (.bool false) W := fun W => by rw [Cg, decide_eq_false h4]
     clear hs h4
     go_enter Tryz.func89, Tryz.ntmps89
     go_wp2_with fail
     go_ret
     exact ⟨ah HS.out.symm, HB.out _ _⟩
   ·have hs := eF (a := a) (b := b) (fun e => h3 (by rw [e]))
    have HS := hid hs
    have t3 : ((a.x : Int) == (b.x : Int)) = false := by simp; omega
    clear hs
    go_enter Tryz.func89, Tryz.ntmps89
    go_wp2_with fail
    go_ret
    exact ⟨ah HS.out.symm, HB.out _ _⟩
  ·have hs := eF (a := a) (b := b) (fun e => h2 (by rw [e]))
   have HS := hid hs
   have t2 : ((a.t : Int) == (b.t : Int)) = false := by simp; omega
   clear hs
   go_enter Tryz.func89, Tryz.ntmps89
   go_wp2_with fail
   go_ret
   exact ⟨ah HS.out.symm, HB.out _ _⟩
 ·have hs := eF (a := a) (b := b) (fun e => h1 (by rw [e]))
  have HS := hid hs
  have t1 : (a.k == b.k) = false := by simp; omega
  clear hs
  go_enter Tryz.func89, Tryz.ntmps89
  go_wp2_with fail
  go_ret
  exact ⟨ah HS.out.symm, HB.out _ _⟩
theorem zH (a b : Ent) (w : World) : (binOp .neq 130 (.agg #[.int .u64 a.x, .int .u64 a.w, .int .u64 a.n, .bool a.m]) (.agg #[.int .u64 b.x, .int .u64 b.w, .int .u64 b.n, .bool b.m])).run Tryz.prog w = .ok (.bool (!decide (a = b))) w := by
 have hn : ∀ (d : Nat) (xs ys : Array Value) (w : World), (Op.equalIn (d + 1) 59 (.agg xs) (.agg ys)).run Tryz.prog w = (Op.eqFields d xs ys (Tryz.prog.fieldsOf 59).toList).run Tryz.prog w := fun d xs ys w => run_equalIn_agg w d 59 xs ys (by kernel_rfl) (by kernel_rfl)
 rw [run_neq_struct, show (10000 : Nat) = 9999 + 1 from rfl, run_equalIn_agg w 9999 130 _ _ (by kernel_rfl) (by kernel_rfl)]
 simp only [Program.fieldsOf, Tryz.underlying130]
 go_simp
 have hc : ∀ p q : Nat, ((p : Int) = (q : Int)) ↔ p = q := fun p q => Int.ofNat_inj
 simp only [hc, Ent.eq_iff]
 by_cases h1 : a.x = b.x <;> by_cases h2 : a.w = b.w <;> by_cases h3 : a.n = b.n <;> by_cases h4 : a.m = b.m <;> simp [h1, h2, h3, h4]
theorem di (S S' : Nat → Prop) (own own' : Bool) (a b : Rec) (v v' : Value) (w : World) (hd : a.p.depth ≤ 1000) (hv : aI w S own a v) (hv' : aI w S' own' b v') :
  Calls Tryz.prog 25 #[v, v'] w fun e w' => e = .returned (.bool (a.same b)) ∧ Below w.heap.size w w' := by
 obtain ⟨k0, k1, k2, k3, k4, k5, k6, k7, rfl, ha1, ha2, han, hae, has⟩ := hv.conc
 obtain ⟨m0, m1, m2, m3, m4, m5, m6, m7, rfl, hb1, hb2, hbn, hbe, hbs⟩ := hv'.conc
 have hB : ∀ o o', Below w.heap.size w ((w.alloc o).alloc o') := fun o o' => (br.alloc nl _).alloc (by simp) _
 have hl := has.shape.1
 have hl' := hbs.shape.1
 have HH := hid (And.intro hae (And.intro has (And.intro hbe hbs)))
 have HB := hid hB
 clear hv hv' hae has hbe hbs hB han hbn
 by_cases hlen : a.es.length = b.es.length
 ·have t0 : ((a.es.length : Int) != (b.es.length : Int)) = false := by simp [hlen]
  have HL := hid hlen
  clear hlen
  have hm : Tryz.prog.eqGuardType Tryz.prog.depth 130 = false := by kernel_rfl
  have hm2 : Tryz.prog.eqGuardType Tryz.prog.depth 59 = false := by kernel_rfl
  go_enter Tryz.func25, Tryz.ntmps25
  go_wp2_with fail
  go_loopw [5] (fun i wr => ∃ j : Nat, i = .int .i64 j ∧ j ≤ a.es.length ∧ a.es.take j = b.es.take j ∧ Below (w.heap.size + 2) ((w.alloc (.cells #[.int .i64 a.k, .int .u64 a.t, .int .u64 a.x, .int .u64 a.w, .int .u64 a.n, .int .u64 a.v, .int .i64 k0, .int .u64 k1, .int .u64 k2, .slice k3 k4 k5, .slice k6 a.es.length k7] 65)).alloc (.cells #[.int .i64 b.k, .int .u64 b.t, .int .u64 b.x, .int .u64 b.w, .int .u64 b.n, .int .u64 b.v, .int .i64 m0, .int .u64 m1, .int .u64 m2, .slice m3 m4 m5, .slice m6 b.es.length m7] 65)) wr) (fun i _ => a.es.length - (intOf i).toNat)
  case atStart => exact ⟨0, rfl, by omega, by simp, br⟩
  case round =>
   obtain ⟨j, rfl, hj, heq, hb⟩ := hrel
   have hx0 : ∀ o, wr.cell? ⟨w.heap.size, o, none⟩ = _ := fun o => hb.cell (p := ⟨w.heap.size, o, none⟩) (by simp)
   have hx1 : ∀ o, wr.cell? ⟨w.heap.size + 1, o, none⟩ = _ := fun o => hb.cell (p := ⟨w.heap.size + 1, o, none⟩) (by simp)
   have hzz := hb.size
   simp only [World.size_alloc] at hzz
   have hB2 : Below w.heap.size w wr := (HB.out _ _).trans (hb.mono (by omega))
   have HE := hid heq
   have HX := hid (And.intro hb hB2)
   by_cases hlt : j < a.es.length
   ·have hlt' : j < b.es.length := by have := HL.out; omega
    obtain ⟨bl, off, rfl, _, c0, c1, c2, c3, _⟩ := (HH.out.2.1.below hB2 nl).part j hlt
    obtain ⟨bl', off', rfl, _, d0, d1, d2, d3, _⟩ := (HH.out.2.2.2.below hB2 nl).part j hlt'
    clear hb heq hB2
    by_cases he : a.es[j] = b.es[j]
    ·have hq : ∀ W, (binOp .neq 130 (.agg #[.int .u64 a.es[j].x, .int .u64 a.es[j].w, .int .u64 a.es[j].n, .bool a.es[j].m]) (.agg #[.int .u64 b.es[j].x, .int .u64 b.es[j].w, .int .u64 b.es[j].n, .bool b.es[j].m])).run Tryz.prog W = .ok (.bool false) W := fun W => by rw [zH, decide_eq_true he]; rfl
     have HY := hid he
     clear he
     go_wp2_with fail
     go_quiet (fail)
     go_wp2_with fail
     go_roundw
     case rel => exact ⟨j + 1, by go_num, by omega, gQ _ _ j hlt hlt' HE.out HY.out, below_drewN HX.out.1 _⟩
     case measure => simp [intOf]; omega
    ·have hq : ∀ W, (binOp .neq 130 (.agg #[.int .u64 a.es[j].x, .int .u64 a.es[j].w, .int .u64 a.es[j].n, .bool a.es[j].m]) (.agg #[.int .u64 b.es[j].x, .int .u64 b.es[j].w, .int .u64 b.es[j].n, .bool b.es[j].m])).run Tryz.prog W = .ok (.bool true) W := fun W => by rw [zH, decide_eq_false he]; rfl
     have hs := eF (a := a) (b := b) (fun e => he (by subst e; rfl))
     have HS := hid hs
     clear he hs
     go_wp2_with fail
     go_quiet (fail)
     go_wp2_with fail
     go_ret
     exact ⟨ah HS.out.symm, below_drewN HX.out.2 _⟩
   ·have hj2 : j = a.es.length := by omega
    subst hj2
    have hes : a.es = b.es := by
     have h1 := HE.out
     rw [List.take_length, HL.out, List.take_length] at h1
     exact h1
    have HES := hid hes
    clear hb heq hB2 hes
    by_cases h1 : a.k = b.k
    ·have t1 : (a.k == b.k) = true := by simp [h1]
     have H1 := hid h1
     clear h1
     by_cases h2 : a.t = b.t
     ·have t2 : ((a.t : Int) == (b.t : Int)) = true := by simp [h2]
      have H2 := hid h2
      clear h2
      by_cases h3 : a.x = b.x
      ·have t3 : ((a.x : Int) == (b.x : Int)) = true := by simp [h3]
       have H3 := hid h3
       clear h3
       by_cases h4 : a.w = b.w ∧ a.n = b.n
       ·have t4 : ∀ W, (binOp .eql 59 (.agg #[.int .u64 a.w, .int .u64 a.n]) (.agg #[.int .u64 b.w, .int .u64 b.n])).run Tryz.prog W = .ok (.bool true) W := fun W => by rw [Ch, decide_eq_true h4]
        have H4 := hid h4
        clear h4
        by_cases h5 : a.v = b.v
        ·have t5 : ((a.v : Int) == (b.v : Int)) = true := by simp [h5]
         have H5 := hid h5
         clear h5
         go_wp2_with fail
         refine (vH a.p.depth S S' own own' a.p b.p _ _ _ nl hd (HH.out.1.below HX.out.2 nl) (HH.out.2.2.1.below HX.out.2 nl)).mono ?_
         rintro e w2 ⟨rfl, hb2⟩
         have HB2 := hid (HX.out.2.trans (hb2.mono HX.out.2.size))
         clear hb2
         go_wp2_with fail
         go_ret
         refine ⟨ah ?_, HB2.out⟩
         simp [Rec.same, H1.out, H2.out, H3.out, H4.out.1, H4.out.2, H5.out, HES.out]
        ·have HS := hid (eF (a := a) (b := b) (fun e => h5 (by rw [e])))
         have t5 : ((a.v : Int) == (b.v : Int)) = false := by simp; omega
         go_wp2_with fail
         go_ret
         exact ⟨ah HS.out.symm, HX.out.2⟩
       ·have HS := hid (eF (a := a) (b := b) (fun e => h4 (by rw [e]; simp)))
        have t4 : ∀ W, (binOp .eql 59 (.agg #[.int .u64 a.w, .int .u64 a.n]) (.agg #[.int .u64 b.w, .int .u64 b.n])).run Tryz.prog W = .ok (.bool false) W := fun W => by rw [Ch, decide_eq_false h4]
        clear h4
        go_wp2_with fail
        go_ret
        exact ⟨ah HS.out.symm, HX.out.2⟩
      ·have HS := hid (eF (a := a) (b := b) (fun e => h3 (by rw [e])))
       have t3 : ((a.x : Int) == (b.x : Int)) = false := by simp; omega
       go_wp2_with fail
       go_ret
       exact ⟨ah HS.out.symm, HX.out.2⟩
     ·have HS := hid (eF (a := a) (b := b) (fun e => h2 (by rw [e])))
      have t2 : ((a.t : Int) == (b.t : Int)) = false := by simp; omega
      go_wp2_with fail
      go_ret
      exact ⟨ah HS.out.symm, HX.out.2⟩
    ·have HS := hid (eF (a := a) (b := b) (fun e => h1 (by rw [e])))
     have t1 : (a.k == b.k) = false := by simp; omega
     go_wp2_with fail
     go_ret
     exact ⟨ah HS.out.symm, HX.out.2⟩
 ·have hs := eF (a := a) (b := b) (fun e => hlen (by rw [e]))
  have HS := hid hs
  have t0 : ((a.es.length : Int) != (b.es.length : Int)) = true := by simp; omega
  clear hs
  go_enter Tryz.func25, Tryz.ntmps25
  go_wp2_with fail
  go_ret
  exact ⟨ah HS.out.symm, HB.out _ _⟩
end Go.Proofs.YtlpgokcapdjgjaaGreatDoor
