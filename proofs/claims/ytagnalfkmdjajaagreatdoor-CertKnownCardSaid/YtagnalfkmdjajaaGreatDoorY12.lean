/- The law CertBack, walked. -/
import Derived.Test.YtagnalfkmdjajaaGreatDoorYD16
import Derived.Test.YtagnalfkmdjajaaGreatDoorYW77
set_option maxHeartbeats 20000000
set_option maxRecDepth 100000
namespace Go.Proofs.YtagnalfkmdjajaaGreatDoor
open Go.RowKit Go
set_option linter.unusedVariables false
set_option linter.unusedSimpArgs false
structure KK (w0 : World) (Sa Sb : Nat → Prop) (a b : Crt) (A B : Array Value) (w : World) : Prop where
 pa : Cx 25 w0.heap.size Sa a A w
 pb : Cx 25 (w0.heap.size + 1) Sb b B w
 lq : Lq w0.heap.size w
 bel : Below w0.heap.size w0 w
theorem KK.below {w0 : World} {Sa Sb : Nat → Prop} {a b : Crt} {A B : Array Value} {w w' : World} (h : KK w0 Sa Sb a b A B w) (hb : Below w.heap.size w w') : KK w0 Sa Sb a b A B w' :=
 ⟨h.pa.below hb nl, h.pb.below hb nl, h.lq.below (hb.mono h.bel.size), h.bel.trans (hb.mono h.bel.size)⟩
theorem KK.lqAt {w0 : World} {Sa Sb : Nat → Prop} {a b : Crt} {A B : Array Value} {w : World} (h : KK w0 Sa Sb a b A B w) : Lq w.heap.size w := h.lq.mono h.bel.size
theorem Er : jJ.nums ∧ jJ.o.length ≤ 65536 ∧ jJ.w.length ≤ 65536 := by
 have z : i64 0 := by unfold i64; omega
 exact ⟨⟨z, z, z, fun n hn => absurd hn (by simp [jJ]), fun e he => absurd he (by simp [jJ])⟩, by simp [jJ], by simp [jJ]⟩
theorem Du {o : Option Crt} (h : ∀ c, o = some c → c.right = true ∧ c.nums) : (o.getD jJ).nums ∧ (o.getD jJ).o.length ≤ 65536 ∧ (o.getD jJ).w.length ≤ 65536 := by
 cases o with
 | none => exact Er
 | some c =>
  obtain ⟨h1, h2⟩ := h c rfl
  obtain ⟨_, _, _, _, _, _, _, _, _, g1, g2⟩ := Crt.nil_of h1
  exact ⟨h2, g1, g2⟩
structure DB (T : TypeId) (g : Nat) (S : Nat → Prop) (c : Crt) (cs : Array Value) (w : World) : Prop where
 h : w.heap[g]? = some (.cells cs T (0, 0))
 r : aL w S true c (.agg cs)
theorem DB.keep {T : TypeId} {g : Nat} {S K : Nat → Prop} {c : Crt} {cs : Array Value} {w w' : World} (h : DB T g S c cs w) (hk : eu K w w') (hg : K g) (hS : ∀ b, S b → K b) : DB T g S c cs w' :=
 ⟨(hk g hg (Array.getElem?_eq_some_iff.1 h.h).1).trans h.h, h.r.keep (fun b hb hl => hk b (hS b hb) hl) (fun _ _ h => h)⟩
theorem DB.below {B : Nat} {T : TypeId} {g : Nat} {S : Nat → Prop} {c : Crt} {cs : Array Value} {w w' : World} (h : DB T g S c cs w) (hb : Below B w w') (hB : w.heap.size ≤ B) : DB T g S c cs w' :=
 h.keep (K := fun _ => True) (Below.keeps hb hB _) trivial (fun _ _ => trivial)
theorem DB.lt {T : TypeId} {g : Nat} {S : Nat → Prop} {c : Crt} {cs : Array Value} {w : World} (h : DB T g S c cs w) : g < w.heap.size := (Array.getElem?_eq_some_iff.1 h.h).1
theorem DB.cells {T : TypeId} {g : Nat} {S : Nat → Prop} {c : Crt} {a0 a1 a2 a3 a4 : Value} {w : World} (h : DB T g S c #[a0, a1, a2, a3, a4] w) : w.cell? ⟨g, 0, none⟩ = some a0 ∧ w.cell? ⟨g, 1, none⟩ = some a1 ∧ w.cell? ⟨g, 2, none⟩ = some a2 ∧ w.cell? ⟨g, 3, none⟩ = some a3 ∧ w.cell? ⟨g, 4, none⟩ = some a4 := by
 refine ⟨?_, ?_, ?_, ?_, ?_⟩
 all_goals (rw [cell_of_row w _ _ _ _ _ h.h]; rfl)
theorem DB.of_new {T : TypeId} {B : Nat} {c : Crt} {cs : Array Value} {w : World} (h : aL w (fun b => B ≤ b) true c (.agg cs)) : DB T w.heap.size (fun b => B ≤ b ∧ b < w.heap.size) c cs (w.alloc (.cells cs T)) :=
 ⟨heap_alloc_new _ _, h.keep (fun b _ hl => aU _ _ _ hl) (fun b hl hb => ⟨hb, hl⟩)⟩
theorem fQ.yes {w w' : World} {c : Crt} {o : Option Crt} {r : Ending} (h : fQ w o r w') (ho : o = some c) : ∃ ad cp ad' cp', r = .returned (.tuple #[.agg #[.int .i64 c.k, .slice ad c.o.length cp, .int .i64 c.p, .int .i64 c.q, .slice ad' c.w.length cp'], .int .i64 0]) ∧ aL w' (fun b => w.heap.size ≤ b) true c (.agg #[.int .i64 c.k, .slice ad c.o.length cp, .int .i64 c.p, .int .i64 c.q, .slice ad' c.w.length cp']) ∧ Below w.heap.size w w' := by
 subst ho
 obtain ⟨v, h1, h2, h3⟩ := h
 obtain ⟨ad, cp, ad', cp', rfl, _⟩ := h2.shape
 exact ⟨ad, cp, ad', cp', h1, h2, h3⟩
theorem fQ.no {w w' : World} {o : Option Crt} {r : Ending} (h : fQ w o r w') (ho : o = none) : ∃ ad cp ad' cp', r = .returned (.tuple #[.agg #[.int .i64 0, .slice ad 0 cp, .int .i64 0, .int .i64 0, .slice ad' 0 cp'], .int .i64 280]) ∧ Below w.heap.size w w' := by
 subst ho
 obtain ⟨v, h1, h2, h3⟩ := h
 obtain ⟨ad, cp, ad', cp', rfl, _⟩ := h2.shape
 exact ⟨ad, cp, ad', cp', h1, h3⟩
theorem ET {n : Nat} (h : 6 ≤ n) : Value.bool (decide ((n : Int) < 6)) = .bool false := by
 rw [decide_eq_false (by omega)]
theorem jK (Sa Sb : Nat → Prop) (ca cb : Crt) (va vb : Value) (xi : Int) (ub : UInt8) (w : World) (ha : aL w Sa false ca va) (hb : aL w Sb false cb vb) (na : ca.nums) (nb : cb.nums) (hx : -9223372036854775808 ≤ xi ∧ xi ≤ 9223372036854775807) (hL : Lq w.heap.size w) :
  Calls Tryz.prog 3 #[va, vb, .int .i64 xi, .int .u8 (ub.toNat : Int)] w fun e w' => e = .returned (.bool true) ∧ Below w.heap.size w w' := by
 obtain ⟨i0, hi0, hz0, hz1, hz2⟩ := info_parts infoByte
 obtain ⟨ad, cp, ad', cp', rfl, _⟩ := ha.shape
 obtain ⟨bd, dp, bd', dp', rfl, _⟩ := hb.shape
 have hbX : Below w.heap.size w ((w.alloc (.cells #[.int .i64 ca.k, .slice ad ca.o.length cp, .int .i64 ca.p, .int .i64 ca.q, .slice ad' ca.w.length cp'] 25)).alloc (.cells #[.int .i64 cb.k, .slice bd cb.o.length dp, .int .i64 cb.p, .int .i64 cb.q, .slice bd' cb.w.length dp'] 25)) := (br.alloc nl _).alloc (by simp) _
 obtain ⟨W, hW⟩ : ∃ W, W = ((w.alloc (.cells #[.int .i64 ca.k, .slice ad ca.o.length cp, .int .i64 ca.p, .int .i64 ca.q, .slice ad' ca.w.length cp'] 25)).alloc (.cells #[.int .i64 cb.k, .slice bd cb.o.length dp, .int .i64 cb.p, .int .i64 cb.q, .slice bd' cb.w.length dp'] 25)) := ⟨_, rfl⟩
 rw [← hW] at hbX
 have hk : KK w Sa Sb ca cb #[.int .i64 ca.k, .slice ad ca.o.length cp, .int .i64 ca.p, .int .i64 ca.q, .slice ad' ca.w.length cp'] #[.int .i64 cb.k, .slice bd cb.o.length dp, .int .i64 cb.p, .int .i64 cb.q, .slice bd' cb.w.length dp'] W := by
  refine ⟨⟨?_, ha.below hbX nl⟩, ⟨?_, hb.below hbX nl⟩, hL.below hbX, hbX⟩
  ·rw [hW]; exact (aU _ _ _ (by simp)).trans (az _ _ _ rfl)
  ·rw [hW]; exact az _ _ _ (by simp)
 have HK := hid hk
 have HN := hid (And.intro na nb)
 have HX := hid hx
 have la := hk.pa.lt
 have lb := hk.pb.lt
 obtain ⟨p0, p1, p2, p3, p4⟩ := hk.pa.cells
 obtain ⟨q0, q1, q2, q3, q4⟩ := hk.pb.cells
 clear ha hb hL na nb hk hbX hx
 go_enter Tryz.func3, Tryz.ntmps3
 go_wp2_with fail
 rw [← hW]
 clear hW
 go_wp2_with fail
 refine (kT _ _ _ _ _ _ _ _ _ _).mono ?_
 rintro e w1 ⟨rfl, hb1⟩
 have HK1 := hid (HK.out.below hb1)
 clear hb1 p0 p1 p2 p3 p4 q0 q1 q2 q3 q4 la lb HK
 generalize hfa : (decide (ca.o.length ≤ 40) && decide (ca.w.length ≤ 40)) = fa
 cases fa with
 | false =>
  go_wp2_with fail
  refine (bA w1 HK1.out.lqAt).mono ?_
  rintro e w2 ⟨rfl, hb2⟩
  go_wp2_with fail
  go_ret
  exact ⟨rfl, HK1.out.bel.trans (hb2.mono HK1.out.bel.size)⟩
 | true =>
  have la := HK1.out.pa.lt
  have lb := HK1.out.pb.lt
  obtain ⟨p0, p1, p2, p3, p4⟩ := HK1.out.pa.cells
  obtain ⟨q0, q1, q2, q3, q4⟩ := HK1.out.pb.cells
  go_wp2_with fail
  refine (kT _ _ _ _ _ _ _ _ _ _).mono ?_
  rintro e w2 ⟨rfl, hb2⟩
  have HK2 := hid (HK1.out.below hb2)
  clear hb2 p0 p1 p2 p3 p4 q0 q1 q2 q3 q4 la lb HK1
  generalize hfb : (decide (cb.o.length ≤ 40) && decide (cb.w.length ≤ 40)) = fb
  cases fb with
  | false =>
   go_wp2_with fail
   refine (bA w2 HK2.out.lqAt).mono ?_
   rintro e w3 ⟨rfl, hb3⟩
   go_wp2_with fail
   go_ret
   exact ⟨rfl, HK2.out.bel.trans (hb3.mono HK2.out.bel.size)⟩
  | true =>
   simp only [Bool.and_eq_true, decide_eq_true_eq] at hfa hfb
   have HF := hid (And.intro hfa hfb)
   clear hfa hfb
   have la := HK2.out.pa.lt
   obtain ⟨p0, p1, p2, p3, p4⟩ := HK2.out.pa.cells
   have lb := HK2.out.pb.lt
   obtain ⟨q0, q1, q2, q3, q4⟩ := HK2.out.pb.cells
   go_wp2_with fail
   refine (bT _ _ ca _ _ HK2.out.pa.r HN.out.1.2.2.2.2 HK2.out.lqAt).mono ?_
   rintro e w3 ⟨rfl, hb3⟩
   have HK3 := hid (HK2.out.below hb3)
   clear hb3 HK2 p0 p1 p2 p3 p4 la q0 q1 q2 q3 q4 lb
   generalize hra : ca.right = ra
   have HRA := hid hra
   clear hra
   cases ra with
   | false =>
    have la := HK3.out.pa.lt
    obtain ⟨p0, p1, p2, p3, p4⟩ := HK3.out.pa.cells
    go_wp2_with fail
    refine (bU _ _ ca _ _ HK3.out.pa.r HN.out.1 (by have := HF.out; omega) HK3.out.lqAt).mono ?_
    rintro e w4 hput
    obtain ⟨u, rfl, hur, hb4⟩ := hput.uni
    have he0 : ca.err = 280 := by unfold Crt.err; rw [HRA.out]; rfl
    have hp0 : ca.put = [] := by unfold Crt.put; rw [HRA.out]; rfl
    rw [he0]
    rw [hp0] at hur
    obtain ⟨_, ud, uc, rfl, _⟩ := hur.shape
    rw [show ([] : List UInt8).length = 0 from rfl]
    have HK4 := hid (HK3.out.below hb4)
    clear hb4 hput he0 hp0 hur HK3 p0 p1 p2 p3 p4 la
    have la := HK4.out.pa.lt
    obtain ⟨p0, p1, p2, p3, p4⟩ := HK4.out.pa.cells
    go_wp2_with fail
    refine (bT _ _ ca _ _ HK4.out.pa.r HN.out.1.2.2.2.2 HK4.out.lqAt).mono ?_
    rintro e w5 ⟨rfl, hb5⟩
    have HK5 := hid (HK4.out.below hb5)
    rw [HRA.out]
    clear hb5 HK4 p0 p1 p2 p3 p4 la
    have la := HK5.out.pa.lt
    obtain ⟨p0, p1, p2, p3, p4⟩ := HK5.out.pa.cells
    go_wp2_with fail
    refine (aT _ _ ca _ _ HK5.out.pa.r HN.out.1 (.inr HRA.out) (by have := HF.out; omega) HK5.out.lqAt).mono ?_
    rintro e w6 ⟨rfl, hb6⟩
    have HK6 := hid (HK5.out.below hb6)
    have ht0 : ca.text = [] := by unfold Crt.text; rw [HRA.out]; rfl
    rw [ht0]
    clear hb6 ht0 HK5 p0 p1 p2 p3 p4 la
    go_wp2_with fail
    refine (bA w6 HK6.out.lqAt).mono ?_
    rintro e w7 ⟨rfl, hb7⟩
    go_wp2_with fail
    go_ret
    exact ⟨rfl, HK6.out.bel.trans (hb7.mono HK6.out.bel.size)⟩
   | true =>
   have la := HK3.out.pa.lt
   obtain ⟨p0, p1, p2, p3, p4⟩ := HK3.out.pa.cells
   have lb := HK3.out.pb.lt
   obtain ⟨q0, q1, q2, q3, q4⟩ := HK3.out.pb.cells
   go_wp2_with fail
   refine (bT _ _ cb _ _ HK3.out.pb.r HN.out.2.2.2.2.2 HK3.out.lqAt).mono ?_
   rintro e w4 ⟨rfl, hb4⟩
   have HK4 := hid (HK3.out.below hb4)
   clear hb4 HK3 q0 q1 q2 q3 q4 lb p0 p1 p2 p3 p4 la
   generalize hrb : cb.right = rb
   have HRB := hid hrb
   clear hrb
   cases rb with
   | false =>
    have la := HK4.out.pa.lt
    obtain ⟨p0, p1, p2, p3, p4⟩ := HK4.out.pa.cells
    go_wp2_with fail
    refine (bU _ _ ca _ _ HK4.out.pa.r HN.out.1 (by have := HF.out; omega) HK4.out.lqAt).mono ?_
    rintro e w5 hput
    obtain ⟨u, rfl, hur, hb5⟩ := kw hput HRA.out
    have HK5 := hid (HK4.out.below hb5)
    clear hb5 hput hur HK4 p0 p1 p2 p3 p4 la
    have la := HK5.out.pa.lt
    obtain ⟨p0, p1, p2, p3, p4⟩ := HK5.out.pa.cells
    go_wp2_with fail
    refine (bT _ _ ca _ _ HK5.out.pa.r HN.out.1.2.2.2.2 HK5.out.lqAt).mono ?_
    rintro e w6 ⟨rfl, hb6⟩
    have HK6 := hid (HK5.out.below hb6)
    rw [HRA.out]
    clear hb6 HK5 p0 p1 p2 p3 p4 la
    go_wp2_with fail
    refine (bA w6 HK6.out.lqAt).mono ?_
    rintro e w7 ⟨rfl, hb7⟩
    go_wp2_with fail
    go_ret
    exact ⟨rfl, HK6.out.bel.trans (hb7.mono HK6.out.bel.size)⟩
   | true =>
   obtain ⟨LA, hLA⟩ : ∃ l, l = ca.bytes := ⟨_, rfl⟩
   obtain ⟨LB, hLB⟩ : ∃ l, l = cb.bytes := ⟨_, rfl⟩
   have n6 : 6 ≤ LA.length := by rw [hLA]; exact Crt.bytes_six ca
   have m6 : 6 ≤ LB.length := by rw [hLB]; exact Crt.bytes_six cb
   have n9 : LA.length ≤ 9500 := by rw [hLA]; exact Crt.bytes_small HF.out.1.1 HF.out.1.2
   obtain ⟨D, hD⟩ : ∃ d, d = decide (ca = cb) := ⟨_, rfl⟩
   have HS : Hid (decide (LA = LB) = D) := hid (by rw [hLA, hLB, hD]; exact decide_eq_decide.2 (Crt.bytes_iff HRA.out HRB.out HN.out.1 HN.out.2))
   have HQ : Hid (decide (ca = cb) = D) := hid hD.symm
   obtain ⟨TA, hTA⟩ : ∃ t : ByteArray, t = ⟨ca.text.toArray⟩ := ⟨_, rfl⟩
   obtain ⟨TB, hTB⟩ : ∃ t : ByteArray, t = ⟨cb.text.toArray⟩ := ⟨_, rfl⟩
   have HTD : Hid ((TA.toList == TB.toList) = D) := hid (by
    rw [hTA, hTB, ByteArray.toList_eq, ByteArray.toList_eq, hD, Bool.eq_iff_iff]
    simp only [beq_iff_eq, decide_eq_true_eq]
    simpa using Crt.text_iff HRA.out HRB.out)
   have HTZ : Hid (TA.size ≤ 9500 ∧ TA.data.toList = ca.text) := hid ⟨by
    have h := Crt.text_small HN.out.1 HF.out.1.1 HF.out.1.2
    rw [← ay, hTA]; exact h, by rw [hTA]⟩
   have HLA := hid hLA
   have HLB := hid hLB
   have HTA := hid hTA
   have HTB := hid hTB
   clear hLA hLB hD hTA hTB
   have la := HK4.out.pa.lt
   obtain ⟨p0, p1, p2, p3, p4⟩ := HK4.out.pa.cells
   go_wp2_with fail
   refine (bU _ _ ca _ _ HK4.out.pa.r HN.out.1 (by have := HF.out; omega) HK4.out.lqAt).mono ?_
   rintro e w5 hput
   obtain ⟨u, rfl, hur, hb5⟩ := kw hput HRA.out
   rw [← HLA.out] at hur
   obtain ⟨_, pd, lc, rfl, hlc⟩ := hur.shape
   obtain ⟨bl, off, rfl, _, _⟩ := au.at8 hur (j := 0) (by omega)
   have HP5 : Hid (au w5 (fun _ => True) false LA (.slice (some ⟨bl, off, none⟩) LA.length lc)) := hid (Sl.unown (Sl.keep hur (by omega) (fun _ _ _ => rfl) (fun _ _ _ => trivial)))
   have HK5 := hid (HK4.out.below hb5)
   clear hb5 hput hur HK4 p0 p1 p2 p3 p4 la
   have la := HK5.out.pa.lt
   obtain ⟨p0, p1, p2, p3, p4⟩ := HK5.out.pa.cells
   have lb := HK5.out.pb.lt
   obtain ⟨q0, q1, q2, q3, q4⟩ := HK5.out.pb.cells
   go_wp2_with fail
   refine (bU _ _ cb _ _ HK5.out.pb.r HN.out.2 (by have := HF.out; omega) HK5.out.lqAt).mono ?_
   rintro e w6 hput
   obtain ⟨u, rfl, hur, hb6⟩ := kw hput HRB.out
   rw [← HLB.out] at hur
   obtain ⟨_, md, mc, rfl, hmc⟩ := hur.shape
   have HP6 : Hid (au w6 (fun _ => True) false LA (.slice (some ⟨bl, off, none⟩) LA.length lc) ∧ au w6 (fun _ => True) false LB (.slice md LB.length mc)) := hid ⟨HP5.out.below hb6 nl, Sl.unown (Sl.keep hur (by omega) (fun _ _ _ => rfl) (fun _ _ _ => trivial))⟩
   have HK6 := hid (HK5.out.below hb6)
   clear hb6 hput hur HK5 HP5 p0 p1 p2 p3 p4 la q0 q1 q2 q3 q4 lb
   go_wp2_with fail
   refine (fB _ _ LA _ w6 HP6.out.1 (by omega) HK6.out.lqAt).mono ?_
   intro e w7 h7
   obtain ⟨xa, xc, xb, xd, rfl, hr7, hb7⟩ := h7.yes (c := ca) (by rw [HLA.out]; exact sZ HRA.out HN.out.1)
   have hs7 := hb7.size
   go_upto_region 9 with fail
   have hb8 : Below w6.heap.size w6 (w7.alloc (.cells #[.int .i64 ca.k, .slice xa ca.o.length xc, .int .i64 ca.p, .int .i64 ca.q, .slice xb ca.w.length xd] 25)) := hb7.alloc hs7 _
   have HB8 : Hid (DB 25 w7.heap.size (fun k => w6.heap.size ≤ k ∧ k < w7.heap.size) ca #[.int .i64 ca.k, .slice xa ca.o.length xc, .int .i64 ca.p, .int .i64 ca.q, .slice xb ca.w.length xd] (w7.alloc (.cells #[.int .i64 ca.k, .slice xa ca.o.length xc, .int .i64 ca.p, .int .i64 ca.q, .slice xb ca.w.length xd] 25))) := hid (DB.of_new hr7)
   have HK8 := hid (HK6.out.below hb8)
   have HP8 := hid (And.intro (HP6.out.1.below hb8 nl) (HP6.out.2.below hb8 nl))
   generalize w7.alloc (.cells #[.int .i64 ca.k, .slice xa ca.o.length xc, .int .i64 ca.p, .int .i64 ca.q, .slice xb ca.w.length xd] 25) = w8 at HB8 HK8 HP8 ⊢
   clear h7 hr7 hb7 hb8 hs7 HK6 HP6
   have la := HK8.out.pa.lt
   obtain ⟨p0, p1, p2, p3, p4⟩ := HK8.out.pa.cells
   go_wp2_with fail
   refine (aT _ _ ca _ _ HK8.out.pa.r HN.out.1 (.inl (by have := HF.out; omega)) (by have := HF.out; omega) HK8.out.lqAt).mono ?_
   rintro e w9 ⟨rfl, hb9⟩
   rw [← HTA.out]
   have HK9 := hid (HK8.out.below hb9)
   have HP9 := hid (And.intro (HP8.out.1.below hb9 nl) (HP8.out.2.below hb9 nl))
   have HB9 := hid (HB8.out.below hb9 nl)
   clear hb9 HK8 HP8 HB8 p0 p1 p2 p3 p4 la
   go_wp2_with fail
   refine (ni TA HTZ.out.1 w9 HK9.out.lqAt).mono ?_
   intro e w10 h10
   obtain ⟨ya, yc, yb, yd, rfl, hr10, hb10⟩ := h10.yes (c := ca) (by rw [HTZ.out.2]; exact vJ HRA.out HN.out.1)
   have hs10 := hb10.size
   go_upto_region 10 with fail
   have hb11 : Below w9.heap.size w9 (w10.alloc (.cells #[.int .i64 ca.k, .slice ya ca.o.length yc, .int .i64 ca.p, .int .i64 ca.q, .slice yb ca.w.length yd] 25)) := hb10.alloc hs10 _
   have HB11 : Hid (DB 25 w10.heap.size (fun k => w9.heap.size ≤ k ∧ k < w10.heap.size) ca #[.int .i64 ca.k, .slice ya ca.o.length yc, .int .i64 ca.p, .int .i64 ca.q, .slice yb ca.w.length yd] (w10.alloc (.cells #[.int .i64 ca.k, .slice ya ca.o.length yc, .int .i64 ca.p, .int .i64 ca.q, .slice yb ca.w.length yd] 25)) ∧ DB 25 w7.heap.size (fun k => w6.heap.size ≤ k ∧ k < w7.heap.size) ca #[.int .i64 ca.k, .slice xa ca.o.length xc, .int .i64 ca.p, .int .i64 ca.q, .slice xb ca.w.length xd] (w10.alloc (.cells #[.int .i64 ca.k, .slice ya ca.o.length yc, .int .i64 ca.p, .int .i64 ca.q, .slice yb ca.w.length yd] 25))) := hid ⟨DB.of_new hr10, HB9.out.below hb11 nl⟩
   have HK11 := hid (HK9.out.below hb11)
   have HP11 := hid (And.intro (HP9.out.1.below hb11 nl) (HP9.out.2.below hb11 nl))
   generalize w10.alloc (.cells #[.int .i64 ca.k, .slice ya ca.o.length yc, .int .i64 ca.p, .int .i64 ca.q, .slice yb ca.w.length yd] 25) = w11 at HB11 HK11 HP11 ⊢
   clear h10 hr10 hb10 hb11 hs10 HK9 HP9 HB9
   have la := HK11.out.pa.lt
   obtain ⟨p0, p1, p2, p3, p4⟩ := HK11.out.pa.cells
   have lb := HK11.out.pb.lt
   obtain ⟨q0, q1, q2, q3, q4⟩ := HK11.out.pb.cells
   have lx := HB11.out.2.lt
   have ly := HB11.out.1.lt
   obtain ⟨x0, x1, x2, x3, x4⟩ := HB11.out.2.cells
   obtain ⟨y0, y1, y2, y3, y4⟩ := HB11.out.1.cells
   refine aK (w0 := w11) rfl ((.eq (.int .i64 0)) :: (.eq (.bool false)) :: (.eq (.bool false)) :: (.eq (.int .i64 0)) :: (.eq (.bool false)) :: (.eq (.bool false)) :: (.eq (.bool false)) :: (.eq (.int .i64 0)) :: (.eq (.bool false)) :: (.eq (.bool false)) :: (.eq (.bool false)) :: (.eq (.int .i64 0)) :: (.eq (.bool false)) :: (.eq (.bool false)) :: (.eq (.bool false)) :: (.eq (.agg #[.int .i64 ca.k, .slice xa ca.o.length xc, .int .i64 ca.p, .int .i64 ca.q, .slice xb ca.w.length xd])) :: (.eq (.agg #[.int .i64 ca.k, .slice ad ca.o.length cp, .int .i64 ca.p, .int .i64 ca.q, .slice ad' ca.w.length cp'])) :: (.eq (.bool true)) :: (.eq (.bool false)) :: (.eq (.bool false)) :: (.eq (.bool false)) :: (.eq (.agg #[.int .i64 ca.k, .slice ya ca.o.length yc, .int .i64 ca.p, .int .i64 ca.q, .slice yb ca.w.length yd])) :: (.eq (.agg #[.int .i64 ca.k, .slice ad ca.o.length cp, .int .i64 ca.p, .int .i64 ca.q, .slice ad' ca.w.length cp'])) :: (.eq (.bool true)) :: (.eq (.bool false)) :: (.eq (.bool false)) :: (.eq (.bool false)) :: (.eq (.slice (some ⟨bl, off, none⟩) LA.length lc)) :: (.eq (.slice md LB.length mc)) :: (.eq (.bool D)) :: (.eq (.agg #[.int .i64 ca.k, .slice ad ca.o.length cp, .int .i64 ca.p, .int .i64 ca.q, .slice ad' ca.w.length cp'])) :: (.eq (.agg #[.int .i64 cb.k, .slice bd cb.o.length dp, .int .i64 cb.p, .int .i64 cb.q, .slice bd' cb.w.length dp'])) :: (.eq (.bool D)) :: (.eq (.bool false)) :: (.eq (.bool false)) :: (.eq (.bool false)) :: (.eq (.agg #[.int .i64 ca.k, .slice ad ca.o.length cp, .int .i64 ca.p, .int .i64 ca.q, .slice ad' ca.w.length cp'])) :: (.eq (.string TA)) :: (.eq (.agg #[.int .i64 cb.k, .slice bd cb.o.length dp, .int .i64 cb.p, .int .i64 cb.q, .slice bd' cb.w.length dp'])) :: (.eq (.string TB)) :: (.eq (.bool D)) :: (.eq (.agg #[.int .i64 ca.k, .slice ad ca.o.length cp, .int .i64 ca.p, .int .i64 ca.q, .slice ad' ca.w.length cp'])) :: (.eq (.agg #[.int .i64 cb.k, .slice bd cb.o.length dp, .int .i64 cb.p, .int .i64 cb.q, .slice bd' cb.w.length dp'])) :: (.eq (.bool D)) :: (.eq (.bool false)) :: (.eq (.bool false)) :: (.eq (.bool false)) :: (.eq (.slice (some ⟨bl, off, none⟩) LA.length lc)) :: (.eq (.int .i64 LA.length)) :: (.eq (.bool false)) :: (.eq (.bool false)) :: []) (by kernel_rfl) ⟨?_, ?_, ?_, ?_, ?_, ?_, ?_, ?_, ?_, ?_, ?_, ?_, ?_, ?_, ?_, ?_, ?_, ?_, ?_, ?_, ?_, ?_, ?_, ?_, ?_, ?_, ?_, ?_, ?_, ?_, ?_, ?_, ?_, ?_, ?_, ?_, ?_, ?_, ?_, ?_, ?_, ?_, ?_, ?_, ?_, ?_, ?_, ?_, ?_, ?_, ?_, trivial⟩ (fun vs => [(88, (.int .i64 0)), (89, (.bool false)), (90, (.bool false)), (91, (.int .i64 0)), (92, (.bool false)), (93, (.bool false)), (94, (.bool false)), (95, (.int .i64 0)), (96, (.bool false)), (97, (.bool false)), (98, (.bool false)), (99, (.int .i64 0)), (100, (.bool false)), (101, (.bool false)), (102, (.bool false)), (103, (.agg #[.int .i64 ca.k, .slice xa ca.o.length xc, .int .i64 ca.p, .int .i64 ca.q, .slice xb ca.w.length xd])), (104, (.agg #[.int .i64 ca.k, .slice ad ca.o.length cp, .int .i64 ca.p, .int .i64 ca.q, .slice ad' ca.w.length cp'])), (105, (.bool true)), (106, (.bool false)), (107, (.bool false)), (108, (.bool false)), (109, (.agg #[.int .i64 ca.k, .slice ya ca.o.length yc, .int .i64 ca.p, .int .i64 ca.q, .slice yb ca.w.length yd])), (110, (.agg #[.int .i64 ca.k, .slice ad ca.o.length cp, .int .i64 ca.p, .int .i64 ca.q, .slice ad' ca.w.length cp'])), (111, (.bool true)), (112, (.bool false)), (113, (.bool false)), (114, (.bool false)), (115, (.slice (some ⟨bl, off, none⟩) LA.length lc)), (116, (.slice md LB.length mc)), (117, (.bool D)), (118, (.agg #[.int .i64 ca.k, .slice ad ca.o.length cp, .int .i64 ca.p, .int .i64 ca.q, .slice ad' ca.w.length cp'])), (119, (.agg #[.int .i64 cb.k, .slice bd cb.o.length dp, .int .i64 cb.p, .int .i64 cb.q, .slice bd' cb.w.length dp'])), (120, (.bool D)), (121, (.bool false)), (122, (.bool false)), (123, (.bool false)), (124, (.agg #[.int .i64 ca.k, .slice ad ca.o.length cp, .int .i64 ca.p, .int .i64 ca.q, .slice ad' ca.w.length cp'])), (125, (.string TA)), (126, (.agg #[.int .i64 cb.k, .slice bd cb.o.length dp, .int .i64 cb.p, .int .i64 cb.q, .slice bd' cb.w.length dp'])), (127, (.string TB)), (128, (.bool D)), (129, (.agg #[.int .i64 ca.k, .slice ad ca.o.length cp, .int .i64 ca.p, .int .i64 ca.q, .slice ad' ca.w.length cp'])), (130, (.agg #[.int .i64 cb.k, .slice bd cb.o.length dp, .int .i64 cb.p, .int .i64 cb.q, .slice bd' cb.w.length dp'])), (131, (.bool D)), (132, (.bool false)), (133, (.bool false)), (134, (.bool false)), (135, (.slice (some ⟨bl, off, none⟩) LA.length lc)), (136, (.int .i64 LA.length)), (137, (.bool false)), (138, (.bool false))]) (fun _ => rfl) ?_
   ·refine rs fun S a wx K Q hR hK => ?_
    have t12 : a.tmps[12]? = some (.int .i64 0) := hR.o 12
    go_simp
    exact hK _ _ br rfl
   ·refine rs fun S a wx K Q hR hK => ?_
    have t88 := hR.q 0
    go_simp
    (try go_ints)
    exact hK _ _ br rfl
   ·refine rs fun S a wx K Q hR hK => ?_
    have t89 := hR.q 1
    go_simp
    exact hK _ _ br rfl
   ·refine rs fun S a wx K Q hR hK => ?_
    have t14 : a.tmps[14]? = some (.int .i64 0) := hR.o 14
    go_simp
    exact hK _ _ br rfl
   ·refine rs fun S a wx K Q hR hK => ?_
    have t91 := hR.q 3
    go_simp
    (try go_ints)
    exact hK _ _ br rfl
   ·refine rs fun S a wx K Q hR hK => ?_
    have t90 := hR.q 2
    have t92 := hR.q 4
    go_simp
    exact hK _ _ br rfl
   ·refine rs fun S a wx K Q hR hK => ?_
    have t93 := hR.q 5
    go_simp
    exact hK _ _ br rfl
   ·refine rs fun S a wx K Q hR hK => ?_
    have t16 : a.tmps[16]? = some (.int .i64 0) := hR.o 16
    go_simp
    exact hK _ _ br rfl
   ·refine rs fun S a wx K Q hR hK => ?_
    have t95 := hR.q 7
    go_simp
    (try go_ints)
    exact hK _ _ br rfl
   ·refine rs fun S a wx K Q hR hK => ?_
    have t94 := hR.q 6
    have t96 := hR.q 8
    go_simp
    exact hK _ _ br rfl
   ·refine rs fun S a wx K Q hR hK => ?_
    have t97 := hR.q 9
    go_simp
    exact hK _ _ br rfl
   ·refine rs fun S a wx K Q hR hK => ?_
    have t18 : a.tmps[18]? = some (.int .i64 0) := hR.o 18
    go_simp
    exact hK _ _ br rfl
   ·refine rs fun S a wx K Q hR hK => ?_
    have t99 := hR.q 11
    go_simp
    (try go_ints)
    exact hK _ _ br rfl
   ·refine rs fun S a wx K Q hR hK => ?_
    have t98 := hR.q 10
    have t100 := hR.q 12
    go_simp
    exact hK _ _ br rfl
   ·refine rs fun S a wx K Q hR hK => ?_
    have t101 := hR.q 13
    go_simp
    exact hK _ _ br rfl
   ·refine rs fun S a wx K Q hR hK => ?_
    have t15 : a.tmps[15]? = some (.pointer (some ⟨w7.heap.size, 0, none⟩)) := hR.o 15
    have y0 := (hR.bel.cell lx).trans x0
    have y1 := (hR.bel.cell lx).trans x1
    have y2 := (hR.bel.cell lx).trans x2
    have y3 := (hR.bel.cell lx).trans x3
    have y4 := (hR.bel.cell lx).trans x4
    go_simp
    exact hK _ _ br rfl
   ·refine rs fun S a wx K Q hR hK => ?_
    have t4 : a.tmps[4]? = some (.pointer (some ⟨w.heap.size, 0, none⟩)) := hR.o 4
    have y0 := (hR.bel.cell la).trans p0
    have y1 := (hR.bel.cell la).trans p1
    have y2 := (hR.bel.cell la).trans p2
    have y3 := (hR.bel.cell la).trans p3
    have y4 := (hR.bel.cell la).trans p4
    go_simp
    exact hK _ _ br rfl
   ·refine rs fun S a wx K Q hR hK => ?_
    have t103 := hR.q 15
    have t104 := hR.q 16
    go_simp
    go_at_call 12
    go_fit (dK _ _ _ _ ca ca _ _ _ (HB11.out.2.r.below hR.bel nl) (HK11.out.pa.r.below hR.bel nl))
    rintro e w' ⟨rfl, hbx⟩
    exact hK _ _ hbx (by show Value.bool _ = Value.bool true; simp)
   ·refine rs fun S a wx K Q hR hK => ?_
    have t105 := hR.q 17
    go_simp
    exact hK _ _ br rfl
   ·refine rs fun S a wx K Q hR hK => ?_
    have t102 := hR.q 14
    have t106 := hR.q 18
    go_simp
    exact hK _ _ br rfl
   ·refine rs fun S a wx K Q hR hK => ?_
    have t107 := hR.q 19
    go_simp
    exact hK _ _ br rfl
   ·refine rs fun S a wx K Q hR hK => ?_
    have t17 : a.tmps[17]? = some (.pointer (some ⟨w10.heap.size, 0, none⟩)) := hR.o 17
    have y0 := (hR.bel.cell ly).trans y0
    have y1 := (hR.bel.cell ly).trans y1
    have y2 := (hR.bel.cell ly).trans y2
    have y3 := (hR.bel.cell ly).trans y3
    have y4 := (hR.bel.cell ly).trans y4
    go_simp
    exact hK _ _ br rfl
   ·refine rs fun S a wx K Q hR hK => ?_
    have t4 : a.tmps[4]? = some (.pointer (some ⟨w.heap.size, 0, none⟩)) := hR.o 4
    have y0 := (hR.bel.cell la).trans p0
    have y1 := (hR.bel.cell la).trans p1
    have y2 := (hR.bel.cell la).trans p2
    have y3 := (hR.bel.cell la).trans p3
    have y4 := (hR.bel.cell la).trans p4
    go_simp
    exact hK _ _ br rfl
   ·refine rs fun S a wx K Q hR hK => ?_
    have t109 := hR.q 21
    have t110 := hR.q 22
    go_simp
    go_at_call 12
    go_fit (dK _ _ _ _ ca ca _ _ _ (HB11.out.1.r.below hR.bel nl) (HK11.out.pa.r.below hR.bel nl))
    rintro e w' ⟨rfl, hbx⟩
    exact hK _ _ hbx (by show Value.bool _ = Value.bool true; simp)
   ·refine rs fun S a wx K Q hR hK => ?_
    have t111 := hR.q 23
    go_simp
    exact hK _ _ br rfl
   ·refine rs fun S a wx K Q hR hK => ?_
    have t108 := hR.q 20
    have t112 := hR.q 24
    go_simp
    exact hK _ _ br rfl
   ·refine rs fun S a wx K Q hR hK => ?_
    have t113 := hR.q 25
    go_simp
    exact hK _ _ br rfl
   ·refine rs fun S a wx K Q hR hK => ?_
    have t11 : a.tmps[11]? = some (.slice (some ⟨bl, off, none⟩) LA.length lc) := hR.o 11
    go_simp
    exact hK _ _ br rfl
   ·refine rs fun S a wx K Q hR hK => ?_
    have t13 : a.tmps[13]? = some (.slice md LB.length mc) := hR.o 13
    go_simp
    exact hK _ _ br rfl
   ·refine rs fun S a wx K Q hR hK => ?_
    have t115 := hR.q 27
    have t116 := hR.q 28
    go_simp
    go_at_call 13
    go_fit (dV _ _ _ _ LA LB _ _ _ (HP11.out.1.below hR.bel nl) (HP11.out.2.below hR.bel nl))
    rintro e w' ⟨rfl, hbx⟩
    exact hK _ _ hbx (by show Value.bool _ = Value.bool D; rw [HS.out])
   ·refine rs fun S a wx K Q hR hK => ?_
    have t4 : a.tmps[4]? = some (.pointer (some ⟨w.heap.size, 0, none⟩)) := hR.o 4
    have y0 := (hR.bel.cell la).trans p0
    have y1 := (hR.bel.cell la).trans p1
    have y2 := (hR.bel.cell la).trans p2
    have y3 := (hR.bel.cell la).trans p3
    have y4 := (hR.bel.cell la).trans p4
    go_simp
    exact hK _ _ br rfl
   ·refine rs fun S a wx K Q hR hK => ?_
    have t5 : a.tmps[5]? = some (.pointer (some ⟨w.heap.size + 1, 0, none⟩)) := hR.o 5
    have y0 := (hR.bel.cell lb).trans q0
    have y1 := (hR.bel.cell lb).trans q1
    have y2 := (hR.bel.cell lb).trans q2
    have y3 := (hR.bel.cell lb).trans q3
    have y4 := (hR.bel.cell lb).trans q4
    go_simp
    exact hK _ _ br rfl
   ·refine rs fun S a wx K Q hR hK => ?_
    have t118 := hR.q 30
    have t119 := hR.q 31
    go_simp
    go_at_call 12
    go_fit (dK _ _ _ _ ca cb _ _ _ (HK11.out.pa.r.below hR.bel nl) (HK11.out.pb.r.below hR.bel nl))
    rintro e w' ⟨rfl, hbx⟩
    exact hK _ _ hbx (by show Value.bool _ = Value.bool D; rw [HQ.out])
   ·refine rs fun S a wx K Q hR hK => ?_
    have t117 := hR.q 29
    have t120 := hR.q 32
    go_simp
    exact hK _ _ br (by show Value.bool _ = Value.bool false; simp)
   ·refine rs fun S a wx K Q hR hK => ?_
    have t114 := hR.q 26
    have t121 := hR.q 33
    go_simp
    exact hK _ _ br rfl
   ·refine rs fun S a wx K Q hR hK => ?_
    have t122 := hR.q 34
    go_simp
    exact hK _ _ br rfl
   ·refine rs fun S a wx K Q hR hK => ?_
    have t4 : a.tmps[4]? = some (.pointer (some ⟨w.heap.size, 0, none⟩)) := hR.o 4
    have y0 := (hR.bel.cell la).trans p0
    have y1 := (hR.bel.cell la).trans p1
    have y2 := (hR.bel.cell la).trans p2
    have y3 := (hR.bel.cell la).trans p3
    have y4 := (hR.bel.cell la).trans p4
    go_simp
    exact hK _ _ br rfl
   ·refine rs fun S a wx K Q hR hK => ?_
    have t124 := hR.q 36
    go_simp
    go_at_call 9
    go_fit (aT _ _ ca _ _ (HK11.out.pa.r.below hR.bel nl) HN.out.1 (.inl (by have := HF.out; omega)) (by have := HF.out; omega) (HK11.out.below hR.bel).lqAt)
    rintro e w' ⟨rfl, hbx⟩
    exact hK _ _ hbx (by show Value.string _ = Value.string TA; rw [HTA.out])
   ·refine rs fun S a wx K Q hR hK => ?_
    have t5 : a.tmps[5]? = some (.pointer (some ⟨w.heap.size + 1, 0, none⟩)) := hR.o 5
    have y0 := (hR.bel.cell lb).trans q0
    have y1 := (hR.bel.cell lb).trans q1
    have y2 := (hR.bel.cell lb).trans q2
    have y3 := (hR.bel.cell lb).trans q3
    have y4 := (hR.bel.cell lb).trans q4
    go_simp
    exact hK _ _ br rfl
   ·refine rs fun S a wx K Q hR hK => ?_
    have t126 := hR.q 38
    go_simp
    go_at_call 9
    go_fit (aT _ _ cb _ _ (HK11.out.pb.r.below hR.bel nl) HN.out.2 (.inl (by have := HF.out; omega)) (by have := HF.out; omega) (HK11.out.below hR.bel).lqAt)
    rintro e w' ⟨rfl, hbx⟩
    exact hK _ _ hbx (by show Value.string _ = Value.string TB; rw [HTB.out])
   ·refine rs fun S a wx K Q hR hK => ?_
    have t125 := hR.q 37
    have t127 := hR.q 39
    go_simp
    exact hK _ _ br (by show Value.bool _ = Value.bool D; rw [HTD.out])
   ·refine rs fun S a wx K Q hR hK => ?_
    have t4 : a.tmps[4]? = some (.pointer (some ⟨w.heap.size, 0, none⟩)) := hR.o 4
    have y0 := (hR.bel.cell la).trans p0
    have y1 := (hR.bel.cell la).trans p1
    have y2 := (hR.bel.cell la).trans p2
    have y3 := (hR.bel.cell la).trans p3
    have y4 := (hR.bel.cell la).trans p4
    go_simp
    exact hK _ _ br rfl
   ·refine rs fun S a wx K Q hR hK => ?_
    have t5 : a.tmps[5]? = some (.pointer (some ⟨w.heap.size + 1, 0, none⟩)) := hR.o 5
    have y0 := (hR.bel.cell lb).trans q0
    have y1 := (hR.bel.cell lb).trans q1
    have y2 := (hR.bel.cell lb).trans q2
    have y3 := (hR.bel.cell lb).trans q3
    have y4 := (hR.bel.cell lb).trans q4
    go_simp
    exact hK _ _ br rfl
   ·refine rs fun S a wx K Q hR hK => ?_
    have t129 := hR.q 41
    have t130 := hR.q 42
    go_simp
    go_at_call 12
    go_fit (dK _ _ _ _ ca cb _ _ _ (HK11.out.pa.r.below hR.bel nl) (HK11.out.pb.r.below hR.bel nl))
    rintro e w' ⟨rfl, hbx⟩
    exact hK _ _ hbx (by show Value.bool _ = Value.bool D; rw [HQ.out])
   ·refine rs fun S a wx K Q hR hK => ?_
    have t128 := hR.q 40
    have t131 := hR.q 43
    go_simp
    exact hK _ _ br (by show Value.bool _ = Value.bool false; simp)
   ·refine rs fun S a wx K Q hR hK => ?_
    have t123 := hR.q 35
    have t132 := hR.q 44
    go_simp
    exact hK _ _ br rfl
   ·refine rs fun S a wx K Q hR hK => ?_
    have t133 := hR.q 45
    go_simp
    exact hK _ _ br rfl
   ·refine rs fun S a wx K Q hR hK => ?_
    have t11 : a.tmps[11]? = some (.slice (some ⟨bl, off, none⟩) LA.length lc) := hR.o 11
    go_simp
    exact hK _ _ br rfl
   ·refine rs fun S a wx K Q hR hK => ?_
    have t135 := hR.q 47
    go_simp
    exact hK _ _ br rfl
   ·refine rs fun S a wx K Q hR hK => ?_
    have t136 := hR.q 48
    go_simp
    exact hK _ _ br (ET n6)
   ·refine rs fun S a wx K Q hR hK => ?_
    have t134 := hR.q 46
    have t137 := hR.q 49
    go_simp
    exact hK _ _ br rfl
   intro S12 vs w12 hD
   have HK12 := hid (HK11.out.below hD.bel)
   have HP12 := hid (HP11.out.1.below hD.bel nl)
   simp only [aP, List.foldl_cons, List.foldl_nil]
   clear hD HK11 HP11 HB11 lx ly x0 x1 x2 x3 x4 y0 y1 y2 y3 y4 p0 p1 p2 p3 p4 la q0 q1 q2 q3 q4 lb HS HQ HTD HTZ HTA HTB HLB
   go_simp
   go_wp2_with fail
   refine (gW _ _ LA _ w12 HP12.out (by omega)).mono ?_
   rintro e w13 ⟨v1, rfl, hown, hb13⟩
   have HO13 := hid (And.intro hown hb13)
   have hs13 := HO13.out.2.size
   clear hown hb13
   go_wp2_with (at_builtin; go_loud (refine af _ rfl (.tmp 141) (.tmp 143) _ rfl w12.heap.size 5 i0 _ 1 1 Tryz.underlying29 hi0 hz0 hz1 hz2 rfl (by omega) _ LA.length (bytes LA) rfl (HO13.out.1.alloc _) _ _ 1 [.int .u8 (ub.toNat : Int)] _ rfl (Sl.of_owns (ownsRow_lit w13 0 #[.int .u8 (ub.toNat : Int)] 5 (Nat.zero_le _) (by simp)) (by omega)) (by simp [Value.oneCell']) (by unfold maxLen; omega) (by omega) (by simp; omega) ?_); intro v' w14 hown14 hgrow hat)
   have hlo := HO13.out.1.lt
   have HN14 : Hid (au w14 (fun _ => True) false (LA ++ [ub]) v' ∧ Below w12.heap.size w12 w14) := hid (by
    have e1 : (LA ++ [ub]).length = LA.length + 1 := by simp
    have e2 : bytes (LA ++ [ub]) = bytes LA ++ [.int .u8 (ub.toNat : Int)] := by simp [bytes]
    refine ⟨Sl.unown (Sl.keep (au.of_owns (l := LA ++ [ub]) (by rw [e1, e2]; exact hown14)) (by omega) (fun _ _ _ => rfl) (fun _ _ _ => trivial)), ?_⟩
    exact (HO13.out.2.alloc (by omega) _).grown hgrow (by simp; omega) (fun k hk => (hlo k hk).1))
   have HK14 := hid (HK12.out.below HN14.out.2)
   have HP14 := hid (HP12.out.below HN14.out.2 nl)
   clear hown14 hgrow hat hlo HO13 HK12 HP12
   go_wp2_with fail
   refine (fB _ _ (LA ++ [ub]) v' w14 HN14.out.1 (by simp; omega) HK14.out.lqAt).mono ?_
   intro e w15 h15
   obtain ⟨ra, rc, rb, rd, rfl, hb15⟩ := h15.no (by rw [HLA.out]; exact pq HRA.out ub)
   have hs15 := hb15.size
   go_upto_region 13 with fail
   have hb16 : Below w14.heap.size w14 (w15.alloc (.cells #[.int .i64 0, .slice ra 0 rc, .int .i64 0, .int .i64 0, .slice rb 0 rd] 25)) := hb15.alloc hs15 _
   have HK16 := hid (HK14.out.below hb16)
   have HP16 := hid (HP14.out.below hb16 nl)
   generalize (w15.alloc (.cells #[.int .i64 0, .slice ra 0 rc, .int .i64 0, .int .i64 0, .slice rb 0 rd] 25)) = w16 at HK16 HP16 ⊢
   clear h15 hb15 hs15 hb16 HN14 HK14 HP14
   have k1 : (0 : Int) ≤ (LA.length : Int) - 1 := by omega
   have k2 : (LA.length : Int) - 1 ≤ (lc : Int) := by omega
   have k3 : ((LA.length : Int) - 1).toNat = LA.length - 1 := by omega
   go_wp2_with fail
   refine (fB _ _ (LA.take (LA.length - 1)) _ w16 (au.head HP16.out (LA.length - 1) lc (by omega) (by omega)) (by rw [List.length_take]; omega) HK16.out.lqAt).mono ?_
   intro e w17 h17
   obtain ⟨ra, rc, rb, rd, rfl, hb17⟩ := h17.no (by rw [HLA.out]; exact nQ HRA.out (fun e => by have := Crt.bytes_six ca; rw [e] at this; simp at this))
   have hs17 := hb17.size
   go_upto_region 14 with fail
   have hb18 : Below w16.heap.size w16 (w17.alloc (.cells #[.int .i64 0, .slice ra 0 rc, .int .i64 0, .int .i64 0, .slice rb 0 rd] 25)) := hb17.alloc hs17 _
   have HK18 := hid (HK16.out.below hb18)
   have HP18 := hid (HP16.out.below hb18 nl)
   generalize (w17.alloc (.cells #[.int .i64 0, .slice ra 0 rc, .int .i64 0, .int .i64 0, .slice rb 0 rd] 25)) = w18 at HK18 HP18 ⊢
   clear h17 hb17 hs17 hb18 HK16 HP16 k1 k2 k3
   go_wp2_with fail
   refine (gW _ _ LA _ w18 HP18.out (by omega)).mono ?_
   rintro e w19 ⟨v1, rfl, hown, hb19⟩
   have hrc := au.of_owns hown
   obtain ⟨_, cd, cc, rfl, hcc⟩ := hrc.shape
   obtain ⟨gb, go, rfl, hgS, _⟩ := au.at8 hrc (j := 0) (by omega)
   have hg18 : w18.heap.size ≤ gb := hgS.2
   have HC19 := hid (And.intro hrc hb19)
   clear hown hrc hb19 hgS HP18
   go_wp2_with fail
   refine (Dt xi LA.length w19 HX.out (by omega) (by omega)).mono ?_
   rintro e w20 ⟨⟨j, hj, rfl⟩, hb20⟩
   have HC20 := hid (And.intro (HC19.out.1.below hb20 nl) (HC19.out.2.trans (hb20.mono HC19.out.2.size)))
   obtain ⟨gb', go', hge, _, hgc⟩ := au.cell HC20.out.1 (by omega)
   obtain ⟨hc0, hf0⟩ := hgc j hj
   have hge' : gb = gb' ∧ go = go' := by simpa using hge
   obtain ⟨rfl, rfl⟩ := hge'
   obtain ⟨b0, hb0⟩ : ∃ b : UInt8, b = LA[j] := ⟨_, rfl⟩
   rw [← hb0] at hc0
   have hf0 := hf0 rfl
   have HB0 := hid hb0
   have x1 : (0 : Int) ≤ (j : Int) := by omega
   have x2 : (j : Int) < (LA.length : Int) := by omega
   clear hb20 HC19 hge hgc hb0
   go_upto_region 17 with fail
   have e1 : ((b0.toNat : Int) + (ub.toNat : Int)) % 256 = (((b0 + ub).toNat : Nat) : Int) := by rw [UInt8.toNat_add]; omega
   rw [e1]
   have hs20 := HC20.out.2.size
   have hb21 : Below w18.heap.size w18 (w20.setCell ⟨gb, go + j, none⟩ (.int .u8 (((b0 + ub).toNat : Nat) : Int))) := HC20.out.2.setCell (by simp; omega) _
   have HK21 := hid (HK18.out.below hb21)
   have HP21 := hid (au.set HC20.out.1 hj (b0 + ub))
   generalize (w20.setCell ⟨gb, go + j, none⟩ (.int .u8 (((b0 + ub).toNat : Nat) : Int))) = w21 at HK21 HP21 ⊢
   obtain ⟨LC, hLC⟩ : ∃ l, l = LA.set j (b0 + ub) := ⟨_, rfl⟩
   have hzc : LC.length = LA.length := by rw [hLC, List.length_set]
   have HLC : Hid (ub ≠ 0 → LC ≠ ca.bytes) := hid (by
    intro h e
    rw [← HLA.out] at e
    have h1 := congrArg (fun l : List UInt8 => l[j]?) e
    rw [hLC] at h1
    simp only [List.getElem?_set_self hj, List.getElem?_eq_getElem hj, Option.some.injEq] at h1
    rw [← HB0.out] at h1
    have h2 := congrArg UInt8.toNat h1
    rw [UInt8.toNat_add] at h2
    have h3 := ub.toNat_lt
    have h4 := b0.toNat_lt
    exact h (UInt8.toNat.inj (by show ub.toNat = 0; omega)))
   rw [← hLC] at HP21
   rw [← hzc] at HP21
   have HPC : Hid (au w21 _ true LC (.slice (some ⟨gb, go, none⟩) LC.length cc)) := HP21
   have hcs : Value.slice (some ⟨gb, go, none⟩) LA.length cc = .slice (some ⟨gb, go, none⟩) LC.length cc := by rw [hzc]
   have HZC := hid (And.intro hcs hzc)
   clear hb21 e1 hs20 HC20 HK18 HP21 hLC hcs hzc x1 x2 hc0 hf0
   go_wp2_with fail
   rw [HZC.out.1]
   refine (fB _ _ LC _ w21 HPC.out (by have := HZC.out.2; omega) HK21.out.lqAt).mono ?_
   intro e w22 h22
   have tb : ub = 0 → (ub.toNat : Int) = 0 := fun h => by rw [h]; rfl
   have tc : ub ≠ 0 → ¬ (ub.toNat : Int) = 0 := fun h e => h (UInt8.toNat.inj (by show ub.toNat = 0; omega))
   have HT := hid (And.intro tb tc)
   clear tb tc
   cases ho : crtParse LC with
   | none =>
    obtain ⟨ra, rc, rb, rd, rfl, hb22⟩ := h22.no ho
    have hs22 := hb22.size
    go_upto_region 18 with fail
    have hb23 : Below w21.heap.size w21 (w22.alloc (.cells #[.int .i64 0, .slice ra 0 rc, .int .i64 0, .int .i64 0, .slice rb 0 rd] 25)) := hb22.alloc hs22 _
    have HK23 := hid (HK21.out.below hb23)
    generalize (w22.alloc (.cells #[.int .i64 0, .slice ra 0 rc, .int .i64 0, .int .i64 0, .slice rb 0 rd] 25)) = w23 at HK23 ⊢
    clear h22 hb22 hs22 hb23 HK21 ho
    by_cases hu : ub = 0
    ·have t1 := HT.out.1 hu
     go_wp2_with fail
     refine (bA w23 HK23.out.lqAt).mono ?_
     rintro e w9 ⟨rfl, hb9⟩
     go_wp2_with fail
     go_ret
     exact ⟨rfl, HK23.out.bel.trans (hb9.mono HK23.out.bel.size)⟩
    ·have t1 := HT.out.2 hu
     go_wp2_with fail
     refine (bA w23 HK23.out.lqAt).mono ?_
     rintro e w9 ⟨rfl, hb9⟩
     go_wp2_with fail
     go_ret
     exact ⟨rfl, HK23.out.bel.trans (hb9.mono HK23.out.bel.size)⟩
   | some cz =>
    obtain ⟨za, zc, zb, zd, rfl, hr22, hb22⟩ := h22.yes ho
    have hs22 := hb22.size
    go_upto_region 18 with fail
    have hb23 : Below w21.heap.size w21 (w22.alloc (.cells #[.int .i64 cz.k, .slice za cz.o.length zc, .int .i64 cz.p, .int .i64 cz.q, .slice zb cz.w.length zd] 25)) := hb22.alloc hs22 _
    have HK23 := hid (HK21.out.below hb23)
    have HB23 := hid (DB.of_new (T := 25) hr22)
    have HNE : Hid (ub ≠ 0 → cz ≠ ca) := hid (fun h => rV ho (HLC.out h))
    generalize w22.alloc (.cells #[.int .i64 cz.k, .slice za cz.o.length zc, .int .i64 cz.p, .int .i64 cz.q, .slice zb cz.w.length zd] 25) = w23 at HK23 HB23 ⊢
    clear h22 hr22 hb22 hs22 hb23 HK21 ho
    by_cases hu : ub = 0
    ·have t1 := HT.out.1 hu
     go_wp2_with fail
     refine (bA w23 HK23.out.lqAt).mono ?_
     rintro e w9 ⟨rfl, hb9⟩
     go_wp2_with fail
     go_ret
     exact ⟨rfl, HK23.out.bel.trans (hb9.mono HK23.out.bel.size)⟩
    ·have t1 := HT.out.2 hu
     have hzn : decide (cz = ca) = false := decide_eq_false (HNE.out hu)
     have HZN := hid hzn
     have la := HK23.out.pa.lt
     obtain ⟨p0, p1, p2, p3, p4⟩ := HK23.out.pa.cells
     have lz := HB23.out.lt
     obtain ⟨z0, z1, z2, z3, z4⟩ := HB23.out.cells
     clear hzn
     go_wp2_with fail
     refine (dK _ _ _ _ cz ca _ _ _ HB23.out.r HK23.out.pa.r).mono ?_
     rintro e w24 ⟨rfl, hb24⟩
     rw [HZN.out]
     have HK24 := hid (HK23.out.below hb24)
     clear hb24 HK23 HB23 z0 z1 z2 z3 z4 lz p0 p1 p2 p3 p4 la
     go_wp2_with fail
     refine (bA w24 HK24.out.lqAt).mono ?_
     rintro e w9 ⟨rfl, hb9⟩
     go_wp2_with fail
     go_ret
     exact ⟨rfl, HK24.out.bel.trans (hb9.mono HK24.out.bel.size)⟩
end Go.Proofs.YtagnalfkmdjajaaGreatDoor
