/- Walks. -/
import Derived.Test.YtagnalfkmdjajaaGreatDoorYD09
import Derived.Test.YtagnalfkmdjajaaGreatDoorYD04
set_option maxHeartbeats 8000000
set_option maxRecDepth 100000
namespace Go.Proofs.YtagnalfkmdjajaaGreatDoor
open Go.RowKit Go
set_option linter.unusedVariables false
set_option linter.unusedSimpArgs false
def jJ : Crt := ⟨0, [], 0, 0, []⟩
def fQ (w : World) (o : Option Crt) (e : Ending) (w' : World) : Prop := ∃ v, e = .returned (.tuple #[v, .int .i64 (if o.isSome then 0 else 280)]) ∧ aL w' (fun b => w.heap.size ≤ b) true (o.getD jJ) v ∧ Below w.heap.size w w'
theorem aA {w w' : World} {o : Option Crt} (ho : o = none) (hb : Below w.heap.size w w') : fQ w o (.returned (.tuple #[.agg #[.int .i64 0, .slice none 0 0, .int .i64 0, .int .i64 0, .slice none 0 0], .int .i64 280])) w' := by
 subst ho
 exact ⟨_, rfl, ⟨_, _, rfl, bn.nil _ _ _, aX.nil _ _ _⟩, hb⟩
theorem uN (b : List UInt8) : (aO b).kind < 256 := by
 unfold aO
 split
 ·simp [Frm.no]
 ·split
  ·simp [Frm.no]
  ·split
   ·simp [Frm.no]
   ·split
    ·simp [Frm.no]
    ·split
     ·exact UInt8.toNat_lt _
     ·simp [Frm.no]
theorem fB (S : Nat → Prop) (own : Bool) (b : List UInt8) (v : Value) (w : World) (hr : au w S own b v) (hb : b.length ≤ 10000) (hL : Lq w.heap.size w) :
  Calls Tryz.prog 10 #[v] w (fQ w (crtParse b)) := by
 obtain ⟨_, ad, cap, rfl, hc⟩ := hr.shape
 have g0 := heap_alloc_new w (.cells #[.int .i64 0, .slice none 0 0, .int .i64 0, .int .i64 0, .slice none 0 0] 25)
 have hb0 : Below w.heap.size w (w.alloc (.cells #[.int .i64 0, .slice none 0 0, .int .i64 0, .int .i64 0, .slice none 0 0] 25)) := br.alloc nl _
 have hs0 : (w.alloc (.cells #[.int .i64 0, .slice none 0 0, .int .i64 0, .int .i64 0, .slice none 0 0] 25)).heap.size = w.heap.size + 1 := World.size_alloc _ _
 have HG := hid (BM S own b _ 0 _ (hr.below hb0 nl) (by omega) (by omega))
 have HL := hid (hL.below hb0)
 have HB := hid hb0
 clear hr hb0 hL
 go_enter Tryz.func10, Tryz.ntmps10
 go_wp2_with fail
 refine HG.out.mono ?_
 rintro e w1 ⟨pv, rfl, hp, hb1⟩
 rw [List.drop_zero] at hp ⊢
 obtain ⟨_, pad, pcap, rfl, hpc⟩ := hp.shape
 have g1 : w1.heap[w.heap.size]? = some (.cells #[.int .i64 0, .slice none 0 0, .int .i64 0, .int .i64 0, .slice none 0 0] 25 (0, 0)) := (hb1.block _ (by omega)).trans g0
 have HB1 := hid (HB.out.trans (hb1.mono (by omega)))
 have HL1 := hid (HL.out.below (hb1.mono (by omega)))
 have HP := hid hp
 have hs1 := hb1.size
 clear hb1 g0 hp HG HL HB
 have ga : ∀ cs T, (w1.alloc (.cells cs T)).heap[w.heap.size]? = some (.cells #[.int .i64 0, .slice none 0 0, .int .i64 0, .int .i64 0, .slice none 0 0] 25 (0, 0)) := fun cs T => (aU _ _ _ (by omega)).trans g1
 have hpl : (aO b).rule = 0 → (aO b).len = b.length → (aO b).pay.length ≤ b.length := fun h1 h2 => by
  have h3 := nU h1
  rw [h2, List.take_length] at h3
  have h4 := congrArg List.length h3
  unfold aS aM at h4
  simp only [List.length_append, List.length_cons] at h4
  omega
 by_cases h0 : (aO b).rule = 0
 ·rw [if_pos h0, h0]
  by_cases hl : (aO b).len = b.length
  ·rw [hl]
   by_cases hk : 17 ≤ (aO b).kind ∧ (aO b).kind ≤ 20
   ·have HE := hid (xM h0 hl hk)
    have hpl2 := hpl h0 hl
    obtain ⟨kd, hkd⟩ : ∃ ru, ru = (aO b).kind := ⟨_, rfl⟩
    rw [← hkd] at HE hk ⊢
    obtain ⟨py, hpy⟩ : ∃ ru, ru = (aO b).pay := ⟨_, rfl⟩
    rw [← hpy] at HE HP hpl2 ⊢
    obtain ⟨k, hkk⟩ : ∃ k : Int, k = (kd : Int) - 16 := ⟨_, rfl⟩
    rw [← hkk] at HE
    have hk5 : 1 ≤ k ∧ k < 5 := by omega
    have HK5 := hid hk5
    have e1 : (kd : Int) - 16 = k := hkk.symm
    have e2 : IntKind.i64.wrap k = k := by rw [IntKind.wrap_i64]; omega
    have q1 : (16 : Int) < (kd : Int) := by omega
    have q2 : ¬ (kd : Int) ≤ 16 := by omega
    have q3 : ¬ (21 : Int) ≤ (kd : Int) := by omega
    have q4 : (kd : Int) < 21 := by omega
    have HZ2 := hid (And.intro hb (And.intro hpl2 hs1))
    clear hkd hpy hkk hk5 h0 hl hpl ga hk hpl2 hpc hc
    go_upto_region 5 with fail
    have r2 : Below w1.heap.size w1 ((w1.alloc (.cells #[.int .u8 (kd : Nat), .slice pad py.length pcap] 72)).alloc (.cells #[.int .i64 k, .slice none 0 0, .int .i64 0, .int .i64 0, .slice none 0 0] 25)) := (br.alloc nl _).alloc (by simp) _
    have z2 : ((w1.alloc (.cells #[.int .u8 (kd : Nat), .slice pad py.length pcap] 72)).alloc (.cells #[.int .i64 k, .slice none 0 0, .int .i64 0, .int .i64 0, .slice none 0 0] 25)).heap.size = w1.heap.size + 2 := by rw [World.size_alloc, World.size_alloc]
    have f2 : ((w1.alloc (.cells #[.int .u8 (kd : Nat), .slice pad py.length pcap] 72)).alloc (.cells #[.int .i64 k, .slice none 0 0, .int .i64 0, .int .i64 0, .slice none 0 0] 25)).heap[w1.heap.size]? = some (.cells #[.int .u8 (kd : Nat), .slice pad py.length pcap] 72 (0, 0)) := (aU _ _ _ (by simp)).trans (az _ _ _ rfl)
    have k2 : ((w1.alloc (.cells #[.int .u8 (kd : Nat), .slice pad py.length pcap] 72)).alloc (.cells #[.int .i64 k, .slice none 0 0, .int .i64 0, .int .i64 0, .slice none 0 0] 25)).heap[w1.heap.size + 1]? = some (.cells #[.int .i64 k, .slice none 0 0, .int .i64 0, .int .i64 0, .slice none 0 0] 25 (0, 0)) := az _ _ _ (by simp)
    generalize ((w1.alloc (.cells #[.int .u8 (kd : Nat), .slice pad py.length pcap] 72)).alloc (.cells #[.int .i64 k, .slice none 0 0, .int .i64 0, .int .i64 0, .slice none 0 0] 25)) = w2 at r2 z2 f2 k2 ⊢
    obtain ⟨s1, hsz1⟩ : ∃ s1, s1 = w1.heap.size := ⟨_, rfl⟩
    have c1 : w2.cell? ⟨w1.heap.size, 1, none⟩ = some (.slice pad py.length pcap) := by rw [cell_of_row w2 _ 1 _ _ _ f2]; rfl
    have HR2 := hid (And.intro r2 (And.intro z2 k2))
    clear r2 z2 f2 k2
    go_wp2_with fail
    refine (zH _ _ py _ w2 (HP.out.below HR2.out.1 nl) (by have := HZ2.out; omega)).mono ?_
    rintro e w3 ⟨rb, sv, rfl, hv3, hrb, hof3, hb3⟩
    have hs3 := hb3.size
    have HV3 := hid (And.intro hv3 (And.intro hrb (And.intro hof3 hb3)))
    clear hv3 hrb hof3 hb3 c1
    go_upto_region 6 with fail
    have HR3 : Hid (RD w3.heap.size rb py sv (some py) false (w3.alloc (.cells #[.pointer (some ⟨rb, 0, none⟩), .bool false] 84)) ∧ SF (w3.alloc (.cells #[.pointer (some ⟨rb, 0, none⟩), .bool false] 84)) (w1.heap.size + 1) w3.heap.size rb sv ∧ (w3.alloc (.cells #[.pointer (some ⟨rb, 0, none⟩), .bool false] 84)).heap[w1.heap.size + 1]? = some (.cells #[.int .i64 k, .slice none 0 0, .int .i64 0, .int .i64 0, .slice none 0 0] 25 (0, 0)) ∧ Below w1.heap.size w1 (w3.alloc (.cells #[.pointer (some ⟨rb, 0, none⟩), .bool false] 84)) ∧ (w3.alloc (.cells #[.pointer (some ⟨rb, 0, none⟩), .bool false] 84)).heap.size = w3.heap.size + 1) := hid (by
     obtain ⟨r2, z2, k2⟩ := HR2.out
     obtain ⟨hv3, hrb, hof3, hb3⟩ := HV3.out
     have hlt := hv3.lt
     have hz : (w3.alloc (.cells #[.pointer (some ⟨rb, 0, none⟩), .bool false] 84)).heap.size = w3.heap.size + 1 := World.size_alloc _ _
     have hb4 : Below w3.heap.size w3 (w3.alloc (.cells #[.pointer (some ⟨rb, 0, none⟩), .bool false] 84)) := br.alloc nl _
     refine ⟨⟨heap_alloc_new _ _, hv3.below hb4, by omega, hof3 _ (.inr nl)⟩, ⟨by omega, by omega, by omega, by omega, by omega, hof3 _ (.inl (by omega)), fun b hb => hof3 b (.inr (by omega))⟩, ?_, (r2.trans (hb3.mono (by omega))).trans (hb4.mono (by omega)), hz⟩
     exact (hb4.block _ (by omega)).trans ((hb3.block _ (by omega)).trans k2))
    generalize w3.alloc (.cells #[.pointer (some ⟨rb, 0, none⟩), .bool false] 84) = w4 at HR3 ⊢
    go_wp2_with fail
    refine (xQ (w1.heap.size + 1) w3.heap.size rb py sv k (some py) w4 HK5.out HR3.out.2.1 HR3.out.2.2.1 HR3.out.1).mono ?_
    rintro e w5 ⟨rfl, cs, h5c, h5r, h5d, h5k⟩
    obtain ⟨oa, oc, wa, wc, ecs, _, _, _, _, _, _⟩ := h5r.shape
    injection ecs with ecs
    subst ecs
    have H5 : Hid (aL w5 (fun b => w4.heap.size ≤ b) true (bQ k (some py)) (.agg #[.int .i64 (bQ k (some py)).k, .slice oa (bQ k (some py)).o.length oc, .int .i64 (bQ k (some py)).p, .int .i64 (bQ k (some py)).q, .slice wa (bQ k (some py)).w.length wc]) ∧ w5.heap[w1.heap.size + 1]? = some (.cells #[.int .i64 (bQ k (some py)).k, .slice oa (bQ k (some py)).o.length oc, .int .i64 (bQ k (some py)).p, .int .i64 (bQ k (some py)).q, .slice wa (bQ k (some py)).w.length wc] 25 (0, 0)) ∧ w5.heap[w.heap.size]? = some (.cells #[.int .i64 0, .slice none 0 0, .int .i64 0, .int .i64 0, .slice none 0 0] 25 (0, 0)) ∧ Below w.heap.size w w5 ∧ w4.heap.size ≤ w5.heap.size ∧ w.heap.size < w4.heap.size ∧ w1.heap.size + 1 < w4.heap.size ∧ w.heap.size < w1.heap.size) := hid (by
     obtain ⟨hd4, hsf, hk4, hb4, hz4⟩ := HR3.out
     have l1 := hsf.lcb
     have hrb := HV3.out.2.1
     have z2 := HR2.out.2.1
     have hs1 := HZ2.out.2.2
     have hlt : w.heap.size < w1.heap.size := by omega
     have hX : ∀ b, X3 (w1.heap.size + 1) w3.heap.size rb b → w1.heap.size ≤ b := by rintro b (e | e | e) <;> omega
     refine ⟨h5r, h5c, ?_, ?_, h5k.size, by omega, l1, hlt⟩
     ·exact (h5k.keep _ (by omega) (fun h => by have := hX _ h; omega)).trans ((hb4.block _ hlt).trans g1)
     ·exact (HB1.out.trans (hb4.mono (by omega))).trans (h5k.below (by omega) (fun b hb => by have := hX b hb; omega)))
    have HD5 := hid h5d
    have hLq : Hid (Lq w5.heap.size w5) := hid ((HL1.out.below ((HR3.out.2.2.2.1.mono (by have := H5.out; omega)).trans (Below.mono (B := w1.heap.size) (h5k.below (by have := HR3.out.2.1.lcb; omega) (by have := HV3.out.2.1; have := HR2.out.2.1; rintro b (e | e | e) <;> omega)) (by have := H5.out; omega)))).mono (by have := H5.out; omega))
    have g5 := H5.out.2.2.1
    have c5b : w5.cell? ⟨w3.heap.size, 1, none⟩ = some (.bool (iQ k (some py)).2.2) := by rw [cell_of_row w5 _ 1 _ _ _ h5d.row]; rfl
    have c5p : w5.cell? ⟨w3.heap.size, 0, none⟩ = some (.pointer (some ⟨rb, 0, none⟩)) := by rw [cell_of_row w5 _ 0 _ _ _ h5d.row]; rfl
    clear h5c h5r h5d h5k g1
    obtain ⟨bd, hbd⟩ : ∃ bd, bd = (iQ k (some py)).2.2 := ⟨_, rfl⟩
    rw [← hbd] at c5b HD5 HE
    obtain ⟨sE, hsE⟩ : ∃ bd, bd = (iQ k (some py)).2.1 := ⟨_, rfl⟩
    rw [← hsE] at HD5 HE
    have HEE := HE
    clear HE hbd hsE e1 e2 q1 q2 q3 q4
    cases bd with
    | true =>
     have HE : Hid (crtParse b = none) := hid (by rw [HEE.out, if_neg]; rintro ⟨⟨h, _⟩, _⟩; cases h)
     clear c5p
     go_wp2_with (refine wpList_store_row rfl 25 (.tmp 2) (.tmp 72) rfl rfl w.heap.size rfl _ rfl 25 _ g5 (by kernel_rfl) rfl (by simp [Value.oneCell']) ?_)
     exact bodyPost_ret (v := .tuple #[.agg #[.int .i64 0, .slice none 0 0, .int .i64 0, .int .i64 0, .slice none 0 0], .int .i64 280]) (aa rfl _ _ w.heap.size 25 _ _ _ _ rfl (setRow_heap _ _ _ _ _ _ g5) Tryz.underlying25 rfl (by kernel_rfl) rfl) rfl (aA HE.out (below_setRow (H5.out.2.2.2.1) _ _ nl))
    | false =>
     go_wp2_with fail
     refine (zg rb py sv sE w5 HD5.out.vr).mono ?_
     rintro e w6 ⟨ee, rfl, hee, rfl⟩
     cases sE with
     | none =>
      have t1 : (ee != 0) = true := by
       have : ¬ ee = 0 := fun e => by have := hee.1 e; cases this
       simpa using this
      have HE : Hid (crtParse b = none) := hid (by rw [HEE.out, if_neg]; rintro ⟨⟨_, h⟩, _⟩; cases h)
      clear hee c5p c5b
      go_wp2_with (refine wpList_store_row rfl 25 (.tmp 2) (.tmp 72) rfl rfl w.heap.size rfl _ rfl 25 _ g5 (by kernel_rfl) rfl (by simp [Value.oneCell']) ?_)
      exact bodyPost_ret (v := .tuple #[.agg #[.int .i64 0, .slice none 0 0, .int .i64 0, .int .i64 0, .slice none 0 0], .int .i64 280]) (aa rfl _ _ w.heap.size 25 _ _ _ _ rfl (setRow_heap _ _ _ _ _ _ g5) Tryz.underlying25 rfl (by kernel_rfl) rfl) rfl (aA HE.out (below_setRow (H5.out.2.2.2.1) _ _ nl))
     | some sr =>
      have he0 : ee = 0 := hee.2 rfl
      subst he0
      clear hee
      go_wp2_with fail
      refine (oP rb py sv (some sr) w5 HD5.out.vr).mono ?_
      rintro e w6 ⟨kl, rfl, hkl, hkx, nq, rfl⟩
      have hkl2 := hkx sr rfl
      have g6 : (w5.drewN nq).heap[w.heap.size]? = some (.cells #[.int .i64 0, .slice none 0 0, .int .i64 0, .int .i64 0, .slice none 0 0] 25 (0, 0)) := g5
      have HB6 : Hid (Below w.heap.size w (w5.drewN nq)) := hid (H5.out.2.2.2.1.trans (below_drewN br nq))
      clear hkx c5p c5b g5
      cases sr with
      | cons sc st =>
       have x1 : (0 : Int) < (kl : Int) := by simp at hkl2; omega
       have HE : Hid (crtParse b = none) := hid (by rw [HEE.out, if_neg]; rintro ⟨⟨_, h⟩, _⟩; cases h)
       clear hkl2
       go_wp2_with (refine wpList_store_row rfl 25 (.tmp 2) (.tmp 72) rfl rfl w.heap.size rfl _ rfl 25 _ g6 (by kernel_rfl) rfl (by simp [Value.oneCell']) ?_)
       exact bodyPost_ret (v := .tuple #[.agg #[.int .i64 0, .slice none 0 0, .int .i64 0, .int .i64 0, .slice none 0 0], .int .i64 280]) (aa rfl _ _ w.heap.size 25 _ _ _ _ rfl (setRow_heap _ _ _ _ _ _ g6) Tryz.underlying25 rfl (by kernel_rfl) rfl) rfl (aA HE.out (below_setRow (HB6.out) _ _ nl))
      | nil =>
       have hk0 : kl = 0 := hkl2
       subst hk0
       have h6c : (w5.drewN nq).heap[w1.heap.size + 1]? = some (.cells #[.int .i64 (bQ k (some py)).k, .slice oa (bQ k (some py)).o.length oc, .int .i64 (bQ k (some py)).p, .int .i64 (bQ k (some py)).q, .slice wa (bQ k (some py)).w.length wc] 25 (0, 0)) := H5.out.2.1
       have H6 : Hid (aL (w5.drewN nq) (fun b => w4.heap.size ≤ b) true (bQ k (some py)) (.agg #[.int .i64 (bQ k (some py)).k, .slice oa (bQ k (some py)).o.length oc, .int .i64 (bQ k (some py)).p, .int .i64 (bQ k (some py)).q, .slice wa (bQ k (some py)).w.length wc]) ∧ Lq (w5.drewN nq).heap.size (w5.drewN nq) ∧ (bQ k (some py)).nums ∧ w.heap.size < w4.heap.size) := hid ⟨H5.out.1.keep (fun _ _ _ => rfl) (fun _ _ h => h), hLq.out.below (below_drewN br nq), rX (by have := HK5.out; unfold i64; omega) _, H5.out.2.2.2.2.2.1⟩
       have H5s : Hid (w1.heap.size + 1 < (w5.drewN nq).heap.size ∧ w.heap.size < w1.heap.size) := hid ⟨by have := H5.out; show _ < w5.heap.size; omega, by have := H5.out; omega⟩
       generalize w5.drewN nq = w6 at g6 HB6 h6c H6 H5s ⊢
       have HC := hid h6c
       clear H5 HD5 hLq hkl hkl2
       generalize bQ k (some py) = c at HEE h6c H6 HC ⊢
       have d0 : w6.cell? ⟨w1.heap.size + 1, 0, none⟩ = some (.int .i64 c.k) := by rw [cell_of_row w6 _ 0 _ _ _ h6c]; rfl
       have d1 : w6.cell? ⟨w1.heap.size + 1, 1, none⟩ = some (.slice oa c.o.length oc) := by rw [cell_of_row w6 _ 1 _ _ _ h6c]; rfl
       have d2 : w6.cell? ⟨w1.heap.size + 1, 2, none⟩ = some (.int .i64 c.p) := by rw [cell_of_row w6 _ 2 _ _ _ h6c]; rfl
       have d3 : w6.cell? ⟨w1.heap.size + 1, 3, none⟩ = some (.int .i64 c.q) := by rw [cell_of_row w6 _ 3 _ _ _ h6c]; rfl
       have d4 : w6.cell? ⟨w1.heap.size + 1, 4, none⟩ = some (.slice wa c.w.length wc) := by rw [cell_of_row w6 _ 4 _ _ _ h6c]; rfl
       clear h6c
       go_wp2_with fail
       refine (bT _ _ c _ w6 H6.out.1 H6.out.2.2.1.2.2.2.2 H6.out.2.1).mono ?_
       rintro e w7 ⟨rfl, hb7⟩
       have l6 := H5s.out.1
       have g7 := (hb7.block w.heap.size (by have := H5s.out; omega)).trans g6
       have HC7 := hid ((hb7.block (w1.heap.size + 1) l6).trans HC.out)
       have HB7 : Hid (Below w.heap.size w w7) := hid (HB6.out.trans (hb7.mono (by have := H5s.out; omega)))
       have H7 := hid (H6.out.1.below hb7 nl)
       obtain ⟨cr, hcr⟩ : ∃ cr, cr = c.right := ⟨_, rfl⟩
       rw [← hcr] at HEE ⊢
       have q7 := HC7.out
       clear hb7 d0 d1 d2 d3 d4 g6 hcr l6
       cases cr with
       | false =>
        have HE : Hid (crtParse b = none) := hid (by rw [HEE.out, if_neg]; rintro ⟨_, h⟩; cases h)
        clear q7
        go_wp2_with (refine wpList_store_row rfl 25 (.tmp 2) (.tmp 72) rfl rfl w.heap.size rfl _ rfl 25 _ g7 (by kernel_rfl) rfl (by simp [Value.oneCell']) ?_)
        exact bodyPost_ret (v := .tuple #[.agg #[.int .i64 0, .slice none 0 0, .int .i64 0, .int .i64 0, .slice none 0 0], .int .i64 280]) (aa rfl _ _ w.heap.size 25 _ _ _ _ rfl (setRow_heap _ _ _ _ _ _ g7) Tryz.underlying25 rfl (by kernel_rfl) rfl) rfl (aA HE.out (below_setRow (HB7.out) _ _ nl))
       | true =>
        have d0 : w7.cell? ⟨w1.heap.size + 1, 0, none⟩ = some (.int .i64 c.k) := by rw [cell_of_row w7 _ 0 _ _ _ q7]; rfl
        have d1 : w7.cell? ⟨w1.heap.size + 1, 1, none⟩ = some (.slice oa c.o.length oc) := by rw [cell_of_row w7 _ 1 _ _ _ q7]; rfl
        have d2 : w7.cell? ⟨w1.heap.size + 1, 2, none⟩ = some (.int .i64 c.p) := by rw [cell_of_row w7 _ 2 _ _ _ q7]; rfl
        have d3 : w7.cell? ⟨w1.heap.size + 1, 3, none⟩ = some (.int .i64 c.q) := by rw [cell_of_row w7 _ 3 _ _ _ q7]; rfl
        have d4 : w7.cell? ⟨w1.heap.size + 1, 4, none⟩ = some (.slice wa c.w.length wc) := by rw [cell_of_row w7 _ 4 _ _ _ q7]; rfl
        have HE : Hid (crtParse b = some c) := hid (by rw [HEE.out]; simp)
        clear q7
        go_wp2_with (refine wpList_store_row rfl 25 (.tmp 2) (.tmp 73) rfl rfl w.heap.size rfl _ rfl 25 _ g7 (by kernel_rfl) rfl (by simp [Value.oneCell']) ?_)
        refine bodyPost_ret (v := .tuple #[.agg #[.int .i64 c.k, .slice oa c.o.length oc, .int .i64 c.p, .int .i64 c.q, .slice wa c.w.length wc], .int .i64 0]) (aa rfl _ _ w.heap.size 25 _ _ _ _ rfl (setRow_heap _ _ _ _ _ _ g7) Tryz.underlying25 rfl (by kernel_rfl) rfl) rfl ?_
        rw [HE.out]
        have hl4 := H6.out.2.2.2
        exact ⟨_, rfl, (H7.out.keep (aC (g := w.heap.size) (fun h => by have h : _ ≤ w.heap.size := h; omega)) (fun b _ hb => by have hb : _ ≤ b := hb; show _ ≤ b; omega)), below_setRow HB7.out _ _ nl⟩
   ·have HE : Hid (crtParse b = none) := hid (dC fun h => hk h.2.2)
    have hku := uN b
    obtain ⟨kd, hkd⟩ : ∃ ru, ru = (aO b).kind := ⟨_, rfl⟩
    rw [← hkd] at hk hku ⊢
    obtain ⟨pn, hpn⟩ : ∃ ru, ru = (aO b).pay.length := ⟨_, rfl⟩
    rw [← hpn]
    clear hkd hpn h0 hl hpl
    by_cases h16 : (kd : Int) ≤ 16
    ·have q1 : ¬ (16 : Int) < (kd : Int) := by omega
     go_wp2_with (refine wpList_store_row rfl 25 (.tmp 2) (.tmp 33) rfl rfl w.heap.size rfl _ rfl 25 _ (ga _ _) (by kernel_rfl) rfl (by simp [Value.oneCell']) ?_)
     exact bodyPost_ret (v := .tuple #[.agg #[.int .i64 0, .slice none 0 0, .int .i64 0, .int .i64 0, .slice none 0 0], .int .i64 280]) (aa rfl _ _ w.heap.size 25 _ _ _ _ rfl (setRow_heap _ _ _ _ _ _ (ga _ _)) Tryz.underlying25 rfl (by kernel_rfl) rfl) rfl (aA HE.out (below_setRow (HB1.out.alloc (by omega) _) _ _ nl))
    ·have q1 : (16 : Int) < (kd : Int) := by omega
     have q2 : (21 : Int) ≤ (kd : Int) := by omega
     have q3 : ¬ (kd : Int) < 21 := by omega
     go_wp2_with (refine wpList_store_row rfl 25 (.tmp 2) (.tmp 33) rfl rfl w.heap.size rfl _ rfl 25 _ (ga _ _) (by kernel_rfl) rfl (by simp [Value.oneCell']) ?_)
     exact bodyPost_ret (v := .tuple #[.agg #[.int .i64 0, .slice none 0 0, .int .i64 0, .int .i64 0, .slice none 0 0], .int .i64 280]) (aa rfl _ _ w.heap.size 25 _ _ _ _ rfl (setRow_heap _ _ _ _ _ _ (ga _ _)) Tryz.underlying25 rfl (by kernel_rfl) rfl) rfl (aA HE.out (below_setRow (HB1.out.alloc (by omega) _) _ _ nl))
  ·have HE : Hid (crtParse b = none) := hid (dC fun h => hl h.2.1)
   obtain ⟨ln, hln⟩ : ∃ ru, ru = (aO b).len := ⟨_, rfl⟩
   rw [← hln] at hl ⊢
   obtain ⟨kd, hkd⟩ : ∃ ru, ru = (aO b).kind := ⟨_, rfl⟩
   rw [← hkd]
   obtain ⟨pn, hpn⟩ : ∃ ru, ru = (aO b).pay.length := ⟨_, rfl⟩
   rw [← hpn]
   have t1 : ((ln : Int) != (b.length : Int)) = true := by simpa using (by omega : ¬ (ln : Int) = (b.length : Int))
   rw [Nat.zero_add]
   clear hln hkd hpn h0 hpl hl
   go_wp2_with (refine wpList_store_row rfl 25 (.tmp 2) (.tmp 33) rfl rfl w.heap.size rfl _ rfl 25 _ (ga _ _) (by kernel_rfl) rfl (by simp [Value.oneCell']) ?_)
   exact bodyPost_ret (v := .tuple #[.agg #[.int .i64 0, .slice none 0 0, .int .i64 0, .int .i64 0, .slice none 0 0], .int .i64 280]) (aa rfl _ _ w.heap.size 25 _ _ _ _ rfl (setRow_heap _ _ _ _ _ _ (ga _ _)) Tryz.underlying25 rfl (by kernel_rfl) rfl) rfl (aA HE.out (below_setRow (HB1.out.alloc (by omega) _) _ _ nl))
 ·rw [if_neg h0]
  have HE : Hid (crtParse b = none) := hid (dC fun h => h0 h.1)
  obtain ⟨ru, hru⟩ : ∃ ru, ru = (aO b).rule := ⟨_, rfl⟩
  rw [← hru] at h0 ⊢
  obtain ⟨kd, hkd⟩ : ∃ ru, ru = (aO b).kind := ⟨_, rfl⟩
  rw [← hkd]
  obtain ⟨pn, hpn⟩ : ∃ ru, ru = (aO b).pay.length := ⟨_, rfl⟩
  rw [← hpn]
  have t1 : (ru != 0) = true := by simpa using h0
  clear hru hkd hpn h0 hpl
  go_wp2_with (refine wpList_store_row rfl 25 (.tmp 2) (.tmp 33) rfl rfl w.heap.size rfl _ rfl 25 _ (ga _ _) (by kernel_rfl) rfl (by simp [Value.oneCell']) ?_)
  exact bodyPost_ret (v := .tuple #[.agg #[.int .i64 0, .slice none 0 0, .int .i64 0, .int .i64 0, .slice none 0 0], .int .i64 280]) (aa rfl _ _ w.heap.size 25 _ _ _ _ rfl (setRow_heap _ _ _ _ _ _ (ga _ _)) Tryz.underlying25 rfl (by kernel_rfl) rfl) rfl (aA HE.out (below_setRow (HB1.out.alloc (by omega) _) _ _ nl))
end Go.Proofs.YtagnalfkmdjajaaGreatDoor
