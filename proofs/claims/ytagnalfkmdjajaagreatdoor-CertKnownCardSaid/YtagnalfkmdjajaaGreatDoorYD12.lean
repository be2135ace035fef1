/- Walks. -/
import Derived.Test.YtagnalfkmdjajaaGreatDoorYD11
import Derived.Test.YtagnalfkmdjajaaGreatDoorYD10
import Derived.Test.YtagnalfkmdjajaaGreatDoorYD05
set_option maxHeartbeats 8000000
set_option maxRecDepth 100000
namespace Go.Proofs.YtagnalfkmdjajaaGreatDoor
open Go.RowKit Go
set_option linter.unusedVariables false
set_option linter.unusedSimpArgs false
theorem tJ (S : Nat → Prop) (own : Bool) (b : List UInt8) (v : Value) (w : World) (hr : au w S own b v) (hb : b.length ≤ 1000) (hL : Lq w.heap.size w) :
  Calls Tryz.prog 56 #[v] w (fQ w (crtParse b)) := by
 obtain ⟨i0, hi0, hz0, hz1, hz2⟩ := info_parts pG
 obtain ⟨_, ad, cap, rfl, hc⟩ := hr.shape
 have g0 := heap_alloc_new w (.cells #[.int .i64 0, .slice none 0 0, .int .i64 0, .int .i64 0, .slice none 0 0] 46)
 have hb0 : Below w.heap.size w (w.alloc (.cells #[.int .i64 0, .slice none 0 0, .int .i64 0, .int .i64 0, .slice none 0 0] 46)) := br.alloc nl _
 have hs0 : (w.alloc (.cells #[.int .i64 0, .slice none 0 0, .int .i64 0, .int .i64 0, .slice none 0 0] 46)).heap.size = w.heap.size + 1 := World.size_alloc _ _
 have hr0 := hr.below hb0 nl
 have HG := hid (yg S own b _ 0 _ hr0 (by omega) (by omega))
 have HL := hid (hL.below hb0)
 have HB := hid hb0
 have HR0 := hid hr0
 clear hr hb0 hL hr0
 go_enter Tryz.func56, Tryz.ntmps56
 go_wp2_with fail
 refine HG.out.mono ?_
 rintro e w1 ⟨rfl, hb1⟩
 rw [List.drop_zero]
 have g1 : w1.heap[w.heap.size]? = some (.cells #[.int .i64 0, .slice none 0 0, .int .i64 0, .int .i64 0, .slice none 0 0] 46 (0, 0)) := (hb1.block _ (by omega)).trans g0
 have HB1 := hid (HB.out.trans (hb1.mono (by omega)))
 have HL1 := hid (HL.out.below (hb1.mono (by omega)))
 have HR1 := hid (HR0.out.below hb1 nl)
 have hs1 := hb1.size
 clear hb1 g0 HG HL HB HR0
 have ga : ∀ cs T, (w1.alloc (.cells cs T)).heap[w.heap.size]? = some (.cells #[.int .i64 0, .slice none 0 0, .int .i64 0, .int .i64 0, .slice none 0 0] 46 (0, 0)) := fun cs T => (aU _ _ _ (by omega)).trans g1
 have hpl : (aO b).rule = 0 → (aO b).len = b.length → (aO b).pay.length ≤ b.length := fun h1 h2 => by
  have h3 := nU h1
  rw [h2, List.take_length] at h3
  have h4 := congrArg List.length h3
  unfold aS aM at h4
  simp only [List.length_append, List.length_cons] at h4
  omega
 by_cases h0 : (aO b).rule = 0
 ·rw [if_pos h0, h0]
  by_cases hl : (aO b).len = b.length
  ·rw [hl]
   by_cases hk : 17 ≤ (aO b).kind ∧ (aO b).kind ≤ 20
   ·have hpl2 := hpl h0 hl
    have HEN := hid (fun ns h => (sW (b := b) hk (ns := ns) h))
    have HEB := hid (sV (b := b))
    obtain ⟨kd, hkd⟩ : ∃ ru, ru = (aO b).kind := ⟨_, rfl⟩
    rw [← hkd] at HEN hk ⊢
    obtain ⟨py, hpy⟩ : ∃ ru, ru = (aO b).pay := ⟨_, rfl⟩
    rw [← hpy] at HEN HEB hpl2 ⊢
    obtain ⟨k, hkk⟩ : ∃ k : Int, k = (kd : Int) - 16 := ⟨_, rfl⟩
    rw [← hkk] at HEN
    have hk5 : 1 ≤ k ∧ k < 5 := by omega
    have HK5 := hid hk5
    have e1 : (kd : Int) - 16 = k := hkk.symm
    have e2 : IntKind.i64.wrap k = k := by rw [IntKind.wrap_i64]; omega
    have q1 : ¬ (kd : Int) < 17 := by omega
    have q3 : ¬ (20 : Int) < (kd : Int) := by omega
    obtain ⟨PS, hPS⟩ : ∃ PS : ByteArray, PS = ⟨py.toArray⟩ := ⟨_, rfl⟩
    have hpd : PS.data.toList = py := by rw [hPS]
    have hpz : PS.size = py.length := by rw [← ay, hpd]
    rw [← hPS]
    have HZ2 := hid (And.intro hb (And.intro hpl2 (And.intro hs1 (And.intro hpd hpz))))
    clear hkd hpy hkk hk5 h0 hl hpl ga hk hpl2 hc hPS hpd hpz
    go_upto_region 5 with fail
    have r2 : Below w1.heap.size w1 (w1.alloc (.cells #[.int .u8 (kd : Nat), .string PS] 102)) := br.alloc nl _
    have z2 : (w1.alloc (.cells #[.int .u8 (kd : Nat), .string PS] 102)).heap.size = w1.heap.size + 1 := World.size_alloc _ _
    have f2 : (w1.alloc (.cells #[.int .u8 (kd : Nat), .string PS] 102)).heap[w1.heap.size]? = some (.cells #[.int .u8 (kd : Nat), .string PS] 102 (0, 0)) := az _ _ _ rfl
    generalize (w1.alloc (.cells #[.int .u8 (kd : Nat), .string PS] 102)) = w2 at r2 z2 f2 ⊢
    have c1 : w2.cell? ⟨w1.heap.size, 1, none⟩ = some (.string PS) := by rw [cell_of_row w2 _ 1 _ _ _ f2]; rfl
    have HRP := hid (qB w2 5 PS (by have := HZ2.out; omega))
    have HBW := hid (Lib.bytesWorld_below w2 5 PS)
    have HR2 := hid (And.intro r2 (And.intro z2 f2))
    clear r2 z2 f2
    go_upto_region 6 with (first | rw [Lib.run_convert_string_bytes (P := Tryz.prog) _ 9 29 5 PS Tryz.underlying9 Tryz.underlying29 Tryz.underlying5] | fail)
    have hZ : Hid (au (Lib.bytesWorld w2 5 PS) (fun b => w2.heap.size ≤ b) false py (.slice (some ⟨w2.heap.size, 0, none⟩) PS.size (grownCap w2 PS.size 0 5)) ∧ Below w1.heap.size w1 (Lib.bytesWorld w2 5 PS)) := hid ⟨by have := HRP.out; rw [HZ2.out.2.2.2.1] at this; exact this, HR2.out.1.trans (HBW.out.mono (by have := HR2.out.2.1; omega))⟩
    have HX3 : Hid ((Lib.bytesWorld w2 5 PS).heap[w1.heap.size]? = some (.cells #[.int .u8 (kd : Nat), .string PS] 102 (0, 0)) ∧ (Lib.bytesWorld w2 5 PS).heap[w.heap.size]? = some (.cells #[.int .i64 0, .slice none 0 0, .int .i64 0, .int .i64 0, .slice none 0 0] 46 (0, 0)) ∧ w1.heap.size < (Lib.bytesWorld w2 5 PS).heap.size ∧ Below w.heap.size w (Lib.bytesWorld w2 5 PS)) := hid (by
     obtain ⟨r2, z2, f2⟩ := HR2.out
     have hbs := HBW.out.size
     refine ⟨(HBW.out.block _ (by omega)).trans f2, ?_, by omega, HB1.out.trans (hZ.out.2.mono (by omega))⟩
     exact (hZ.out.2.block _ (by have := HZ2.out; omega)).trans g1)
    have HZ := hid hZ.out.2
    have hP := HZ2.out.2.2.2.2
    rw [hP] at hZ ⊢
    generalize (Lib.bytesWorld w2 5 PS) = w3 at hZ HX3 HZ ⊢
    generalize (grownCap w2 PS.size 0 5) = pc at hZ ⊢
    have HF : Hid (w3.heap[w1.heap.size]? = some (.cells #[.int .u8 (kd : Nat), .string PS] 102 (0, 0)) ∧ w3.heap[w.heap.size]? = some (.cells #[.int .i64 0, .slice none 0 0, .int .i64 0, .int .i64 0, .slice none 0 0] 46 (0, 0)) ∧ w1.heap.size < w3.heap.size ∧ Below w.heap.size w w3) := HX3
    have hlen : py.length ≤ 1000 := by have := HZ2.out; omega
    have hfs : w1.heap.size < w3.heap.size ∧ w.heap.size < w1.heap.size := ⟨HF.out.2.2.1, by have := HZ2.out; omega⟩
    clear HRP HBW c1 hP HX3 g1
    go_wp2_with fail
    go_loopw [7, 9] (fun lv iv wr => ∃ (ns : List Nat) (a : Nat), a ≤ py.length ∧ iv = .int .i64 a ∧ Hid (wr.ownsRow w3.heap.size 50 1 lv ns.length (nums ns) ∧ Below w3.heap.size w3 wr ∧ dR py.length py = (dR (py.length - a) (py.drop a)).map (ns ++ ·) ∧ ns.length ≤ a)) (fun _ iv _ => py.length - (intOf iv).toNat)
    case atStart => exact ⟨[], 0, by omega, rfl, hid ⟨World.ownsRow_nil _ _ _ _, br, by simp, by simp⟩⟩
    case round =>
     obtain ⟨ns, a, ha, rfl, HQ⟩ := hrel
     obtain ⟨sa, sc, rfl⟩ := ag HQ.out.1
     have hsz := HQ.out.2.1.size
     have hnl : ns.length ≤ 1000 := by have := HQ.out.2.2.2; omega
     by_cases hlt : a < py.length
     ·have HGt := hid (qV _ _ py _ a wr (hZ.out.1.below HQ.out.2.1 nl) ha (by omega))
      have y1 : (a : Int) < (py.length : Int) := by omega
      go_wp2_with fail
      refine HGt.out.mono ?_
      rintro e w4 ⟨rfl, hb4⟩
      unfold sQ
      have HO := hid (And.intro (ownsRow_below HQ.out.1 hb4 nl) (HQ.out.2.1.trans (hb4.mono hsz)))
      have hs4 := hb4.size
      clear hb4 HGt
      cases hv : bX (py.drop a) with
      | none =>
       have hc0 : (dn (py.drop a) != 0) = true := by
        have : ¬ dn (py.drop a) = 0 := fun e => by have := (dA (py.drop a)).1 e; rw [hv] at this; cases this
        simpa using this
       have HE : Hid (crtParse b = none) := hid (HEB.out (by rw [HQ.out.2.2.1, BA hlt hv]; rfl))
       have g4 := (HO.out.2.block w.heap.size (by omega)).trans HF.out.2.1
       generalize mQ (py.drop a) = N0
       generalize dP a (py.drop a) = A0
       generalize dn (py.drop a) = C0 at hc0 ⊢
       clear hv
       go_wp2_with (refine wpList_store_row rfl 46 (.tmp 2) (.tmp 57) rfl rfl w.heap.size rfl _ rfl 46 _ g4 (by kernel_rfl) rfl (by simp [Value.oneCell']) ?_)
       exact bodyPost_ret (v := .tuple #[.agg #[.int .i64 0, .slice none 0 0, .int .i64 0, .int .i64 0, .slice none 0 0], .int .i64 280]) (aa rfl _ _ w.heap.size 46 _ _ _ _ rfl (setRow_heap _ _ _ _ _ _ g4) Tryz.underlying46 rfl (by kernel_rfl) rfl) rfl (aA HE.out (below_setRow (HF.out.2.2.2.trans (HO.out.2.mono (by omega))) _ _ nl))
      | some x =>
       obtain ⟨n, r⟩ := x
       have hc0 : dn (py.drop a) = 0 := (dA (py.drop a)).2 (by rw [hv]; rfl)
       obtain ⟨hr1, hr2, hr3, hr4, hr5⟩ := zC hlt hv
       rw [hr4, hc0]
       obtain ⟨a', ha'⟩ : ∃ a', a' = dP a (py.drop a) := ⟨_, rfl⟩
       rw [← ha'] at hr2 hr3 hr5 ⊢
       have HT : Hid (dR py.length py = (dR (py.length - a') (py.drop a')).map ((ns ++ [n]) ++ ·) ∧ nums (ns ++ [n]) = nums ns ++ [.int .u64 (n : Nat)]) := hid ⟨by rw [HQ.out.2.2.1, hr5, Option.map_map]; congr 1; funext x; simp, by simp [nums]⟩
       clear hv hc0 hr1 hr4 hr5 ha'
       go_wp2_with (at_builtin; go_loud (refine af _ rfl (.tmp 58) (.tmp 60) _ rfl w3.heap.size 50 i0 _ 1 8 Tryz.underlying97 hi0 hz0 hz1 hz2 rfl (by omega) _ ns.length (nums ns) rfl (HO.out.1.alloc _) _ _ 1 [.int .u64 (n : Nat)] _ rfl (eD _ #[.int .u64 (n : Nat)] 50 1 rfl (by omega)) (by simp [Value.oneCell']) (by unfold maxLen; omega) (by omega) (by simp; omega) ?_); intro v' w5 hown5 hgrow hat)
       have hlo := HO.out.1.lt
       have HN5 : Hid (w5.ownsRow w3.heap.size 50 1 v' (ns ++ [n]).length (nums (ns ++ [n])) ∧ Below w3.heap.size w3 w5) := hid (by
        rw [HT.out.2, List.length_append]
        exact ⟨hown5, (HO.out.2.alloc (by omega) _).grown hgrow (by simp; omega) (fun k hk => (hlo k hk).1)⟩)
       clear hown5 hgrow hat hlo
       go_roundw
       case rel => exact ⟨ns ++ [n], a', by omega, rfl, hid ⟨HN5.out.1, HN5.out.2, HT.out.1, by have := HQ.out.2.2.2; simp; omega⟩⟩
       case measure => simp [intOf]; omega
     ·have HNF : Hid (dR py.length py = some ns) := hid (by
       have h1 := HQ.out.2.2.1
       rw [show a = py.length from by omega, List.drop_length, Nat.sub_self] at h1
       simpa [dR] using h1)
      have y1 : ¬ (a : Int) < (py.length : Int) := by omega
      have hn64 := rT _ _ _ HNF.out
      have f4 := (HQ.out.2.1.block w1.heap.size (by omega)).trans HF.out.1
      have c0 : wr.cell? ⟨w1.heap.size, 0, none⟩ = some (.int .u8 (kd : Nat)) := by rw [cell_of_row wr _ 0 _ _ _ f4]; rfl
      have HCO := hid (tH _ _ k ns _ wr (Sl.of_owns HQ.out.1 (by omega)) hnl hn64)
      obtain ⟨hcn, hce⟩ := HEN.out ns HNF.out
      have hclen := BB k ns
      have hck : (bL k ns).k = k := by unfold bL; split <;> (try split) <;> (try split) <;> rfl
      have HC := hid (And.intro hcn (And.intro hce (And.intro (show (bL k ns).o.length ≤ 1000 by omega) (show (bL k ns).w.length ≤ 1000 by omega))))
      generalize bL k ns = c at HCO HC
      have HW := hid (And.intro (HF.out.2.2.2.trans (HQ.out.2.1.mono (by omega))) ((HQ.out.2.1.block w.heap.size (by omega)).trans HF.out.2.1))
      have HBb := hid ((HR1.out.below HZ.out nl).below HQ.out.2.1 nl)
      clear hn64 hcn hce hclen f4 hck HEB HEN
      go_wp2_with fail
      refine HCO.out.mono ?_
      rintro e w5 ⟨cv, rfl, hrep, hb5⟩
      obtain ⟨oa, oc, wa, wc, rfl, _, _, _, _, _, _⟩ := hrep.shape
      have hs5 := hb5.size
      have hb6 : Below w5.heap.size w5 (w5.alloc (.cells #[.int .i64 c.k, .slice oa c.o.length oc, .int .i64 c.p, .int .i64 c.q, .slice wa c.w.length wc] 46)) := br.alloc nl _
      have h6 : (w5.alloc (.cells #[.int .i64 c.k, .slice oa c.o.length oc, .int .i64 c.p, .int .i64 c.q, .slice wa c.w.length wc] 46)).heap[w5.heap.size]? = some (.cells #[.int .i64 c.k, .slice oa c.o.length oc, .int .i64 c.p, .int .i64 c.q, .slice wa c.w.length wc] 46 (0, 0)) := heap_alloc_new _ _
      have hz6 : (w5.alloc (.cells #[.int .i64 c.k, .slice oa c.o.length oc, .int .i64 c.p, .int .i64 c.q, .slice wa c.w.length wc] 46)).heap.size = w5.heap.size + 1 := World.size_alloc _ _
      have H6 : Hid (aL (w5.alloc (.cells #[.int .i64 c.k, .slice oa c.o.length oc, .int .i64 c.p, .int .i64 c.q, .slice wa c.w.length wc] 46)) (fun b => wr.heap.size ≤ b) true c (.agg #[.int .i64 c.k, .slice oa c.o.length oc, .int .i64 c.p, .int .i64 c.q, .slice wa c.w.length wc]) ∧ Below wr.heap.size wr (w5.alloc (.cells #[.int .i64 c.k, .slice oa c.o.length oc, .int .i64 c.p, .int .i64 c.q, .slice wa c.w.length wc] 46))) := hid ⟨hrep.below hb6 nl, hb5.trans (hb6.mono hs5)⟩
      clear hrep hb5 hb6 c0 HCO
      go_upto_region 14 with fail
      generalize w5.alloc (.cells #[.int .i64 c.k, .slice oa c.o.length oc, .int .i64 c.p, .int .i64 c.q, .slice wa c.w.length wc] 46) = w6 at h6 hz6 H6 ⊢
      have HLq : Hid (Lq w6.heap.size w6) := hid ((HL1.out.below (((HZ.out.mono (by omega)).trans (HQ.out.2.1.mono (by omega))).trans (H6.out.2.mono (by omega)))).mono (by omega))
      have d0 : w6.cell? ⟨w5.heap.size, 0, none⟩ = some (.int .i64 c.k) := by rw [cell_of_row w6 _ 0 _ _ _ h6]; rfl
      have d1 : w6.cell? ⟨w5.heap.size, 1, none⟩ = some (.slice oa c.o.length oc) := by rw [cell_of_row w6 _ 1 _ _ _ h6]; rfl
      have d2 : w6.cell? ⟨w5.heap.size, 2, none⟩ = some (.int .i64 c.p) := by rw [cell_of_row w6 _ 2 _ _ _ h6]; rfl
      have d3 : w6.cell? ⟨w5.heap.size, 3, none⟩ = some (.int .i64 c.q) := by rw [cell_of_row w6 _ 3 _ _ _ h6]; rfl
      have d4 : w6.cell? ⟨w5.heap.size, 4, none⟩ = some (.slice wa c.w.length wc) := by rw [cell_of_row w6 _ 4 _ _ _ h6]; rfl
      go_wp2_with fail
      refine (iJ _ _ c _ w6 H6.out.1 HC.out.1 HC.out.2.2.1 HC.out.2.2.2 HLq.out).mono ?_
      rintro e w7 ⟨hput, hb7⟩
      have g7 := (hb7.block w.heap.size (by omega)).trans ((H6.out.2.block w.heap.size (by omega)).trans HW.out.2)
      have h7 := (hb7.block w5.heap.size (by omega)).trans h6
      have HB7 := hid (HW.out.1.trans ((H6.out.2.mono (by omega)).trans (hb7.mono (by omega))))
      have H7 := hid (H6.out.1.below hb7 nl)
      have HBb7 := hid ((HBb.out.below H6.out.2 nl).below hb7 nl)
      clear hb7 d0 d1 d2 d3 d4
      rcases hput with ⟨hri, u, rfl, hru⟩ | ⟨hri, rfl⟩
      ·have q1 := jl _ _ _ _ w7 hru
       have q2 := jl _ _ _ _ w7 HBb7.out
       obtain ⟨A, hA⟩ : ∃ A : ByteArray, A = ⟨c.bytes.toArray⟩ := ⟨_, rfl⟩
       obtain ⟨B, hB⟩ : ∃ B : ByteArray, B = ⟨b.toArray⟩ := ⟨_, rfl⟩
       rw [← hA] at q1
       rw [← hB] at q2
       have hd : (A.toList == B.toList) = decide (c.bytes = b) := by
        rw [hA, hB, ByteArray.toList_eq, ByteArray.toList_eq, Bool.eq_iff_iff]
        simp
       obtain ⟨_, ua, uc, rfl, _⟩ := hru.shape
       clear hru hA hB
       by_cases hcb : c.bytes = b
       ·have t1 : (A.toList == B.toList) = true := by rw [hd]; simpa using hcb
        have HE : Hid (crtParse b = some c) := hid (by rw [HC.out.2.1, if_pos ⟨hri, hcb⟩])
        clear hd hcb hri
        have d0 : w7.cell? ⟨w5.heap.size, 0, none⟩ = some (.int .i64 c.k) := by rw [cell_of_row w7 _ 0 _ _ _ h7]; rfl
        have d1 : w7.cell? ⟨w5.heap.size, 1, none⟩ = some (.slice oa c.o.length oc) := by rw [cell_of_row w7 _ 1 _ _ _ h7]; rfl
        have d2 : w7.cell? ⟨w5.heap.size, 2, none⟩ = some (.int .i64 c.p) := by rw [cell_of_row w7 _ 2 _ _ _ h7]; rfl
        have d3 : w7.cell? ⟨w5.heap.size, 3, none⟩ = some (.int .i64 c.q) := by rw [cell_of_row w7 _ 3 _ _ _ h7]; rfl
        have d4 : w7.cell? ⟨w5.heap.size, 4, none⟩ = some (.slice wa c.w.length wc) := by rw [cell_of_row w7 _ 4 _ _ _ h7]; rfl
        go_wp2_with (refine wpList_store_row rfl 46 (.tmp 2) (.tmp 84) rfl rfl w.heap.size rfl _ rfl 46 _ g7 (by kernel_rfl) rfl (by simp [Value.oneCell']) ?_)
        refine bodyPost_ret (v := .tuple #[.agg #[.int .i64 c.k, .slice oa c.o.length oc, .int .i64 c.p, .int .i64 c.q, .slice wa c.w.length wc], .int .i64 0]) (aa rfl _ _ w.heap.size 46 _ _ _ _ rfl (setRow_heap _ _ _ _ _ _ g7) Tryz.underlying46 rfl (by kernel_rfl) rfl) rfl ?_
        rw [HE.out]
        exact ⟨_, rfl, (H7.out.keep (aC (g := w.heap.size) (fun h => by have h : _ ≤ w.heap.size := h; omega)) (fun b _ hb => by have hb : _ ≤ b := hb; show _ ≤ b; omega)), below_setRow HB7.out _ _ nl⟩
       ·have t1 : (A.toList == B.toList) = false := by rw [hd]; simpa using hcb
        have HE : Hid (crtParse b = none) := hid (by rw [HC.out.2.1, if_neg (fun h => hcb h.2)])
        clear hd hcb hri
        go_wp2_with (refine wpList_store_row rfl 46 (.tmp 2) (.tmp 83) rfl rfl w.heap.size rfl _ rfl 46 _ g7 (by kernel_rfl) rfl (by simp [Value.oneCell']) ?_)
        exact bodyPost_ret (v := .tuple #[.agg #[.int .i64 0, .slice none 0 0, .int .i64 0, .int .i64 0, .slice none 0 0], .int .i64 280]) (aa rfl _ _ w.heap.size 46 _ _ _ _ rfl (setRow_heap _ _ _ _ _ _ g7) Tryz.underlying46 rfl (by kernel_rfl) rfl) rfl (aA HE.out (below_setRow (HB7.out) _ _ nl))
      ·have HE : Hid (crtParse b = none) := hid (by rw [HC.out.2.1, if_neg (fun h => by rw [hri] at h; cases h.1)])
       clear hri
       go_wp2_with (refine wpList_store_row rfl 46 (.tmp 2) (.tmp 83) rfl rfl w.heap.size rfl _ rfl 46 _ g7 (by kernel_rfl) rfl (by simp [Value.oneCell']) ?_)
       exact bodyPost_ret (v := .tuple #[.agg #[.int .i64 0, .slice none 0 0, .int .i64 0, .int .i64 0, .slice none 0 0], .int .i64 280]) (aa rfl _ _ w.heap.size 46 _ _ _ _ rfl (setRow_heap _ _ _ _ _ _ g7) Tryz.underlying46 rfl (by kernel_rfl) rfl) rfl (aA HE.out (below_setRow (HB7.out) _ _ nl))
   ·have HE : Hid (crtParse b = none) := hid (dC fun h => hk h.2.2)
    have hku := uN b
    obtain ⟨kd, hkd⟩ : ∃ ru, ru = (aO b).kind := ⟨_, rfl⟩
    rw [← hkd] at hk hku ⊢
    generalize (⟨(aO b).pay.toArray⟩ : ByteArray) = PS
    clear hkd h0 hl hpl
    by_cases h16 : (kd : Int) < 17
    ·have q1 : (kd : Int) ≤ 16 := by omega
     go_wp2_with (refine wpList_store_row rfl 46 (.tmp 2) (.tmp 40) rfl rfl w.heap.size rfl _ rfl 46 _ (ga _ _) (by kernel_rfl) rfl (by simp [Value.oneCell']) ?_)
     exact bodyPost_ret (v := .tuple #[.agg #[.int .i64 0, .slice none 0 0, .int .i64 0, .int .i64 0, .slice none 0 0], .int .i64 280]) (aa rfl _ _ w.heap.size 46 _ _ _ _ rfl (setRow_heap _ _ _ _ _ _ (ga _ _)) Tryz.underlying46 rfl (by kernel_rfl) rfl) rfl (aA HE.out (below_setRow (HB1.out.alloc (by omega) _) _ _ nl))
    ·have q2 : (20 : Int) < (kd : Int) := by omega
     go_wp2_with (refine wpList_store_row rfl 46 (.tmp 2) (.tmp 40) rfl rfl w.heap.size rfl _ rfl 46 _ (ga _ _) (by kernel_rfl) rfl (by simp [Value.oneCell']) ?_)
     exact bodyPost_ret (v := .tuple #[.agg #[.int .i64 0, .slice none 0 0, .int .i64 0, .int .i64 0, .slice none 0 0], .int .i64 280]) (aa rfl _ _ w.heap.size 46 _ _ _ _ rfl (setRow_heap _ _ _ _ _ _ (ga _ _)) Tryz.underlying46 rfl (by kernel_rfl) rfl) rfl (aA HE.out (below_setRow (HB1.out.alloc (by omega) _) _ _ nl))
  ·have HE : Hid (crtParse b = none) := hid (dC fun h => hl h.2.1)
   obtain ⟨ln, hln⟩ : ∃ ru, ru = (aO b).len := ⟨_, rfl⟩
   rw [← hln] at hl ⊢
   obtain ⟨kd, hkd⟩ : ∃ ru, ru = (aO b).kind := ⟨_, rfl⟩
   rw [← hkd]
   generalize (⟨(aO b).pay.toArray⟩ : ByteArray) = PS
   have t1 : ((ln : Int) != (b.length : Int)) = true := by simpa using (by omega : ¬ (ln : Int) = (b.length : Int))
   rw [Nat.zero_add]
   clear hln hkd h0 hpl hl
   go_wp2_with (refine wpList_store_row rfl 46 (.tmp 2) (.tmp 40) rfl rfl w.heap.size rfl _ rfl 46 _ (ga _ _) (by kernel_rfl) rfl (by simp [Value.oneCell']) ?_)
   exact bodyPost_ret (v := .tuple #[.agg #[.int .i64 0, .slice none 0 0, .int .i64 0, .int .i64 0, .slice none 0 0], .int .i64 280]) (aa rfl _ _ w.heap.size 46 _ _ _ _ rfl (setRow_heap _ _ _ _ _ _ (ga _ _)) Tryz.underlying46 rfl (by kernel_rfl) rfl) rfl (aA HE.out (below_setRow (HB1.out.alloc (by omega) _) _ _ nl))
 ·rw [if_neg h0]
  have HE : Hid (crtParse b = none) := hid (dC fun h => h0 h.1)
  obtain ⟨ru, hru⟩ : ∃ ru, ru = (aO b).rule := ⟨_, rfl⟩
  rw [← hru] at h0 ⊢
  obtain ⟨kd, hkd⟩ : ∃ ru, ru = (aO b).kind := ⟨_, rfl⟩
  rw [← hkd]
  generalize (⟨(aO b).pay.toArray⟩ : ByteArray) = PS
  have t1 : (ru != 0) = true := by simpa using h0
  clear hru hkd h0 hpl
  go_wp2_with (refine wpList_store_row rfl 46 (.tmp 2) (.tmp 40) rfl rfl w.heap.size rfl _ rfl 46 _ (ga _ _) (by kernel_rfl) rfl (by simp [Value.oneCell']) ?_)
  exact bodyPost_ret (v := .tuple #[.agg #[.int .i64 0, .slice none 0 0, .int .i64 0, .int .i64 0, .slice none 0 0], .int .i64 280]) (aa rfl _ _ w.heap.size 46 _ _ _ _ rfl (setRow_heap _ _ _ _ _ _ (ga _ _)) Tryz.underlying46 rfl (by kernel_rfl) rfl) rfl (aA HE.out (below_setRow (HB1.out.alloc (by omega) _) _ _ nl))
end Go.Proofs.YtagnalfkmdjajaaGreatDoor
