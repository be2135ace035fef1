/- Walks: the reference's Parse of a certificate. -/
import Derived.Test.YtkpfbalkhlidgaaGreatDoorUD11
import Derived.Test.YtkpfbalkhlidgaaGreatDoorUD10
import Derived.Test.YtkpfbalkhlidgaaGreatDoorUD05
import Derived.Test.YtkpfbalkhlidgaaGreatDoorU28
import Derived.Lib.ConvBytes
namespace Go.Proofs.YtkpfbalkhlidgaaGreatDoor
open Go.RowKit Go
set_option linter.unusedVariables false
set_option linter.unusedSimpArgs false
set_option maxHeartbeats 8000000 in
set_option maxRecDepth 100000 in
theorem refCParse_any (S : Nat → Prop) (own : Bool) (b : List UInt8) (v : Value) (w : World) (hr : RepB w S own b v) (hb : b.length ≤ 1000) (hL : Lq w.heap.size w) :
    Calls Tryz.prog 8 #[v] w (GivesPC w (crtParse b)) := by
  obtain ⟨i0, hi0, hz0, hz1, hz2⟩ := info_parts infoU64
  obtain ⟨_, ad, cap, rfl, hc⟩ := hr.shape
  have g0 := heap_alloc_new w (.cells #[.int .i64 0, .slice none 0 0, .int .i64 0, .int .i64 0, .slice none 0 0] 28)
  have hb0 : Below w.heap.size w (w.alloc (.cells #[.int .i64 0, .slice none 0 0, .int .i64 0, .int .i64 0, .slice none 0 0] 28)) := (Below.refl _ _).alloc (Nat.le_refl _) _
  have hs0 : (w.alloc (.cells #[.int .i64 0, .slice none 0 0, .int .i64 0, .int .i64 0, .slice none 0 0] 28)).heap.size = w.heap.size + 1 := World.size_alloc _ _
  have hr0 := hr.below hb0 (Nat.le_refl _)
  have HG := Lib.hid (refFGet_any S own b _ 0 _ hr0 (by omega) (by omega))
  have HL := Lib.hid (hL.below hb0)
  have HB := Lib.hid hb0
  have HR0 := Lib.hid hr0
  clear hr hb0 hL hr0
  go_enter Tryz.func8, Tryz.ntmps8
  go_wp2_with fail
  refine HG.out.mono ?_
  rintro e w1 ⟨rfl, hb1⟩
  rw [List.drop_zero]
  have g1 : w1.heap[w.heap.size]? = some (.cells #[.int .i64 0, .slice none 0 0, .int .i64 0, .int .i64 0, .slice none 0 0] 28 (0, 0)) := (hb1.block _ (by omega)).trans g0
  have HB1 := Lib.hid (HB.out.trans (hb1.mono (by omega)))
  have HL1 := Lib.hid (HL.out.below (hb1.mono (by omega)))
  have HR1 := Lib.hid (HR0.out.below hb1 (Nat.le_refl _))
  have hs1 := hb1.size
  clear hb1 g0 HG HL HB HR0
  have ga : ∀ cs T, (w1.alloc (.cells cs T)).heap[w.heap.size]? = some (.cells #[.int .i64 0, .slice none 0 0, .int .i64 0, .int .i64 0, .slice none 0 0] 28 (0, 0)) := fun cs T => (heap_alloc_lt _ _ _ (by omega)).trans g1
  have hpl : (frOf b).rule = 0 → (frOf b).len = b.length → (frOf b).pay.length ≤ b.length := fun h1 h2 => by
    have h3 := frOf_back h1
    rw [h2, List.take_length] at h3
    have h4 := congrArg List.length h3
    unfold frameB frameH at h4
    simp only [List.length_append, List.length_cons] at h4
    omega
  by_cases h0 : (frOf b).rule = 0
  · rw [if_pos h0, h0]
    by_cases hl : (frOf b).len = b.length
    · rw [hl]
      by_cases hk : 17 ≤ (frOf b).kind ∧ (frOf b).kind ≤ 20
      · have hpl2 := hpl h0 hl
        have HEN := Lib.hid (fun ns h => (crtParse_cand (b := b) hk (ns := ns) h))
        have HEB := Lib.hid (crtParse_nums (b := b))
        obtain ⟨kd, hkd⟩ : ∃ ru, ru = (frOf b).kind := ⟨_, rfl⟩
        rw [← hkd] at HEN hk ⊢
        obtain ⟨py, hpy⟩ : ∃ ru, ru = (frOf b).pay := ⟨_, rfl⟩
        rw [← hpy] at HEN HEB hpl2 ⊢
        obtain ⟨k, hkk⟩ : ∃ k : Int, k = (kd : Int) - 16 := ⟨_, rfl⟩
        rw [← hkk] at HEN
        have hk5 : 1 ≤ k ∧ k < 5 := by omega
        have HK5 := Lib.hid hk5
        have e1 : (kd : Int) - 16 = k := hkk.symm
        have e2 : IntKind.i64.wrap k = k := by rw [IntKind.wrap_i64]; omega
        have q1 : ¬ (kd : Int) < 17 := by omega
        have q3 : ¬ (20 : Int) < (kd : Int) := by omega
        obtain ⟨PS, hPS⟩ : ∃ PS : ByteArray, PS = ⟨py.toArray⟩ := ⟨_, rfl⟩
        have hpd : PS.data.toList = py := by rw [hPS]
        have hpz : PS.size = py.length := by rw [← ba_size, hpd]
        rw [← hPS]
        have HZ2 := Lib.hid (And.intro hb (And.intro hpl2 (And.intro hs1 (And.intro hpd hpz))))
        clear hkd hpy hkk hk5 h0 hl hpl ga hk hpl2 hc hPS hpd hpz
        go_upto_region 5 with fail
        have r2 : Below w1.heap.size w1 (w1.alloc (.cells #[.int .u8 (kd : Nat), .string PS] 64)) := (Below.refl _ _).alloc (Nat.le_refl _) _
        have z2 : (w1.alloc (.cells #[.int .u8 (kd : Nat), .string PS] 64)).heap.size = w1.heap.size + 1 := World.size_alloc _ _
        have f2 : (w1.alloc (.cells #[.int .u8 (kd : Nat), .string PS] 64)).heap[w1.heap.size]? = some (.cells #[.int .u8 (kd : Nat), .string PS] 64 (0, 0)) := heap_alloc_at _ _ _ rfl
        generalize (w1.alloc (.cells #[.int .u8 (kd : Nat), .string PS] 64)) = w2 at r2 z2 f2 ⊢
        have c1 : w2.cell? ⟨w1.heap.size, 1, none⟩ = some (.string PS) := by rw [cell_of_row w2 _ 1 _ _ _ f2]; rfl
        have HRP := Lib.hid (bytesW_rep w2 5 PS (by have := HZ2.out; omega))
        have HBW := Lib.hid (Lib.bytesWorld_below w2 5 PS)
        have HR2 := Lib.hid (And.intro r2 (And.intro z2 f2))
        clear r2 z2 f2
        go_upto_region 6 with (first | rw [Lib.run_convert_string_bytes (P := Tryz.prog) _ 9 22 5 PS Tryz.underlying9 Tryz.underlying22 Tryz.underlying5] | fail)
        have hZ : Hid (RepB (Lib.bytesWorld w2 5 PS) (fun b => w2.heap.size ≤ b) false py (.slice (some ⟨w2.heap.size, 0, none⟩) PS.size (grownCap w2 PS.size 0 5)) ∧ Below w1.heap.size w1 (Lib.bytesWorld w2 5 PS)) := Lib.hid ⟨by have := HRP.out; rw [HZ2.out.2.2.2.1] at this; exact this, HR2.out.1.trans (HBW.out.mono (by have := HR2.out.2.1; omega))⟩
        have HX3 : Hid ((Lib.bytesWorld w2 5 PS).heap[w1.heap.size]? = some (.cells #[.int .u8 (kd : Nat), .string PS] 64 (0, 0)) ∧ (Lib.bytesWorld w2 5 PS).heap[w.heap.size]? = some (.cells #[.int .i64 0, .slice none 0 0, .int .i64 0, .int .i64 0, .slice none 0 0] 28 (0, 0)) ∧ w1.heap.size < (Lib.bytesWorld w2 5 PS).heap.size ∧ Below w.heap.size w (Lib.bytesWorld w2 5 PS)) := Lib.hid (by
          obtain ⟨r2, z2, f2⟩ := HR2.out
          have hbs := HBW.out.size
          refine ⟨(HBW.out.block _ (by omega)).trans f2, ?_, by omega, HB1.out.trans (hZ.out.2.mono (by omega))⟩
          exact (hZ.out.2.block _ (by have := HZ2.out; omega)).trans g1)
        have HZ := Lib.hid hZ.out.2
        have hP := HZ2.out.2.2.2.2
        rw [hP] at hZ ⊢
        generalize (Lib.bytesWorld w2 5 PS) = w3 at hZ HX3 HZ ⊢
        generalize (grownCap w2 PS.size 0 5) = pc at hZ ⊢
        have HF : Hid (w3.heap[w1.heap.size]? = some (.cells #[.int .u8 (kd : Nat), .string PS] 64 (0, 0)) ∧ w3.heap[w.heap.size]? = some (.cells #[.int .i64 0, .slice none 0 0, .int .i64 0, .int .i64 0, .slice none 0 0] 28 (0, 0)) ∧ w1.heap.size < w3.heap.size ∧ Below w.heap.size w w3) := HX3
        have hlen : py.length ≤ 1000 := by have := HZ2.out; omega
        have hfs : w1.heap.size < w3.heap.size ∧ w.heap.size < w1.heap.size := ⟨HF.out.2.2.1, by have := HZ2.out; omega⟩
        clear HRP HBW c1 hP HX3 g1
        go_wp2_with fail
        go_loopw [7, 9] (fun lv iv wr => ∃ (ns : List Nat) (a : Nat), a ≤ py.length ∧ iv = .int .i64 a ∧ Hid (wr.ownsRow w3.heap.size 55 1 lv ns.length (nums ns) ∧ Below w3.heap.size w3 wr ∧ numsF py.length py = (numsF (py.length - a) (py.drop a)).map (ns ++ ·) ∧ ns.length ≤ a)) (fun _ iv _ => py.length - (intOf iv).toNat)
        case atStart => exact ⟨[], 0, by omega, rfl, Lib.hid ⟨World.ownsRow_nil _ _ _ _, Below.refl _ _, by simp, by simp⟩⟩
        case round =>
          obtain ⟨ns, a, ha, rfl, HQ⟩ := hrel
          obtain ⟨sa, sc, rfl⟩ := owns_slice HQ.out.1
          have hsz := HQ.out.2.1.size
          have hnl : ns.length ≤ 1000 := by have := HQ.out.2.2.2; omega
          by_cases hlt : a < py.length
          · have HGt := Lib.hid (refGet_any _ _ py _ a wr (hZ.out.1.below HQ.out.2.1 (Nat.le_refl _)) ha (by omega))
            have y1 : (a : Int) < (py.length : Int) := by omega
            go_wp2_with fail
            refine HGt.out.mono ?_
            rintro e w4 ⟨rfl, hb4⟩
            unfold gotV
            have HO := Lib.hid (And.intro (ownsRow_below HQ.out.1 hb4 (Nat.le_refl _)) (HQ.out.2.1.trans (hb4.mono hsz)))
            have hs4 := hb4.size
            clear hb4 HGt
            cases hv : getV (py.drop a) with
            | none =>
              have hc0 : (getC (py.drop a) != 0) = true := by
                have : ¬ getC (py.drop a) = 0 := fun e => by have := (getC_zero (py.drop a)).1 e; rw [hv] at this; cases this
                simpa using this
              have HE : Hid (crtParse b = none) := Lib.hid (HEB.out (by rw [HQ.out.2.2.1, numsF_bad hlt hv]; rfl))
              have g4 := (HO.out.2.block w.heap.size (by omega)).trans HF.out.2.1
              generalize getN (py.drop a) = N0
              generalize getAt a (py.drop a) = A0
              generalize getC (py.drop a) = C0 at hc0 ⊢
              clear hv
              go_wp2_with (refine wpList_store_row rfl 28 (.tmp 2) (.tmp 57) rfl rfl w.heap.size rfl _ rfl 28 _ g4 (by kernel_rfl) rfl (by simp [Value.oneCell']) ?_)
              exact bodyPost_ret (v := .tuple #[.agg #[.int .i64 0, .slice none 0 0, .int .i64 0, .int .i64 0, .slice none 0 0], .int .i64 280]) (results_row2 rfl _ _ w.heap.size 28 _ _ _ _ rfl (setRow_heap _ _ _ _ _ _ g4) Tryz.underlying28 rfl (by kernel_rfl) rfl) rfl (givesPC_no HE.out (below_setRow (HF.out.2.2.2.trans (HO.out.2.mono (by omega))) _ _ (Nat.le_refl _)))
            | some x =>
              obtain ⟨n, r⟩ := x
              have hc0 : getC (py.drop a) = 0 := (getC_zero (py.drop a)).2 (by rw [hv]; rfl)
              obtain ⟨hr1, hr2, hr3, hr4, hr5⟩ := numsF_more hlt hv
              rw [hr4, hc0]
              obtain ⟨a', ha'⟩ : ∃ a', a' = getAt a (py.drop a) := ⟨_, rfl⟩
              rw [← ha'] at hr2 hr3 hr5 ⊢
              have HT : Hid (numsF py.length py = (numsF (py.length - a') (py.drop a')).map ((ns ++ [n]) ++ ·) ∧ nums (ns ++ [n]) = nums ns ++ [.int .u64 (n : Nat)]) := Lib.hid ⟨by rw [HQ.out.2.2.1, hr5, Option.map_map]; congr 1; funext x; simp, by simp [nums]⟩
              clear hv hc0 hr1 hr4 hr5 ha'
              go_wp2_with (at_builtin; go_loud (refine wpList_append_sl _ rfl (.tmp 58) (.tmp 60) _ rfl w3.heap.size 55 i0 _ 1 8 Tryz.underlying68 hi0 hz0 hz1 hz2 rfl (by omega) _ ns.length (nums ns) rfl (HO.out.1.alloc _) _ _ 1 [.int .u64 (n : Nat)] _ rfl (sl_litF _ #[.int .u64 (n : Nat)] 55 1 rfl (by omega)) (by simp [Value.oneCell']) (by unfold maxLen; omega) (by omega) (by simp; omega) ?_); intro v' w5 hown5 hgrow hat)
              have hlo := HO.out.1.lt
              have HN5 : Hid (w5.ownsRow w3.heap.size 55 1 v' (ns ++ [n]).length (nums (ns ++ [n])) ∧ Below w3.heap.size w3 w5) := Lib.hid (by
                rw [HT.out.2, List.length_append]
                exact ⟨hown5, (HO.out.2.alloc (by omega) _).grown hgrow (by simp; omega) (fun k hk => (hlo k hk).1)⟩)
              clear hown5 hgrow hat hlo
              go_roundw
              case rel => exact ⟨ns ++ [n], a', by omega, rfl, Lib.hid ⟨HN5.out.1, HN5.out.2, HT.out.1, by have := HQ.out.2.2.2; simp; omega⟩⟩
              case measure => simp [intOf]; omega
          · have HNF : Hid (numsF py.length py = some ns) := Lib.hid (by
              have h1 := HQ.out.2.2.1
              rw [show a = py.length from by omega, List.drop_length, Nat.sub_self] at h1
              simpa [numsF] using h1)
            have y1 : ¬ (a : Int) < (py.length : Int) := by omega
            have hn64 := numsF_lt _ _ _ HNF.out
            have f4 := (HQ.out.2.1.block w1.heap.size (by omega)).trans HF.out.1
            have c0 : wr.cell? ⟨w1.heap.size, 0, none⟩ = some (.int .u8 (kd : Nat)) := by rw [cell_of_row wr _ 0 _ _ _ f4]; rfl
            have HCO := Lib.hid (refCertOf_any _ _ k ns _ wr (Sl.of_owns HQ.out.1 (by omega)) hnl hn64)
            obtain ⟨hcn, hce⟩ := HEN.out ns HNF.out
            have hclen := crtOf_len k ns
            have hck : (crtOf k ns).k = k := by unfold crtOf; split <;> (try split) <;> (try split) <;> rfl
            have HC := Lib.hid (And.intro hcn (And.intro hce (And.intro (show (crtOf k ns).o.length ≤ 1000 by omega) (show (crtOf k ns).w.length ≤ 1000 by omega))))
            generalize crtOf k ns = c at HCO HC
            have HW := Lib.hid (And.intro (HF.out.2.2.2.trans (HQ.out.2.1.mono (by omega))) ((HQ.out.2.1.block w.heap.size (by omega)).trans HF.out.2.1))
            have HBb := Lib.hid ((HR1.out.below HZ.out (Nat.le_refl _)).below HQ.out.2.1 (Nat.le_refl _))
            clear hn64 hcn hce hclen f4 hck HEB HEN
            go_wp2_with fail
            refine HCO.out.mono ?_
            rintro e w5 ⟨cv, rfl, hrep, hb5⟩
            obtain ⟨oa, oc, wa, wc, rfl, _, _, _, _, _, _⟩ := hrep.shape
            have hs5 := hb5.size
            have hb6 : Below w5.heap.size w5 (w5.alloc (.cells #[.int .i64 c.k, .slice oa c.o.length oc, .int .i64 c.p, .int .i64 c.q, .slice wa c.w.length wc] 28)) := (Below.refl _ _).alloc (Nat.le_refl _) _
            have h6 : (w5.alloc (.cells #[.int .i64 c.k, .slice oa c.o.length oc, .int .i64 c.p, .int .i64 c.q, .slice wa c.w.length wc] 28)).heap[w5.heap.size]? = some (.cells #[.int .i64 c.k, .slice oa c.o.length oc, .int .i64 c.p, .int .i64 c.q, .slice wa c.w.length wc] 28 (0, 0)) := heap_alloc_new _ _
            have hz6 : (w5.alloc (.cells #[.int .i64 c.k, .slice oa c.o.length oc, .int .i64 c.p, .int .i64 c.q, .slice wa c.w.length wc] 28)).heap.size = w5.heap.size + 1 := World.size_alloc _ _
            have H6 : Hid (RepC (w5.alloc (.cells #[.int .i64 c.k, .slice oa c.o.length oc, .int .i64 c.p, .int .i64 c.q, .slice wa c.w.length wc] 28)) (fun b => wr.heap.size ≤ b) true c (.agg #[.int .i64 c.k, .slice oa c.o.length oc, .int .i64 c.p, .int .i64 c.q, .slice wa c.w.length wc]) ∧ Below wr.heap.size wr (w5.alloc (.cells #[.int .i64 c.k, .slice oa c.o.length oc, .int .i64 c.p, .int .i64 c.q, .slice wa c.w.length wc] 28))) := Lib.hid ⟨hrep.below hb6 (Nat.le_refl _), hb5.trans (hb6.mono hs5)⟩
            clear hrep hb5 hb6 c0 HCO
            go_upto_region 14 with fail
            generalize w5.alloc (.cells #[.int .i64 c.k, .slice oa c.o.length oc, .int .i64 c.p, .int .i64 c.q, .slice wa c.w.length wc] 28) = w6 at h6 hz6 H6 ⊢
            have HLq : Hid (Lq w6.heap.size w6) := Lib.hid ((HL1.out.below (((HZ.out.mono (by omega)).trans (HQ.out.2.1.mono (by omega))).trans (H6.out.2.mono (by omega)))).mono (by omega))
            have d0 : w6.cell? ⟨w5.heap.size, 0, none⟩ = some (.int .i64 c.k) := by rw [cell_of_row w6 _ 0 _ _ _ h6]; rfl
            have d1 : w6.cell? ⟨w5.heap.size, 1, none⟩ = some (.slice oa c.o.length oc) := by rw [cell_of_row w6 _ 1 _ _ _ h6]; rfl
            have d2 : w6.cell? ⟨w5.heap.size, 2, none⟩ = some (.int .i64 c.p) := by rw [cell_of_row w6 _ 2 _ _ _ h6]; rfl
            have d3 : w6.cell? ⟨w5.heap.size, 3, none⟩ = some (.int .i64 c.q) := by rw [cell_of_row w6 _ 3 _ _ _ h6]; rfl
            have d4 : w6.cell? ⟨w5.heap.size, 4, none⟩ = some (.slice wa c.w.length wc) := by rw [cell_of_row w6 _ 4 _ _ _ h6]; rfl
            go_wp2_with fail
            refine (refCertPut_any _ _ c _ w6 H6.out.1 HC.out.1 HC.out.2.2.1 HC.out.2.2.2 HLq.out).mono ?_
            rintro e w7 ⟨hput, hb7⟩
            have g7 := (hb7.block w.heap.size (by omega)).trans ((H6.out.2.block w.heap.size (by omega)).trans HW.out.2)
            have h7 := (hb7.block w5.heap.size (by omega)).trans h6
            have HB7 := Lib.hid (HW.out.1.trans ((H6.out.2.mono (by omega)).trans (hb7.mono (by omega))))
            have H7 := Lib.hid (H6.out.1.below hb7 (Nat.le_refl _))
            have HBb7 := Lib.hid ((HBb.out.below H6.out.2 (Nat.le_refl _)).below hb7 (Nat.le_refl _))
            clear hb7 d0 d1 d2 d3 d4
            rcases hput with ⟨hri, u, rfl, hru⟩ | ⟨hri, rfl⟩
            · have q1 := convB_any _ _ _ _ w7 hru
              have q2 := convB_any _ _ _ _ w7 HBb7.out
              obtain ⟨A, hA⟩ : ∃ A : ByteArray, A = ⟨c.bytes.toArray⟩ := ⟨_, rfl⟩
              obtain ⟨B, hB⟩ : ∃ B : ByteArray, B = ⟨b.toArray⟩ := ⟨_, rfl⟩
              rw [← hA] at q1
              rw [← hB] at q2
              have hd : (A.toList == B.toList) = decide (c.bytes = b) := by
                rw [hA, hB, ByteArray.toList_eq, ByteArray.toList_eq, Bool.eq_iff_iff]
                simp
              obtain ⟨_, ua, uc, rfl, _⟩ := hru.shape
              clear hru hA hB
              by_cases hcb : c.bytes = b
              · have t1 : (A.toList == B.toList) = true := by rw [hd]; simpa using hcb
                have HE : Hid (crtParse b = some c) := Lib.hid (by rw [HC.out.2.1, if_pos ⟨hri, hcb⟩])
                clear hd hcb hri
                have d0 : w7.cell? ⟨w5.heap.size, 0, none⟩ = some (.int .i64 c.k) := by rw [cell_of_row w7 _ 0 _ _ _ h7]; rfl
                have d1 : w7.cell? ⟨w5.heap.size, 1, none⟩ = some (.slice oa c.o.length oc) := by rw [cell_of_row w7 _ 1 _ _ _ h7]; rfl
                have d2 : w7.cell? ⟨w5.heap.size, 2, none⟩ = some (.int .i64 c.p) := by rw [cell_of_row w7 _ 2 _ _ _ h7]; rfl
                have d3 : w7.cell? ⟨w5.heap.size, 3, none⟩ = some (.int .i64 c.q) := by rw [cell_of_row w7 _ 3 _ _ _ h7]; rfl
                have d4 : w7.cell? ⟨w5.heap.size, 4, none⟩ = some (.slice wa c.w.length wc) := by rw [cell_of_row w7 _ 4 _ _ _ h7]; rfl
                go_wp2_with (refine wpList_store_row rfl 28 (.tmp 2) (.tmp 84) rfl rfl w.heap.size rfl _ rfl 28 _ g7 (by kernel_rfl) rfl (by simp [Value.oneCell']) ?_)
                refine bodyPost_ret (v := .tuple #[.agg #[.int .i64 c.k, .slice oa c.o.length oc, .int .i64 c.p, .int .i64 c.q, .slice wa c.w.length wc], .int .i64 0]) (results_row2 rfl _ _ w.heap.size 28 _ _ _ _ rfl (setRow_heap _ _ _ _ _ _ g7) Tryz.underlying28 rfl (by kernel_rfl) rfl) rfl ?_
                rw [HE.out]
                exact ⟨_, rfl, (H7.out.keep (keeps_setRow (g := w.heap.size) (fun h => by have h : _ ≤ w.heap.size := h; omega)) (fun b _ hb => by have hb : _ ≤ b := hb; show _ ≤ b; omega)), below_setRow HB7.out _ _ (Nat.le_refl _)⟩
              · have t1 : (A.toList == B.toList) = false := by rw [hd]; simpa using hcb
                have HE : Hid (crtParse b = none) := Lib.hid (by rw [HC.out.2.1, if_neg (fun h => hcb h.2)])
                clear hd hcb hri
                go_wp2_with (refine wpList_store_row rfl 28 (.tmp 2) (.tmp 83) rfl rfl w.heap.size rfl _ rfl 28 _ g7 (by kernel_rfl) rfl (by simp [Value.oneCell']) ?_)
                exact bodyPost_ret (v := .tuple #[.agg #[.int .i64 0, .slice none 0 0, .int .i64 0, .int .i64 0, .slice none 0 0], .int .i64 280]) (results_row2 rfl _ _ w.heap.size 28 _ _ _ _ rfl (setRow_heap _ _ _ _ _ _ g7) Tryz.underlying28 rfl (by kernel_rfl) rfl) rfl (givesPC_no HE.out (below_setRow (HB7.out) _ _ (Nat.le_refl _)))
            · have HE : Hid (crtParse b = none) := Lib.hid (by rw [HC.out.2.1, if_neg (fun h => by rw [hri] at h; cases h.1)])
              clear hri
              go_wp2_with (refine wpList_store_row rfl 28 (.tmp 2) (.tmp 83) rfl rfl w.heap.size rfl _ rfl 28 _ g7 (by kernel_rfl) rfl (by simp [Value.oneCell']) ?_)
              exact bodyPost_ret (v := .tuple #[.agg #[.int .i64 0, .slice none 0 0, .int .i64 0, .int .i64 0, .slice none 0 0], .int .i64 280]) (results_row2 rfl _ _ w.heap.size 28 _ _ _ _ rfl (setRow_heap _ _ _ _ _ _ g7) Tryz.underlying28 rfl (by kernel_rfl) rfl) rfl (givesPC_no HE.out (below_setRow (HB7.out) _ _ (Nat.le_refl _)))
      · have HE : Hid (crtParse b = none) := Lib.hid (crtParse_frame fun h => hk h.2.2)
        have hku := frOf_kind b
        obtain ⟨kd, hkd⟩ : ∃ ru, ru = (frOf b).kind := ⟨_, rfl⟩
        rw [← hkd] at hk hku ⊢
        generalize (⟨(frOf b).pay.toArray⟩ : ByteArray) = PS
        clear hkd h0 hl hpl
        by_cases h16 : (kd : Int) < 17
        · have q1 : (kd : Int) ≤ 16 := by omega
          go_wp2_with (refine wpList_store_row rfl 28 (.tmp 2) (.tmp 40) rfl rfl w.heap.size rfl _ rfl 28 _ (ga _ _) (by kernel_rfl) rfl (by simp [Value.oneCell']) ?_)
          exact bodyPost_ret (v := .tuple #[.agg #[.int .i64 0, .slice none 0 0, .int .i64 0, .int .i64 0, .slice none 0 0], .int .i64 280]) (results_row2 rfl _ _ w.heap.size 28 _ _ _ _ rfl (setRow_heap _ _ _ _ _ _ (ga _ _)) Tryz.underlying28 rfl (by kernel_rfl) rfl) rfl (givesPC_no HE.out (below_setRow (HB1.out.alloc (by omega) _) _ _ (Nat.le_refl _)))
        · have q2 : (20 : Int) < (kd : Int) := by omega
          go_wp2_with (refine wpList_store_row rfl 28 (.tmp 2) (.tmp 40) rfl rfl w.heap.size rfl _ rfl 28 _ (ga _ _) (by kernel_rfl) rfl (by simp [Value.oneCell']) ?_)
          exact bodyPost_ret (v := .tuple #[.agg #[.int .i64 0, .slice none 0 0, .int .i64 0, .int .i64 0, .slice none 0 0], .int .i64 280]) (results_row2 rfl _ _ w.heap.size 28 _ _ _ _ rfl (setRow_heap _ _ _ _ _ _ (ga _ _)) Tryz.underlying28 rfl (by kernel_rfl) rfl) rfl (givesPC_no HE.out (below_setRow (HB1.out.alloc (by omega) _) _ _ (Nat.le_refl _)))
    · have HE : Hid (crtParse b = none) := Lib.hid (crtParse_frame fun h => hl h.2.1)
      obtain ⟨ln, hln⟩ : ∃ ru, ru = (frOf b).len := ⟨_, rfl⟩
      rw [← hln] at hl ⊢
      obtain ⟨kd, hkd⟩ : ∃ ru, ru = (frOf b).kind := ⟨_, rfl⟩
      rw [← hkd]
      generalize (⟨(frOf b).pay.toArray⟩ : ByteArray) = PS
      have t1 : ((ln : Int) != (b.length : Int)) = true := by simpa using (by omega : ¬ (ln : Int) = (b.length : Int))
      rw [Nat.zero_add]
      clear hln hkd h0 hpl hl
      go_wp2_with (refine wpList_store_row rfl 28 (.tmp 2) (.tmp 40) rfl rfl w.heap.size rfl _ rfl 28 _ (ga _ _) (by kernel_rfl) rfl (by simp [Value.oneCell']) ?_)
      exact bodyPost_ret (v := .tuple #[.agg #[.int .i64 0, .slice none 0 0, .int .i64 0, .int .i64 0, .slice none 0 0], .int .i64 280]) (results_row2 rfl _ _ w.heap.size 28 _ _ _ _ rfl (setRow_heap _ _ _ _ _ _ (ga _ _)) Tryz.underlying28 rfl (by kernel_rfl) rfl) rfl (givesPC_no HE.out (below_setRow (HB1.out.alloc (by omega) _) _ _ (Nat.le_refl _)))
  · rw [if_neg h0]
    have HE : Hid (crtParse b = none) := Lib.hid (crtParse_frame fun h => h0 h.1)
    obtain ⟨ru, hru⟩ : ∃ ru, ru = (frOf b).rule := ⟨_, rfl⟩
    rw [← hru] at h0 ⊢
    obtain ⟨kd, hkd⟩ : ∃ ru, ru = (frOf b).kind := ⟨_, rfl⟩
    rw [← hkd]
    generalize (⟨(frOf b).pay.toArray⟩ : ByteArray) = PS
    have t1 : (ru != 0) = true := by simpa using h0
    clear hru hkd h0 hpl
    go_wp2_with (refine wpList_store_row rfl 28 (.tmp 2) (.tmp 40) rfl rfl w.heap.size rfl _ rfl 28 _ (ga _ _) (by kernel_rfl) rfl (by simp [Value.oneCell']) ?_)
    exact bodyPost_ret (v := .tuple #[.agg #[.int .i64 0, .slice none 0 0, .int .i64 0, .int .i64 0, .slice none 0 0], .int .i64 280]) (results_row2 rfl _ _ w.heap.size 28 _ _ _ _ rfl (setRow_heap _ _ _ _ _ _ (ga _ _)) Tryz.underlying28 rfl (by kernel_rfl) rfl) rfl (givesPC_no HE.out (below_setRow (HB1.out.alloc (by omega) _) _ _ (Nat.le_refl _)))
end Go.Proofs.YtkpfbalkhlidgaaGreatDoor
