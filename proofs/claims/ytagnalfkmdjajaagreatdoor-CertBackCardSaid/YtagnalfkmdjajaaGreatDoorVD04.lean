/- Walks: a frame taken off bytes, by the program. -/
import Derived.Test.YtagnalfkmdjajaaGreatDoorV25
import Derived.Test.YtagnalfkmdjajaaGreatDoorV3
import Derived.Laws.Rows
import Derived.Deep.RegionHeld3
import Derived.Deep.DeepFit
namespace Go.Proofs.YtagnalfkmdjajaaGreatDoor
open Go.RowKit Go
set_option linter.unusedVariables false
set_option linter.unusedSimpArgs false
theorem wp_store_rowF {P : Program} {o : Oper} {a : Act} {w : World} {K : Act → World → Prop} {Q : Exit → Act → World → Prop} (ty : TypeId) (x y : Operand) (ho : o.op = .store ty x y)
    (g : Nat) (hx : a.eval x = .pointer (some ⟨g, 0, none⟩)) (cs : Array Value) (hy : a.eval y = .agg cs) (t : TypeId) (cur : Array Value) (hg : w.heap[g]? = some (.cells cur t (0, 0)))
    (hi : (P.info? ty).map (·.size) = some cs.size) (hsz : cs.size = cur.size) (h1 : ∀ v ∈ cs.toList, v.oneCell' = true)
    (h : K (a.put o.dst undef) (w.setRow g cs)) : Oper.wp P o a w K Q := by
  unfold Oper.wp execOp
  simp only [ho, hx, hy, Instr.storeAt, Instr.sureAddr, Sem.run_bind, Sem.run_pure, Result.andThen_ok, run_storeVar_row w g t ty cur cs hg hi hsz h1]
  exact h
theorem keeps_setRowF {S : Nat → Prop} {w : World} {g : Nat} {cs : Array Value} (h : ¬ S g) : Keeps S w (w.setRow g cs) := fun b hb _ => setRow_other _ _ _ _ (fun e => h (e ▸ hb))
def pFrG (k : Nat) (l : List UInt8) (S : Nat → Prop) (v : Value) (w : World) : Prop := ∃ pv, v = .agg #[.int .u8 (k : Nat), pv] ∧ RepB w S true l pv
theorem steadyFrG (k : Nat) (l : List UInt8) : Steady (pFrG k l) := fun S S' v w w' hk hs hS h => by
  obtain ⟨pv, h1, h2⟩ := h
  exact ⟨pv, h1, Sl.keep (w := w) h2 (by omega) hk hS⟩
/-- What a frame's taking answers. -/
def GivesF (w : World) (a : Nat) (f : Frm) (e : Ending) (w' : World) : Prop := ∃ pv, e = .returned (.tuple #[.agg #[.int .u8 (f.kind : Nat), pv], .int .i64 (if f.rule = 0 then ((a + f.len : Nat) : Int) else 0), .int .i64 f.rule]) ∧ RepB w' (fun b => w.heap.size ≤ b) true f.pay pv ∧ Below w.heap.size w w'
theorem givesF_no {w w' : World} {a : Nat} {r : Int} (h0 : r ≠ 0) (hb : Below w.heap.size w w') : GivesF w a (.no r) (.returned (.tuple #[.agg #[.int .u8 0, .slice none 0 0], .int .i64 0, .int .i64 r])) w' :=
  ⟨_, by unfold Frm.no; simp only [if_neg h0]; rfl, RepB.none, hb⟩
set_option maxHeartbeats 2000000 in
set_option maxRecDepth 100000 in
theorem frGet_any (S : Nat → Prop) (own : Bool) (b : List UInt8) (v : Value) (p0 : Nat) (w : World) (hr : RepB w S own b v) (ha : p0 ≤ b.length) (hb : b.length ≤ 100000) :
    Calls Tryz.prog 35 #[v, .int .i64 p0] w (GivesF w p0 (frOf (b.drop p0))) := by
  obtain ⟨_, ad, cap, rfl, hc⟩ := hr.shape
  have g0 := heap_alloc_new w (.cells #[.int .u8 0, .slice none 0 0] 72)
  have hb0 : Below w.heap.size w (w.alloc (.cells #[.int .u8 0, .slice none 0 0] 72)) := (Below.refl _ _).alloc (Nat.le_refl _) _
  have hs0 : (w.alloc (.cells #[.int .u8 0, .slice none 0 0] 72)).heap.size = w.heap.size + 1 := World.size_alloc _ _
  have HR := Lib.hid (hr.below hb0 (Nat.le_refl _))
  have HB := Lib.hid hb0
  clear hr hb0
  by_cases he : p0 < b.length
  · obtain ⟨k, r, hkr⟩ : ∃ k r, b.drop p0 = k :: r := by
      cases h : b.drop p0 with
      | nil => have := congrArg List.length h; simp at this; omega
      | cons k r => exact ⟨k, r, rfl⟩
    have hrd : r = b.drop (p0 + 1) := by rw [← List.drop_drop, hkr]; rfl
    have hrl : r.length = b.length - (p0 + 1) := by rw [hrd]; simp
    have HG := Lib.hid (varGet_any S own b _ (p0 + 1) _ HR.out (by omega) (by omega))
    rw [← hrd] at HG
    have HKR := Lib.hid (And.intro hkr hrd)
    rw [hkr]
    clear hkr hrd
    go_enter Tryz.func35, Tryz.ntmps35
    go_wp2_with fail
    refine HG.out.mono ?_
    rintro e w1 ⟨rfl, hb1⟩
    unfold gotV
    have g1 : w1.heap[w.heap.size]? = some (.cells #[.int .u8 0, .slice none 0 0] 72 (0, 0)) := (hb1.block _ (by omega)).trans g0
    have HB1 := Lib.hid (HB.out.trans (hb1.mono (by omega)))
    have HR1 := Lib.hid (HR.out.below hb1 (Nat.le_refl _))
    have hs1 := hb1.size
    clear hb1 g0
    by_cases h10 : getC r = 10
    · have t1 : (getC r == 10) = true := by simp [h10]
      have HE := Lib.hid (frOf_bad (k := k) h10)
      clear h10
      go_wp2_with (refine wpList_store_row rfl 72 (.tmp 4) (.tmp 31) rfl rfl w.heap.size rfl _ rfl 72 _ g1 (by kernel_rfl) rfl (by simp [Value.oneCell']) ?_)
      exact bodyPost_ret (v := .tuple #[.agg #[.int .u8 0, .slice none 0 0], .int .i64 0, .int .i64 2]) (results_row3 rfl _ _ w.heap.size 72 _ _ _ _ _ rfl (setRow_heap _ _ _ _ _ _ g1) Tryz.underlying72 rfl (by kernel_rfl) rfl rfl) rfl (by rw [HE.out]; exact givesF_no (r := 2) (by decide) (below_setRow HB1.out _ _ (Nat.le_refl _)))
    · have t1 : (getC r == 10) = false := by simp [h10]
      cases hv : getV r with
      | none =>
        have hc0 : (getC r != 0) = true := by
          have : ¬ getC r = 0 := fun e => by have := (getC_zero r).1 e; rw [hv] at this; cases this
          simpa using this
        have HE := Lib.hid (frOf_none (k := k) h10 hv)
        clear h10 hv
        go_wp2_with (refine wpList_store_row rfl 72 (.tmp 4) (.tmp 52) rfl rfl w.heap.size rfl _ rfl 72 _ g1 (by kernel_rfl) rfl (by simp [Value.oneCell']) ?_)
        exact bodyPost_ret (v := .tuple #[.agg #[.int .u8 0, .slice none 0 0], .int .i64 0, .int .i64 1]) (results_row3 rfl _ _ w.heap.size 72 _ _ _ _ _ rfl (setRow_heap _ _ _ _ _ _ g1) Tryz.underlying72 rfl (by kernel_rfl) rfl rfl) rfl (by rw [HE.out]; exact givesF_no (r := 1) (by decide) (below_setRow HB1.out _ _ (Nat.le_refl _)))
      | some x =>
        obtain ⟨n, s⟩ := x
        have hc0 : (getC r != 0) = false := by
          have : getC r = 0 := (getC_zero r).2 (by rw [hv]; rfl)
          simp [this]
        have hsl := getV_len hv
        have hgn : getN r = n := by unfold getN; rw [hv]
        have hga : getAt (p0 + 1) r = p0 + 1 + (r.length - s.length) := by unfold getAt; rw [hv]
        have hn64 := getV_lt hv
        rw [hgn, hga]
        obtain ⟨f0, hf0⟩ : ∃ f0, f0 = p0 + 1 + (r.length - s.length) := ⟨_, rfl⟩
        rw [← hf0]
        have HF0 := Lib.hid (And.intro hf0 hrl)
        obtain ⟨sl, hsl0⟩ : ∃ sl, sl = s.length := ⟨_, rfl⟩
        have hfl : f0 + sl = b.length := by omega
        have hfa : p0 + 1 ≤ f0 := by omega
        have HV := Lib.hid hv
        have HSL := Lib.hid hsl0
        clear h10 hgn hga hv hf0 hrl hsl hsl0
        by_cases h4 : sl < n + 4
        · have HE := Lib.hid (frOf_short (k := k) HV.out (by have := HSL.out; omega))
          by_cases h5 : sl < 4
          · go_wp2_with (refine wpList_store_row rfl 72 (.tmp 4) (.tmp 52) rfl rfl w.heap.size rfl _ rfl 72 _ g1 (by kernel_rfl) rfl (by simp [Value.oneCell']) ?_)
            exact bodyPost_ret (v := .tuple #[.agg #[.int .u8 0, .slice none 0 0], .int .i64 0, .int .i64 1]) (results_row3 rfl _ _ w.heap.size 72 _ _ _ _ _ rfl (setRow_heap _ _ _ _ _ _ g1) Tryz.underlying72 rfl (by kernel_rfl) rfl rfl) rfl (by rw [HE.out]; exact givesF_no (r := 1) (by decide) (below_setRow HB1.out _ _ (Nat.le_refl _)))
          · go_wp2_with (refine wpList_store_row rfl 72 (.tmp 4) (.tmp 52) rfl rfl w.heap.size rfl _ rfl 72 _ g1 (by kernel_rfl) rfl (by simp [Value.oneCell']) ?_)
            exact bodyPost_ret (v := .tuple #[.agg #[.int .u8 0, .slice none 0 0], .int .i64 0, .int .i64 1]) (results_row3 rfl _ _ w.heap.size 72 _ _ _ _ _ rfl (setRow_heap _ _ _ _ _ _ g1) Tryz.underlying72 rfl (by kernel_rfl) rfl rfl) rfl (by rw [HE.out]; exact givesF_no (r := 1) (by decide) (below_setRow HB1.out _ _ (Nat.le_refl _)))
        · have h4' : n + 4 ≤ s.length := by have := HSL.out; omega
          have hn4 : n + 4 ≤ sl := by omega
          obtain ⟨E, hE0⟩ : ∃ E, E = f0 + n := ⟨_, rfl⟩
          have hE : (f0 : Int) + (n : Int) = (E : Int) := by omega
          have i1 : (0 : Int) ≤ (p0 : Int) := by omega
          have i2 : (p0 : Int) ≤ (E : Int) := by omega
          have i3 : (E : Int) ≤ (cap : Int) := by omega
          have i4 : (0 : Int) ≤ (E : Int) := by omega
          have i5 : (E : Int) ≤ (E : Int) + 4 := by omega
          have i6 : (E : Int) + 4 ≤ (cap : Int) := by omega
          have i7 : (0 : Int) ≤ (E : Int) + 4 := by omega
          have i8 : ((E : Int) + 4).toNat = E + 4 := by omega
          have i9 : IntKind.i64.wrap ((E : Int) + 4) = (E : Int) + 4 := by rw [IntKind.wrap_i64]; omega
          have n1 : p0 ≤ E := by omega
          have n2 : E ≤ cap := by omega
          have n4 : E + 4 ≤ cap := by omega
          have n5 : E + 4 - E = 4 := by omega
          have HE := Lib.hid (And.intro hE0 hn4)
          clear hE0
          go_upto_region 9 with fail
          have hcc := frOf_check (k := k) HV.out h4'
          obtain ⟨fh1, fh2⟩ := frame_head (k := k) HV.out h4'
          have hcut : 1 + (r.length - s.length) + n = E - p0 := by have := HF0.out.1; have := HE.out.1; omega
          rw [hcut] at fh1 fh2
          have hdr : (s.drop n).take 4 = (b.drop E).take 4 := by
            have e2 : s = b.drop f0 := by
              have := getV_drop HV.out
              rw [this, HKR.out.2, List.drop_drop]
              congr 1
              rw [← HKR.out.2]; have := HF0.out.1; omega
            rw [e2, List.drop_drop, HE.out.1]
          have HH : Hid (∀ w', Below w1.heap.size w1 w' → RepB w' (fun k => k < w'.heap.size) false (frameH k.toNat (s.take n)) (.slice (ad.map fun x => x.add p0) (E - p0) (cap - p0))) := Lib.hid (fun w' hb' => by
            have h := (RepB.cut HR1.out p0 (E - p0) (cap - p0) (by have := HE.out.1; omega) (by omega)).below hb' (Nat.le_refl _)
            rw [HKR.out.1, fh1] at h
            exact Sl.unown (Sl.keep h (by omega) (fun _ _ _ => rfl) (fun b hb _ => hb)))
          have HS : Hid (∀ w', Below w1.heap.size w1 w' → RepB w' S own ((s.drop n).take 4) (.slice (ad.map fun x => x.add E) 4 (cap - E))) := Lib.hid (fun w' hb' => by
            have h := (RepB.cut HR1.out E 4 (cap - E) (by have := HE.out.2; omega) (by omega)).below hb' (Nat.le_refl _)
            rw [hdr]; exact h)
          have HL := Lib.hid (show (frameH k.toNat (s.take n)).length ≤ 1000000 by rw [fh2]; have := HE.out.1; omega)
          have HCC := Lib.hid hcc
          clear hcc fh1 fh2 hdr hcut h4 h4'
          have y1 : (p0 == cap) = false := by have := HE.out.1; simp; omega
          have y2 : ¬ p0 = cap := by have := HE.out.1; omega
          have y3 : ¬ cap = p0 := by have := HE.out.1; omega
          have z1 : (E == cap) = false := by have := HE.out.2; simp; omega
          have z2 : ¬ E = cap := by have := HE.out.2; omega
          have z3 : ¬ cap = E := by have := HE.out.2; omega
          obtain ⟨qd, hqd⟩ : ∃ qd, qd = decide (sumN (Crc.crcS (frameH k.toNat (s.take n))) = (s.drop n).take 4) := ⟨_, rfl⟩
          have HQD := Lib.hid hqd
          clear hqd
          have hbW : Below w1.heap.size w1 w1 := Below.refl _ _
          go_region_held3 (fun w' => True)
            (first
              | exact trivial
              | go_keep)
            (first
              | (go_at_call 67; go_fit (check_any (frameH k.toNat (s.take n)) _ _ HL.out (HH.out _ (by first | exact hbW | exact hbW.drew))); rintro e w2 ⟨cv, rfl, hown2, hbx⟩; have HCV := Lib.hid (RepB.of_owns hown2); obtain ⟨sa2, sc2, rfl⟩ := owns_slice hown2; replace hbW := (by first | exact hbW.trans (hbx.mono hbW.size) | exact hbW.drew.trans (hbx.mono hbW.size)); clear hbx)
              | (go_at_call 74; go_fit (bytesEqual_any _ _ _ _ (sumN (Crc.crcS (frameH k.toNat (s.take n)))) ((s.drop n).take 4) _ _ _ (by first | exact HCV.out | exact RepB.of_owns hown2) (HS.out _ (by first | exact hbW | exact hbW.drew))); rintro e w3 ⟨rfl, rfl⟩; rw [← HQD.out])
              | fail)
          have hsz3 := hbW.size
          have g3 := (hbW.block _ (by omega)).trans g1
          have HB3 := Lib.hid (HB1.out.trans (hbW.mono (by omega)))
          have HR3 := Lib.hid (HR1.out.below hbW (Nat.le_refl _))
          cases qd with
          | true =>
            have hq := of_decide_eq_true HQD.out.symm
            have HF : Hid (frOf (k :: r) = ⟨0, k.toNat, s.take n, E + 4 - p0⟩) := Lib.hid (by rw [HCC.out, if_pos hq]; have := HF0.out.1; have := HE.out.1; congr 1; omega)
            obtain ⟨bl, off, rfl, _, q0⟩ := RepB.at8 HR3.out he
            have hk8 : at8 b p0 = k.toNat := by
              have := at8_eq b p0 he
              rw [this]
              have h2 : (b.drop p0)[0]? = some k := by rw [HKR.out.1]; rfl
              rw [List.getElem?_drop, Nat.add_zero, List.getElem?_eq_getElem he] at h2
              injection h2 with h2
              rw [h2]
            rw [hk8] at q0
            have hbl := World.block_lt_of_cell? _ ⟨bl, off + p0, none⟩ q0
            have HP := Lib.hid (fun w' (hb' : Below w3.heap.size w3 w') => show RepB w' S own (s.take n) (.slice (some ⟨bl, off + f0, none⟩) n (cap - f0)) from by
              have h := (RepB.cut HR3.out f0 n (cap - f0) (by have := HE.out.1; omega) (by have := HE.out.1; omega)).below hb' (Nat.le_refl _)
              have e2 : s = b.drop f0 := by
                have := getV_drop HV.out
                rw [this, HKR.out.2, List.drop_drop]
                congr 1
                rw [← HKR.out.2]; have := HF0.out.1; omega
              rw [← e2] at h
              simp only [Option.map_some, Addr.add_lit] at h
              exact h)
            obtain ⟨pl, hpe⟩ : ∃ pl, pl = s.take n := ⟨_, rfl⟩
            have HPL := Lib.hid (And.intro hpe (show pl.length = n by rw [hpe]; have := HSL.out; simp; omega))
            rw [← hpe] at HF HP
            clear hpe
            have j1 : (0 : Int) ≤ (f0 : Int) := by omega
            have j2 : (f0 : Int) ≤ (E : Int) := by have := HE.out.1; omega
            have j3 : f0 ≤ E := by have := HE.out.1; omega
            have j4 : E - f0 = n := by have := HE.out.1; omega
            have j5 : (f0 == cap) = false := by have := HE.out.1; simp; omega
            have j6 : ¬ f0 = cap := by have := HE.out.1; omega
            have j7 : ¬ cap = f0 := by have := HE.out.1; omega
            have j8 : (p0 : Int) < (b.length : Int) := by omega
            have hbV : Below w3.heap.size w3 w3 := Below.refl _ _
            clear hq hbW g1 HH HS
            go_upto_region 11 with fail
            refine wp_region_tail (w0 := w3) rfl [.eq (.slice (some ⟨bl, off, none⟩) b.length cap), .eq (.int .i64 (p0 : Nat)), .eq (.pointer (some ⟨bl, off + p0, none⟩)), .eq (.int .u8 (k.toNat : Nat)), .eq (.slice (some ⟨bl, off, none⟩) b.length cap), .eq (.int .i64 (f0 : Nat)), .eq (.int .i64 (E : Nat)), .eq (.slice (some ⟨bl, off + f0, none⟩) n (cap - f0)), .of (pBytes pl), .of (pFrG k.toNat pl), .eq (.int .i64 (E : Nat)), .eq (.int .i64 ((E : Int) + 4)), .tail, .eq (.int .i64 ((E : Int) + 4)), .eq ((Value.int IntKind.i64 0))] 12 [] [10, 11, 13, 14] (by kernel_rfl) ⟨?_, ?_, ?_, ?_, ?_, ?_, ?_, ?_, ?_, ?_, ?_, ?_, ?_, ?_, ?_, ?_, trivial⟩ ⟨?_, ?_, ?_, ?_, trivial⟩ [fun vs w' => ∃ wx pv, vs 9 = .agg #[.int .u8 (k.toNat : Nat), pv] ∧ Below w3.heap.size w3 wx ∧ RepB wx (fun b => w3.heap.size ≤ b) true pl pv ∧ w' = wx.setRow w.heap.size #[.int .u8 (k.toNat : Nat), pv]] ⟨?_, trivial⟩ (fun vs => [(70, (.slice (some ⟨bl, off, none⟩) b.length cap)), (71, (.int .i64 (p0 : Nat))), (72, (.pointer (some ⟨bl, off + p0, none⟩))), (73, (.int .u8 (k.toNat : Nat))), (74, (.slice (some ⟨bl, off, none⟩) b.length cap)), (75, (.int .i64 (f0 : Nat))), (76, (.int .i64 (E : Nat))), (77, (.slice (some ⟨bl, off + f0, none⟩) n (cap - f0))), (78, vs 8), (79, vs 9), (80, (.int .i64 (E : Nat))), (81, (.int .i64 ((E : Int) + 4))), (5, (.int .i64 ((E : Int) + 4))), (6, ((Value.int IntKind.i64 0)))]) (fun _ => rfl) ?_
            · refine RStep.mk rfl rfl (fun S a wx K Q hR hK => ?_)
              have t0 : a.tmps[0]? = some (.slice (some ⟨bl, off, none⟩) b.length cap) := (hR.old 0 (by kernel_rfl)).trans (by kernel_rfl)
              go_simp
              exact hK _ _ (Below.refl _ _) rfl
            · refine RStep.mk rfl rfl (fun S a wx K Q hR hK => ?_)
              have t1 : a.tmps[1]? = some (.int .i64 (p0 : Nat)) := (hR.old 1 (by kernel_rfl)).trans (by kernel_rfl)
              go_simp
              exact hK _ _ (Below.refl _ _) rfl
            · refine RStep.mk rfl rfl (fun S a wx K Q hR hK => ?_)
              have t70 := hR.eq 0 (by kernel_rfl) rfl rfl
              have t71 := hR.eq 1 (by kernel_rfl) rfl rfl
              go_simp
              exact hK _ _ (Below.refl _ _) rfl
            · refine RStep.mk rfl rfl (fun S a wx K Q hR hK => ?_)
              have t72 := hR.eq 2 (by kernel_rfl) rfl rfl
              have y0 := (hR.bel.cell (p := ⟨bl, off + p0, none⟩) hbl).trans q0
              go_simp
              exact hK _ _ (Below.refl _ _) rfl
            · refine RStep.mk rfl rfl (fun S a wx K Q hR hK => ?_)
              have t0 : a.tmps[0]? = some (.slice (some ⟨bl, off, none⟩) b.length cap) := (hR.old 0 (by kernel_rfl)).trans (by kernel_rfl)
              go_simp
              exact hK _ _ (Below.refl _ _) rfl
            · refine RStep.mk rfl rfl (fun S a wx K Q hR hK => ?_)
              have t8 : a.tmps[8]? = some (.int .i64 (f0 : Nat)) := (hR.old 8 (by kernel_rfl)).trans (by kernel_rfl)
              go_simp
              exact hK _ _ (Below.refl _ _) rfl
            · refine RStep.mk rfl rfl (fun S a wx K Q hR hK => ?_)
              have t10 : a.tmps[10]? = some (.int .i64 (E : Nat)) := (hR.old 10 (by kernel_rfl)).trans (by kernel_rfl)
              go_simp
              exact hK _ _ (Below.refl _ _) rfl
            · refine RStep.mk rfl rfl (fun S a wx K Q hR hK => ?_)
              have t74 := hR.eq 4 (by kernel_rfl) rfl rfl
              have t75 := hR.eq 5 (by kernel_rfl) rfl rfl
              have t76 := hR.eq 6 (by kernel_rfl) rfl rfl
              go_simp
              exact hK _ _ (Below.refl _ _) rfl
            · exact steadyBytes _
            · refine RStep.mk rfl rfl (fun S a wx K Q hR hK => ?_)
              have t77 := hR.eq 7 (by kernel_rfl) rfl rfl
              go_simp
              go_at_call 68
              go_fit (cloneBytes_any _ _ pl _ _ (HP.out _ hR.bel) (by have := HPL.out.2; omega))
              rintro e w' ⟨pv, rfl, hown4, hbx⟩
              exact hK _ _ hbx (Sl.keep (RepB.of_owns hown4) (by omega) (fun _ _ _ => rfl) (fun b _ hb => hR.new b hb.2))
            · exact steadyFrG _ _
            · refine RStep.mk rfl rfl (fun S a wx K Q hR hK => ?_)
              have t73 := hR.eq 3 (by kernel_rfl) rfl rfl
              obtain ⟨u78, t78, f78⟩ := hR.of 8 (by kernel_rfl) rfl rfl
              obtain ⟨_, a78, c78, rfl, _⟩ := RepB.shape (show RepB wx S true pl u78 from f78)
              go_simp
              exact hK _ _ (Below.refl _ _) ⟨_, rfl, f78⟩
            · refine PStep.step rfl (PStep.mk rfl rfl (fun a wx K Q hR hK => ?_))
              have t10 : a.tmps[10]? = some (.int .i64 (E : Nat)) := (hR.old 10 (by kernel_rfl)).trans (by kernel_rfl)
              go_simp
              exact hK
            · refine PStep.step rfl (PStep.mk rfl rfl (fun a wx K Q hR hK => ?_))
              have t80 := hR.eq 10 _ 80 (by kernel_rfl) rfl rfl
              go_simp
              exact hK
            · refine PStep.step rfl (PStep.mk rfl rfl (fun a wx K Q hR hK => ?_))
              have t81 := hR.eq 11 _ 81 (by kernel_rfl) rfl rfl
              go_simp
              exact hK
            · refine PStep.step rfl (PStep.mk rfl rfl (fun a wx K Q hR hK => ?_))
              go_simp
              exact hK
            · refine PStep.mk rfl rfl (fun a wx K Q hR hK => ?_)
              have t10 : a.tmps[10]? = some (.int .i64 (E : Nat)) := (hR.old 10 (by kernel_rfl)).trans (by kernel_rfl)
              go_simp
              exact hK
            · refine PStep.mk rfl rfl (fun a wx K Q hR hK => ?_)
              have t80 := hR.eq 10 _ 80 (by kernel_rfl) rfl rfl
              go_simp
              exact hK
            · refine PStep.mk rfl rfl (fun a wx K Q hR hK => ?_)
              have t81 := hR.eq 11 _ 81 (by kernel_rfl) rfl rfl
              go_simp
              exact hK
            · refine PStep.mk rfl rfl (fun a wx K Q hR hK => ?_)
              go_simp
              exact hK
            · refine TStep.mk rfl (fun vs a wx K Q hR hZ hK => ?_)
              have t4 : a.tmps[4]? = some (.pointer (some ⟨w.heap.size, 0, none⟩)) := (hR.old 4 (by kernel_rfl)).trans (by kernel_rfl)
              have t79 := hR.dep 9 79 (by kernel_rfl) rfl
              obtain ⟨hbel2, S2, hlow, hof⟩ := hZ
              obtain ⟨pv, ev, hpv⟩ : pFrG k.toNat pl S2 (vs 9) wx := hof 9 _ rfl
              rw [ev] at t79
              have hg : wx.heap[w.heap.size]? = some (.cells #[.int .u8 0, .slice none 0 0] 72 (0, 0)) := (hbel2.block _ (by omega)).trans g3
              obtain ⟨_, qd, qc, rfl, _⟩ := RepB.shape hpv
              refine wp_store_rowF 72 (.tmp 4) (.tmp 79) rfl w.heap.size (eval_of t4) #[.int .u8 (k.toNat : Nat), .slice qd pl.length qc] (eval_of t79) 72 _ hg (by kernel_rfl) rfl (by simp [Value.oneCell']) ?_
              exact hK undef _ ⟨wx, _, (upd_ne _ _ (by omega)).trans ev, hbel2, Sl.keep hpv (by omega) (fun _ _ _ => rfl) (fun b _ hb => hlow b hb), rfl⟩
            intro vs wN hE hZ
            obtain ⟨wx, pv, ev, hbel2, hpv, rfl⟩ := hZ
            obtain ⟨_, qd, qc, rfl, _⟩ := RepB.shape hpv
            have hg : wx.heap[w.heap.size]? = some (.cells #[.int .u8 0, .slice none 0 0] 72 (0, 0)) := (hbel2.block _ (by omega)).trans g3
            have HZ : Hid (GivesF w p0 (frOf (k :: r)) (.returned (.tuple #[.agg #[.int .u8 (k.toNat : Nat), .slice qd pl.length qc], .int .i64 ((E : Int) + 4), .int .i64 0])) (wx.setRow w.heap.size #[.int .u8 (k.toNat : Nat), .slice qd pl.length qc])) := Lib.hid (by
              rw [HF.out]
              refine ⟨_, ?_, Sl.keep hpv (by omega) (keeps_setRowF (fun h => by have h : w3.heap.size ≤ w.heap.size := h; omega)) (fun b _ hb => by have hb : w3.heap.size ≤ b := hb; show _ ≤ b; omega), below_setRow (HB3.out.trans (hbel2.mono (by omega))) _ _ (Nat.le_refl _)⟩
              have he4 : ((p0 + (E + 4 - p0) : Nat) : Int) = (E : Int) + 4 := by omega
              simp only [if_true, he4])
            simp only [ev, putsL, List.foldl_cons, List.foldl_nil]
            clear hE ev hbel2 hpv
            generalize vs 8 = v8
            go_simp
            (try (go_wp2_with fail))
            exact bodyPost_ret (v := .tuple #[.agg #[.int .u8 (k.toNat : Nat), .slice qd pl.length qc], .int .i64 ((E : Int) + 4), .int .i64 0]) (results_row3 rfl _ _ w.heap.size 72 _ _ _ _ _ rfl (setRow_heap _ _ _ _ _ _ hg) Tryz.underlying72 rfl (by kernel_rfl) rfl rfl) rfl HZ.out
          | false =>
            have hq := of_decide_eq_false HQD.out.symm
            have HF : Hid (frOf (k :: r) = .no 3) := Lib.hid (by rw [HCC.out, if_neg hq])
            clear hq hbW
            go_wp2_with (refine wpList_store_row rfl 72 (.tmp 4) (.tmp 69) rfl rfl w.heap.size rfl _ rfl 72 _ g3 (by kernel_rfl) rfl (by simp [Value.oneCell']) ?_)
            exact bodyPost_ret (v := .tuple #[.agg #[.int .u8 0, .slice none 0 0], .int .i64 0, .int .i64 3]) (results_row3 rfl _ _ w.heap.size 72 _ _ _ _ _ rfl (setRow_heap _ _ _ _ _ _ g3) Tryz.underlying72 rfl (by kernel_rfl) rfl rfl) rfl (by rw [HF.out]; exact givesF_no (r := 3) (by decide) (below_setRow HB3.out _ _ (Nat.le_refl _)))
  · have hn : b.drop p0 = [] := List.drop_of_length_le (by omega)
    rw [hn]
    have HE := Lib.hid frOf_nil
    have hab : p0 = b.length := by omega
    go_enter Tryz.func35, Tryz.ntmps35
    go_wp2_with (refine wpList_store_row rfl 72 (.tmp 4) (.tmp 19) rfl rfl w.heap.size rfl _ rfl 72 _ g0 (by kernel_rfl) rfl (by simp [Value.oneCell']) ?_)
    exact bodyPost_ret (v := .tuple #[.agg #[.int .u8 0, .slice none 0 0], .int .i64 0, .int .i64 1]) (results_row3 rfl _ _ w.heap.size 72 _ _ _ _ _ rfl (setRow_heap _ _ _ _ _ _ g0) Tryz.underlying72 rfl (by kernel_rfl) rfl rfl) rfl (by rw [HE.out]; exact givesF_no (r := 1) (by decide) (below_setRow HB.out _ _ (Nat.le_refl _)))
end Go.Proofs.YtagnalfkmdjajaaGreatDoor
