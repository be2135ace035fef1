/- Walks. -/
import Derived.Test.YtagnalfkmdjajaaGreatDoorY25
set_option maxHeartbeats 2000000
set_option maxRecDepth 100000
namespace Go.Proofs.YtagnalfkmdjajaaGreatDoor
open Go.RowKit Go
set_option linter.unusedVariables false
set_option linter.unusedSimpArgs false
theorem tu {P : Program} {o : Oper} {a : Act} {w : World} {K : Act → World → Prop} {Q : Exit → Act → World → Prop} (ty : TypeId) (x y : Operand) (ho : o.op = .store ty x y)
  (g : Nat) (hx : a.eval x = .pointer (some ⟨g, 0, none⟩)) (cs : Array Value) (hy : a.eval y = .agg cs) (t : TypeId) (cur : Array Value) (hg : w.heap[g]? = some (.cells cur t (0, 0)))
  (hi : (P.info? ty).map (·.size) = some cs.size) (hsz : cs.size = cur.size) (h1 : ∀ v ∈ cs.toList, v.oneCell' = true)
  (h : K (a.put o.dst undef) (w.setRow g cs)) : Oper.wp P o a w K Q := by
 unfold Oper.wp execOp
 simp only [ho, hx, hy, Instr.storeAt, Instr.sureAddr, Sem.run_bind, Sem.run_pure, Result.andThen_ok, run_storeVar_row w g t ty cur cs hg hi hsz h1]
 exact h
theorem tC {S : Nat → Prop} {w : World} {g : Nat} {cs : Array Value} (h : ¬ S g) : eu S w (w.setRow g cs) := fun b hb _ => setRow_other _ _ _ _ (fun e => h (e ▸ hb))
def ES (k : Nat) (l : List UInt8) (S : Nat → Prop) (v : Value) (w : World) : Prop := ∃ pv, v = .agg #[.int .u8 (k : Nat), pv] ∧ au w S true l pv
theorem BL (k : Nat) (l : List UInt8) : eG (ES k l) := fun S S' v w w' hk hs hS h => by
 obtain ⟨pv, h1, h2⟩ := h
 exact ⟨pv, h1, Sl.keep (w := w) h2 (by omega) hk hS⟩
def zK (w : World) (a : Nat) (f : Frm) (e : Ending) (w' : World) : Prop := ∃ pv, e = .returned (.tuple #[.agg #[.int .u8 (f.kind : Nat), pv], .int .i64 (if f.rule = 0 then ((a + f.len : Nat) : Int) else 0), .int .i64 f.rule]) ∧ au w' (fun b => w.heap.size ≤ b) true f.pay pv ∧ Below w.heap.size w w'
theorem iB {w w' : World} {a : Nat} {r : Int} (h0 : r ≠ 0) (hb : Below w.heap.size w w') : zK w a (.no r) (.returned (.tuple #[.agg #[.int .u8 0, .slice none 0 0], .int .i64 0, .int .i64 r])) w' :=
 ⟨_, by unfold Frm.no; simp only [if_neg h0]; rfl, au.none, hb⟩
theorem BM (S : Nat → Prop) (own : Bool) (b : List UInt8) (v : Value) (p0 : Nat) (w : World) (hr : au w S own b v) (ha : p0 ≤ b.length) (hb : b.length ≤ 100000) :
  Calls Tryz.prog 35 #[v, .int .i64 p0] w (zK w p0 (aO (b.drop p0))) := by
 obtain ⟨_, ad, cap, rfl, hc⟩ := hr.shape
 have g0 := heap_alloc_new w (.cells #[.int .u8 0, .slice none 0 0] 72)
 have hb0 : Below w.heap.size w (w.alloc (.cells #[.int .u8 0, .slice none 0 0] 72)) := br.alloc nl _
 have hs0 : (w.alloc (.cells #[.int .u8 0, .slice none 0 0] 72)).heap.size = w.heap.size + 1 := World.size_alloc _ _
 have HR := hid (hr.below hb0 nl)
 have HB := hid hb0
 clear hr hb0
 by_cases he : p0 < b.length
 ·obtain ⟨k, r, hkr⟩ : ∃ k r, b.drop p0 = k :: r := by
   cases h : b.drop p0 with
   | nil => have := congrArg List.length h; simp at this; omega
   | cons k r => exact ⟨k, r, rfl⟩
  have hrd : r = b.drop (p0 + 1) := by rw [← List.drop_drop, hkr]; rfl
  have hrl : r.length = b.length - (p0 + 1) := by rw [hrd]; simp
  have HG := hid (qW S own b _ (p0 + 1) _ HR.out (by omega) (by omega))
  rw [← hrd] at HG
  have HKR := hid (And.intro hkr hrd)
  rw [hkr]
  clear hkr hrd
  go_enter Tryz.func35, Tryz.ntmps35
  go_wp2_with fail
  refine HG.out.mono ?_
  rintro e w1 ⟨rfl, hb1⟩
  unfold sQ
  have g1 : w1.heap[w.heap.size]? = some (.cells #[.int .u8 0, .slice none 0 0] 72 (0, 0)) := (hb1.block _ (by omega)).trans g0
  have HB1 := hid (HB.out.trans (hb1.mono (by omega)))
  have HR1 := hid (HR.out.below hb1 nl)
  have hs1 := hb1.size
  clear hb1 g0
  by_cases h10 : dn r = 10
  ·have t1 : (dn r == 10) = true := by simp [h10]
   have HE := hid (xC (k := k) h10)
   clear h10
   go_wp2_with (refine wpList_store_row rfl 72 (.tmp 4) (.tmp 31) rfl rfl w.heap.size rfl _ rfl 72 _ g1 (by kernel_rfl) rfl (by simp [Value.oneCell']) ?_)
   exact bodyPost_ret (v := .tuple #[.agg #[.int .u8 0, .slice none 0 0], .int .i64 0, .int .i64 2]) (bz rfl _ _ w.heap.size 72 _ _ _ _ _ rfl (setRow_heap _ _ _ _ _ _ g1) Tryz.underlying72 rfl (by kernel_rfl) rfl rfl) rfl (by rw [HE.out]; exact iB (r := 2) (by decide) (below_setRow HB1.out _ _ nl))
  ·have t1 : (dn r == 10) = false := by simp [h10]
   cases hv : bX r with
   | none =>
    have hc0 : (dn r != 0) = true := by
     have : ¬ dn r = 0 := fun e => by have := (dA r).1 e; rw [hv] at this; cases this
     simpa using this
    have HE := hid (uB (k := k) h10 hv)
    clear h10 hv
    go_wp2_with (refine wpList_store_row rfl 72 (.tmp 4) (.tmp 52) rfl rfl w.heap.size rfl _ rfl 72 _ g1 (by kernel_rfl) rfl (by simp [Value.oneCell']) ?_)
    exact bodyPost_ret (v := .tuple #[.agg #[.int .u8 0, .slice none 0 0], .int .i64 0, .int .i64 1]) (bz rfl _ _ w.heap.size 72 _ _ _ _ _ rfl (setRow_heap _ _ _ _ _ _ g1) Tryz.underlying72 rfl (by kernel_rfl) rfl rfl) rfl (by rw [HE.out]; exact iB (r := 1) (by decide) (below_setRow HB1.out _ _ nl))
   | some x =>
    obtain ⟨n, s⟩ := x
    have hc0 : (dn r != 0) = false := by
     have : dn r = 0 := (dA r).2 (by rw [hv]; rfl)
     simp [this]
    have hsl := ko hv
    have hgn : mQ r = n := by unfold mQ; rw [hv]
    have hga : dP (p0 + 1) r = p0 + 1 + (r.length - s.length) := by unfold dP; rw [hv]
    have hn64 := mP hv
    rw [hgn, hga]
    obtain ⟨f0, hf0⟩ : ∃ f0, f0 = p0 + 1 + (r.length - s.length) := ⟨_, rfl⟩
    rw [← hf0]
    have HF0 := hid (And.intro hf0 hrl)
    obtain ⟨sl, hsl0⟩ : ∃ sl, sl = s.length := ⟨_, rfl⟩
    have hfl : f0 + sl = b.length := by omega
    have hfa : p0 + 1 ≤ f0 := by omega
    have HV := hid hv
    have HSL := hid hsl0
    clear h10 hgn hga hv hf0 hrl hsl hsl0
    by_cases h4 : sl < n + 4
    ·have HE := hid (qY (k := k) HV.out (by have := HSL.out; omega))
     by_cases h5 : sl < 4
     ·go_wp2_with (refine wpList_store_row rfl 72 (.tmp 4) (.tmp 52) rfl rfl w.heap.size rfl _ rfl 72 _ g1 (by kernel_rfl) rfl (by simp [Value.oneCell']) ?_)
      exact bodyPost_ret (v := .tuple #[.agg #[.int .u8 0, .slice none 0 0], .int .i64 0, .int .i64 1]) (bz rfl _ _ w.heap.size 72 _ _ _ _ _ rfl (setRow_heap _ _ _ _ _ _ g1) Tryz.underlying72 rfl (by kernel_rfl) rfl rfl) rfl (by rw [HE.out]; exact iB (r := 1) (by decide) (below_setRow HB1.out _ _ nl))
     ·go_wp2_with (refine wpList_store_row rfl 72 (.tmp 4) (.tmp 52) rfl rfl w.heap.size rfl _ rfl 72 _ g1 (by kernel_rfl) rfl (by simp [Value.oneCell']) ?_)
      exact bodyPost_ret (v := .tuple #[.agg #[.int .u8 0, .slice none 0 0], .int .i64 0, .int .i64 1]) (bz rfl _ _ w.heap.size 72 _ _ _ _ _ rfl (setRow_heap _ _ _ _ _ _ g1) Tryz.underlying72 rfl (by kernel_rfl) rfl rfl) rfl (by rw [HE.out]; exact iB (r := 1) (by decide) (below_setRow HB1.out _ _ nl))
    ·have h4' : n + 4 ≤ s.length := by have := HSL.out; omega
     have hn4 : n + 4 ≤ sl := by omega
     obtain ⟨E, hE0⟩ : ∃ E, E = f0 + n := ⟨_, rfl⟩
     have hE : (f0 : Int) + (n : Int) = (E : Int) := by omega
     have i1 : (0 : Int) ≤ (p0 : Int) := by omega
     have i2 : (p0 : Int) ≤ (E : Int) := by omega
     have i3 : (E : Int) ≤ (cap : Int) := by omega
     have i4 : (0 : Int) ≤ (E : Int) := by omega
     have i5 : (E : Int) ≤ (E : Int) + 4 := by omega
     have i6 : (E : Int) + 4 ≤ (cap : Int) := by omega
     have i7 : (0 : Int) ≤ (E : Int) + 4 := by omega
     have i8 : ((E : Int) + 4).toNat = E + 4 := by omega
     have i9 : IntKind.i64.wrap ((E : Int) + 4) = (E : Int) + 4 := by rw [IntKind.wrap_i64]; omega
     have n1 : p0 ≤ E := by omega
     have n2 : E ≤ cap := by omega
     have n4 : E + 4 ≤ cap := by omega
     have n5 : E + 4 - E = 4 := by omega
     have HE := hid (And.intro hE0 hn4)
     clear hE0
     go_upto_region 9 with fail
     have hcc := qZ (k := k) HV.out h4'
     obtain ⟨fh1, fh2⟩ := lY (k := k) HV.out h4'
     have hcut : 1 + (r.length - s.length) + n = E - p0 := by have := HF0.out.1; have := HE.out.1; omega
     rw [hcut] at fh1 fh2
     have hdr : (s.drop n).take 4 = (b.drop E).take 4 := by
      have e2 : s = b.drop f0 := by
       have := jk HV.out
       rw [this, HKR.out.2, List.drop_drop]
       congr 1
       rw [← HKR.out.2]; have := HF0.out.1; omega
      rw [e2, List.drop_drop, HE.out.1]
     have HH : Hid (∀ w', Below w1.heap.size w1 w' → au w' (fun k => k < w'.heap.size) false (aM k.toNat (s.take n)) (.slice (ad.map fun x => x.add p0) (E - p0) (cap - p0))) := hid (fun w' hb' => by
      have h := (au.cut HR1.out p0 (E - p0) (cap - p0) (by have := HE.out.1; omega) (by omega)).below hb' nl
      rw [HKR.out.1, fh1] at h
      exact Sl.unown (Sl.keep h (by omega) (fun _ _ _ => rfl) (fun b hb _ => hb)))
     have HS : Hid (∀ w', Below w1.heap.size w1 w' → au w' S own ((s.drop n).take 4) (.slice (ad.map fun x => x.add E) 4 (cap - E))) := hid (fun w' hb' => by
      have h := (au.cut HR1.out E 4 (cap - E) (by have := HE.out.2; omega) (by omega)).below hb' nl
      rw [hdr]; exact h)
     have HL := hid (show (aM k.toNat (s.take n)).length ≤ 1000000 by rw [fh2]; have := HE.out.1; omega)
     have HCC := hid hcc
     clear hcc fh1 fh2 hdr hcut h4 h4'
     have y1 : (p0 == cap) = false := by have := HE.out.1; simp; omega
     have y2 : ¬ p0 = cap := by have := HE.out.1; omega
     have y3 : ¬ cap = p0 := by have := HE.out.1; omega
     have z1 : (E == cap) = false := by have := HE.out.2; simp; omega
     have z2 : ¬ E = cap := by have := HE.out.2; omega
     have z3 : ¬ cap = E := by have := HE.out.2; omega
     obtain ⟨qd, hqd⟩ : ∃ qd, qd = decide (gL (Crc.fw (aM k.toNat (s.take n))) = (s.drop n).take 4) := ⟨_, rfl⟩
     have HQD := hid hqd
     clear hqd
     have hbW : Below w1.heap.size w1 w1 := br
     go_region_held3 (fun w' => True)
      (first
       | exact trivial
       | go_keep)
      (first
       | (go_at_call 67; go_fit (uk (aM k.toNat (s.take n)) _ _ HL.out (HH.out _ (by first | exact hbW | exact hbW.drew))); rintro e w2 ⟨cv, rfl, hown2, hbx⟩; have HCV := hid (au.of_owns hown2); obtain ⟨sa2, sc2, rfl⟩ := ag hown2; replace hbW := (by first | exact hbW.trans (hbx.mono hbW.size) | exact hbW.drew.trans (hbx.mono hbW.size)); clear hbx)
       | (go_at_call 74; go_fit (rf _ _ _ _ (gL (Crc.fw (aM k.toNat (s.take n)))) ((s.drop n).take 4) _ _ _ (by first | exact HCV.out | exact au.of_owns hown2) (HS.out _ (by first | exact hbW | exact hbW.drew))); rintro e w3 ⟨rfl, rfl⟩; rw [← HQD.out])
       | fail)
     have hsz3 := hbW.size
     have g3 := (hbW.block _ (by omega)).trans g1
     have HB3 := hid (HB1.out.trans (hbW.mono (by omega)))
     have HR3 := hid (HR1.out.below hbW nl)
     cases qd with
     | true =>
      have hq := of_decide_eq_true HQD.out.symm
      have HF : Hid (aO (k :: r) = ⟨0, k.toNat, s.take n, E + 4 - p0⟩) := hid (by rw [HCC.out, if_pos hq]; have := HF0.out.1; have := HE.out.1; congr 1; omega)
      obtain ⟨bl, off, rfl, _, q0⟩ := au.at8 HR3.out he
      have hk8 : at8 b p0 = k.toNat := by
       have := gM b p0 he
       rw [this]
       have h2 : (b.drop p0)[0]? = some k := by rw [HKR.out.1]; rfl
       rw [List.getElem?_drop, Nat.add_zero, List.getElem?_eq_getElem he] at h2
       injection h2 with h2
       rw [h2]
      rw [hk8] at q0
      have hbl := World.block_lt_of_cell? _ ⟨bl, off + p0, none⟩ q0
      have HP := hid (fun w' (hb' : Below w3.heap.size w3 w') => show au w' S own (s.take n) (.slice (some ⟨bl, off + f0, none⟩) n (cap - f0)) from by
       have h := (au.cut HR3.out f0 n (cap - f0) (by have := HE.out.1; omega) (by have := HE.out.1; omega)).below hb' nl
       have e2 : s = b.drop f0 := by
        have := jk HV.out
        rw [this, HKR.out.2, List.drop_drop]
        congr 1
        rw [← HKR.out.2]; have := HF0.out.1; omega
       rw [← e2] at h
       simp only [Option.map_some, Addr.add_lit] at h
       exact h)
      obtain ⟨pl, hpe⟩ : ∃ pl, pl = s.take n := ⟨_, rfl⟩
      have HPL := hid (And.intro hpe (show pl.length = n by rw [hpe]; have := HSL.out; simp; omega))
      rw [← hpe] at HF HP
      clear hpe
      have j1 : (0 : Int) ≤ (f0 : Int) := by omega
      have j2 : (f0 : Int) ≤ (E : Int) := by have := HE.out.1; omega
      have j3 : f0 ≤ E := by have := HE.out.1; omega
      have j4 : E - f0 = n := by have := HE.out.1; omega
      have j5 : (f0 == cap) = false := by have := HE.out.1; simp; omega
      have j6 : ¬ f0 = cap := by have := HE.out.1; omega
      have j7 : ¬ cap = f0 := by have := HE.out.1; omega
      have j8 : (p0 : Int) < (b.length : Int) := by omega
      have hbV : Below w3.heap.size w3 w3 := br
      clear hq hbW g1 HH HS
      go_upto_region 11 with fail
      refine ak (w0 := w3) rfl [.eq (.slice (some ⟨bl, off, none⟩) b.length cap), .eq (.int .i64 (p0 : Nat)), .eq (.pointer (some ⟨bl, off + p0, none⟩)), .eq (.int .u8 (k.toNat : Nat)), .eq (.slice (some ⟨bl, off, none⟩) b.length cap), .eq (.int .i64 (f0 : Nat)), .eq (.int .i64 (E : Nat)), .eq (.slice (some ⟨bl, off + f0, none⟩) n (cap - f0)), .of (jw pl), .of (ES k.toNat pl), .eq (.int .i64 (E : Nat)), .eq (.int .i64 ((E : Int) + 4)), .tail, .eq (.int .i64 ((E : Int) + 4)), .eq ((Value.int IntKind.i64 0))] 12 [] [10, 11, 13, 14] (by kernel_rfl) ⟨?_, ?_, ?_, ?_, ?_, ?_, ?_, ?_, ?_, ?_, ?_, ?_, ?_, ?_, ?_, ?_, trivial⟩ ⟨?_, ?_, ?_, ?_, trivial⟩ [fun vs w' => ∃ wx pv, vs 9 = .agg #[.int .u8 (k.toNat : Nat), pv] ∧ Below w3.heap.size w3 wx ∧ au wx (fun b => w3.heap.size ≤ b) true pl pv ∧ w' = wx.setRow w.heap.size #[.int .u8 (k.toNat : Nat), pv]] ⟨?_, trivial⟩ (fun vs => [(70, (.slice (some ⟨bl, off, none⟩) b.length cap)), (71, (.int .i64 (p0 : Nat))), (72, (.pointer (some ⟨bl, off + p0, none⟩))), (73, (.int .u8 (k.toNat : Nat))), (74, (.slice (some ⟨bl, off, none⟩) b.length cap)), (75, (.int .i64 (f0 : Nat))), (76, (.int .i64 (E : Nat))), (77, (.slice (some ⟨bl, off + f0, none⟩) n (cap - f0))), (78, vs 8), (79, vs 9), (80, (.int .i64 (E : Nat))), (81, (.int .i64 ((E : Int) + 4))), (5, (.int .i64 ((E : Int) + 4))), (6, ((Value.int IntKind.i64 0)))]) (fun _ => rfl) ?_
      ·refine rs fun S a wx K Q hR hK => ?_
       have t0 : a.tmps[0]? = some (.slice (some ⟨bl, off, none⟩) b.length cap) := hR.o 0
       go_simp
       exact hK _ _ br rfl
      ·refine rs fun S a wx K Q hR hK => ?_
       have t1 : a.tmps[1]? = some (.int .i64 (p0 : Nat)) := hR.o 1
       go_simp
       exact hK _ _ br rfl
      ·refine rs fun S a wx K Q hR hK => ?_
       have t70 := hR.q 0
       have t71 := hR.q 1
       go_simp
       exact hK _ _ br rfl
      ·refine rs fun S a wx K Q hR hK => ?_
       have t72 := hR.q 2
       have y0 := (hR.bel.cell (p := ⟨bl, off + p0, none⟩) hbl).trans q0
       go_simp
       exact hK _ _ br rfl
      ·refine rs fun S a wx K Q hR hK => ?_
       have t0 : a.tmps[0]? = some (.slice (some ⟨bl, off, none⟩) b.length cap) := hR.o 0
       go_simp
       exact hK _ _ br rfl
      ·refine rs fun S a wx K Q hR hK => ?_
       have t8 : a.tmps[8]? = some (.int .i64 (f0 : Nat)) := hR.o 8
       go_simp
       exact hK _ _ br rfl
      ·refine rs fun S a wx K Q hR hK => ?_
       have t10 : a.tmps[10]? = some (.int .i64 (E : Nat)) := hR.o 10
       go_simp
       exact hK _ _ br rfl
      ·refine rs fun S a wx K Q hR hK => ?_
       have t74 := hR.q 4
       have t75 := hR.q 5
       have t76 := hR.q 6
       go_simp
       exact hK _ _ br rfl
      ·exact dE _
      ·refine rs fun S a wx K Q hR hK => ?_
       have t77 := hR.q 7
       go_simp
       go_at_call 68
       go_fit (iH _ _ pl _ _ (HP.out _ hR.bel) (by have := HPL.out.2; omega))
       rintro e w' ⟨pv, rfl, hown4, hbx⟩
       exact hK _ _ hbx (Sl.keep (au.of_owns hown4) (by omega) (fun _ _ _ => rfl) (fun b _ hb => hR.new b hb.2))
      ·exact BL _ _
      ·refine rs fun S a wx K Q hR hK => ?_
       have t73 := hR.q 3
       obtain ⟨u78, t78, f78⟩ := hR.f 8
       obtain ⟨_, a78, c78, rfl, _⟩ := au.shape (show au wx S true pl u78 from f78)
       go_simp
       exact hK _ _ br ⟨_, rfl, f78⟩
      ·refine cK.step rfl (cK.mk rfl rfl (fun a wx K Q hR hK => ?_))
       have t10 : a.tmps[10]? = some (.int .i64 (E : Nat)) := hR.o 10
       go_simp
       exact hK
      ·refine cK.step rfl (cK.mk rfl rfl (fun a wx K Q hR hK => ?_))
       have t80 := hR.eq 10 _ 80 (by kernel_rfl) rfl rfl
       go_simp
       exact hK
      ·refine cK.step rfl (cK.mk rfl rfl (fun a wx K Q hR hK => ?_))
       have t81 := hR.eq 11 _ 81 (by kernel_rfl) rfl rfl
       go_simp
       exact hK
      ·refine cK.step rfl (cK.mk rfl rfl (fun a wx K Q hR hK => ?_))
       go_simp
       exact hK
      ·refine cK.mk rfl rfl (fun a wx K Q hR hK => ?_)
       have t10 : a.tmps[10]? = some (.int .i64 (E : Nat)) := hR.o 10
       go_simp
       exact hK
      ·refine cK.mk rfl rfl (fun a wx K Q hR hK => ?_)
       have t80 := hR.eq 10 _ 80 (by kernel_rfl) rfl rfl
       go_simp
       exact hK
      ·refine cK.mk rfl rfl (fun a wx K Q hR hK => ?_)
       have t81 := hR.eq 11 _ 81 (by kernel_rfl) rfl rfl
       go_simp
       exact hK
      ·refine cK.mk rfl rfl (fun a wx K Q hR hK => ?_)
       go_simp
       exact hK
      ·refine ts fun vs a wx K Q hR hZ hK => ?_
       have t4 : a.tmps[4]? = some (.pointer (some ⟨w.heap.size, 0, none⟩)) := hR.o 4
       have t79 := hR.d 9 79
       obtain ⟨hbel2, S2, hlow, hof⟩ := hZ
       obtain ⟨pv, ev, hpv⟩ : ES k.toNat pl S2 (vs 9) wx := hof 9 _ rfl
       rw [ev] at t79
       have hg : wx.heap[w.heap.size]? = some (.cells #[.int .u8 0, .slice none 0 0] 72 (0, 0)) := (hbel2.block _ (by omega)).trans g3
       obtain ⟨_, qd, qc, rfl, _⟩ := au.shape hpv
       refine tu 72 (.tmp 4) (.tmp 79) rfl w.heap.size (aI t4) #[.int .u8 (k.toNat : Nat), .slice qd pl.length qc] (aI t79) 72 _ hg (by kernel_rfl) rfl (by simp [Value.oneCell']) ?_
       exact hK undef _ ⟨wx, _, (upd_ne _ _ (by omega)).trans ev, hbel2, Sl.keep hpv (by omega) (fun _ _ _ => rfl) (fun b _ hb => hlow b hb), rfl⟩
      intro vs wN hE hZ
      obtain ⟨wx, pv, ev, hbel2, hpv, rfl⟩ := hZ
      obtain ⟨_, qd, qc, rfl, _⟩ := au.shape hpv
      have hg : wx.heap[w.heap.size]? = some (.cells #[.int .u8 0, .slice none 0 0] 72 (0, 0)) := (hbel2.block _ (by omega)).trans g3
      have HZ : Hid (zK w p0 (aO (k :: r)) (.returned (.tuple #[.agg #[.int .u8 (k.toNat : Nat), .slice qd pl.length qc], .int .i64 ((E : Int) + 4), .int .i64 0])) (wx.setRow w.heap.size #[.int .u8 (k.toNat : Nat), .slice qd pl.length qc])) := hid (by
       rw [HF.out]
       refine ⟨_, ?_, Sl.keep hpv (by omega) (tC (fun h => by have h : w3.heap.size ≤ w.heap.size := h; omega)) (fun b _ hb => by have hb : w3.heap.size ≤ b := hb; show _ ≤ b; omega), below_setRow (HB3.out.trans (hbel2.mono (by omega))) _ _ nl⟩
       have he4 : ((p0 + (E + 4 - p0) : Nat) : Int) = (E : Int) + 4 := by omega
       simp only [if_true, he4])
      simp only [ev, aP, List.foldl_cons, List.foldl_nil]
      clear hE ev hbel2 hpv
      generalize vs 8 = v8
      go_simp
      (try (go_wp2_with fail))
      exact bodyPost_ret (v := .tuple #[.agg #[.int .u8 (k.toNat : Nat), .slice qd pl.length qc], .int .i64 ((E : Int) + 4), .int .i64 0]) (bz rfl _ _ w.heap.size 72 _ _ _ _ _ rfl (setRow_heap _ _ _ _ _ _ hg) Tryz.underlying72 rfl (by kernel_rfl) rfl rfl) rfl HZ.out
     | false =>
      have hq := of_decide_eq_false HQD.out.symm
      have HF : Hid (aO (k :: r) = .no 3) := hid (by rw [HCC.out, if_neg hq])
      clear hq hbW
      go_wp2_with (refine wpList_store_row rfl 72 (.tmp 4) (.tmp 69) rfl rfl w.heap.size rfl _ rfl 72 _ g3 (by kernel_rfl) rfl (by simp [Value.oneCell']) ?_)
      exact bodyPost_ret (v := .tuple #[.agg #[.int .u8 0, .slice none 0 0], .int .i64 0, .int .i64 3]) (bz rfl _ _ w.heap.size 72 _ _ _ _ _ rfl (setRow_heap _ _ _ _ _ _ g3) Tryz.underlying72 rfl (by kernel_rfl) rfl rfl) rfl (by rw [HF.out]; exact iB (r := 3) (by decide) (below_setRow HB3.out _ _ nl))
 ·have hn : b.drop p0 = [] := List.drop_of_length_le (by omega)
  rw [hn]
  have HE := hid xB
  have hab : p0 = b.length := by omega
  go_enter Tryz.func35, Tryz.ntmps35
  go_wp2_with (refine wpList_store_row rfl 72 (.tmp 4) (.tmp 19) rfl rfl w.heap.size rfl _ rfl 72 _ g0 (by kernel_rfl) rfl (by simp [Value.oneCell']) ?_)
  exact bodyPost_ret (v := .tuple #[.agg #[.int .u8 0, .slice none 0 0], .int .i64 0, .int .i64 1]) (bz rfl _ _ w.heap.size 72 _ _ _ _ _ rfl (setRow_heap _ _ _ _ _ _ g0) Tryz.underlying72 rfl (by kernel_rfl) rfl rfl) rfl (by rw [HE.out]; exact iB (r := 1) (by decide) (below_setRow HB.out _ _ nl))
end Go.Proofs.YtagnalfkmdjajaaGreatDoor
