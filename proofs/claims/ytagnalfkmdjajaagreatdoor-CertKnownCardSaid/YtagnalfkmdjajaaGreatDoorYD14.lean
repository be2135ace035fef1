/- Walks. -/
import Derived.Test.YtagnalfkmdjajaaGreatDoorY31
import Derived.Test.YtagnalfkmdjajaaGreatDoorYD10
set_option maxHeartbeats 20000000
set_option maxRecDepth 100000
namespace Go.Proofs.YtagnalfkmdjajaaGreatDoor
open Go.RowKit Go
set_option linter.unusedVariables false
set_option linter.unusedSimpArgs false
theorem uO (c : UInt8) : ∀ l : List UInt8, Bt (cuts c l) = l.length + 1
 | [] => rfl
 | b :: l => by
  have ih := uO c l
  by_cases hb : b = c
  ·subst hb; rw [ig, iA, ih]; simp; omega
  ·cases h : cuts c l with
   | nil => exact absurd h (gQ _ _)
   | cons x r =>
    rw [h, iA] at ih
    rw [dI hb h, iA]
    simp; omega
theorem gV.tail {w : World} {S : Nat → Prop} {h : List UInt8} {t : List (List UInt8)} {bl off sc : Nat} (hr : gV w S (h :: t) (.slice (some ⟨bl, off, none⟩) (h :: t).length sc)) : gV w S t (.slice (some ⟨bl, off + 1, none⟩) t.length (sc - 1)) := by
 obtain ⟨h1, h2, ad, cap, h3, h4, h5⟩ := hr
 injection h3 with e1 e2 e3
 subst e1 e3
 simp only [List.length_cons] at h2 h4 h5
 refine ⟨by simp [strs], by omega, _, _, rfl, by omega, fun hn => ?_⟩
 obtain ⟨bl', off', e, hS, hc⟩ := h5 (by omega)
 injection e with e
 injection e with e1 e2
 subst e1 e2
 refine ⟨_, _, rfl, hS, fun j hj => ?_⟩
 have := hc (j + 1) (by simp [strs] at hj ⊢; omega)
 rw [show off + 1 + j = off + (j + 1) from by omega]
 simpa [strs] using this
def xS (k : Int) : List (List UInt8) → Crt
 | [a, b] => ⟨k, [], bI a, bI b, []⟩
 | _ => ⟨k, [], 0, 0, []⟩
theorem xU {k : Int} {t : List (List UInt8)} (h : t.length ≠ 2) : xS k t = ⟨k, [], 0, 0, []⟩ := by
 match t, h with
 | [], _ => rfl
 | [_], _ => rfl
 | [_, _], h => exact absurd rfl h
 | _ :: _ :: _ :: _, _ => rfl
section
variable {s h : List UInt8} {t : List (List UInt8)} (e : cuts 32 s = h :: t)
include e
theorem vM (hh : h = kW) : candR s = ⟨1, t.map bI, 0, 0, []⟩ := by unfold candR; rw [e]; simp only [hh, if_true]
theorem xV (hh : h = nL) : candR s = xS 2 t := by
 unfold candR
 rw [e]
 subst hh
 simp only
 rw [if_neg (by decide), if_pos (by decide), if_neg (by decide)]
 rfl
theorem tF (hh : h = fP) : candR s = xS 3 t := by
 unfold candR
 rw [e]
 subst hh
 simp only
 rw [if_neg (by decide), if_pos (by decide), if_pos (by decide)]
 rfl
theorem xW (hh : h = nM) : candR s = ⟨4, [], 0, 0, if t = [] then [] else (grp t []).map edGet⟩ := by
 unfold candR
 rw [e]
 subst hh
 simp only
 rw [if_neg (by decide), if_neg (by decide), if_pos (by decide)]
theorem xX (h1 : ¬ h = kW) (h2 : ¬ h = nL) (h3 : ¬ h = fP) (h4 : ¬ h = nM) : candR s = ⟨0, [], 0, 0, []⟩ := by
 unfold candR
 rw [e]
 simp only
 rw [if_neg h1, if_neg (fun e => e.elim h2 h3), if_neg h4]
end
theorem vN (s : ByteArray) (hs : s.size ≤ 400) (w : World) (hL : Lq w.heap.size w) :
  Calls Tryz.prog 57 #[.string s] w (fQ w (crtRead s.data.toList)) := by
 obtain ⟨i0, hi0, hz0, hz1, hz2⟩ := info_parts kP
 have g0 := heap_alloc_new w (.cells #[.int .i64 0, .slice none 0 0, .int .i64 0, .int .i64 0, .slice none 0 0] 46)
 have hb0 : Below w.heap.size w (w.alloc (.cells #[.int .i64 0, .slice none 0 0, .int .i64 0, .int .i64 0, .slice none 0 0] 46)) := br.alloc nl _
 have hs0 : (w.alloc (.cells #[.int .i64 0, .slice none 0 0, .int .i64 0, .int .i64 0, .slice none 0 0] 46)).heap.size = w.heap.size + 1 := World.size_alloc _ _
 have HCU := hid (jZ 32 s (w.alloc (.cells #[.int .i64 0, .slice none 0 0, .int .i64 0, .int .i64 0, .slice none 0 0] 46)) (by omega))
 have HL := hid (hL.below hb0)
 have HB := hid hb0
 obtain ⟨h, t, hht⟩ : ∃ h t, cuts 32 s.data.toList = h :: t := by
  cases e : cuts 32 s.data.toList with
  | nil => exact absurd e (gQ _ _)
  | cons h t => exact ⟨h, t, rfl⟩
 rw [hht] at HCU
 have hwz := uO 32 s.data.toList
 rw [hht, iA, ay] at hwz
 have htl : t.length ≤ 400 := by have := iI 32 s.data.toList; rw [hht, ay] at this; simp at this; omega
 clear hb0 hL
 go_enter Tryz.func57, Tryz.ntmps57
 go_wp2_with fail
 refine HCU.out.mono ?_
 rintro e w1 ⟨v1, rfl, hown1, hb1⟩
 obtain ⟨sa, sc, rfl⟩ := ag hown1
 have hs1 := hb1.size
 have g1 : w1.heap[w.heap.size]? = some (.cells #[.int .i64 0, .slice none 0 0, .int .i64 0, .int .i64 0, .slice none 0 0] 46 (0, 0)) := (hb1.block _ (by omega)).trans g0
 have HX : Hid (CB 46 w1.heap.size (w1.heap.size + 1) #[.int .i64 0, .slice none 0 0, .int .i64 0, .int .i64 0, .slice none 0 0] 3 1 (.slice none 0 0) 0 [] (w1.alloc (.cells #[.int .i64 0, .slice none 0 0, .int .i64 0, .int .i64 0, .slice none 0 0] 46)) (w1.alloc (.cells #[.int .i64 0, .slice none 0 0, .int .i64 0, .int .i64 0, .slice none 0 0] 46)) ∧ gV (w1.alloc (.cells #[.int .i64 0, .slice none 0 0, .int .i64 0, .int .i64 0, .slice none 0 0] 46)) (fun b => b < w1.heap.size) (h :: t) (.slice sa (h :: t).length sc) ∧
   (w1.alloc (.cells #[.int .i64 0, .slice none 0 0, .int .i64 0, .int .i64 0, .slice none 0 0] 46)).heap[w.heap.size]? = some (.cells #[.int .i64 0, .slice none 0 0, .int .i64 0, .int .i64 0, .slice none 0 0] 46 (0, 0)) ∧ Below w.heap.size w (w1.alloc (.cells #[.int .i64 0, .slice none 0 0, .int .i64 0, .int .i64 0, .slice none 0 0] 46)) ∧ Lq w.heap.size (w1.alloc (.cells #[.int .i64 0, .slice none 0 0, .int .i64 0, .int .i64 0, .slice none 0 0] 46))) := hid (by
  have hb2 : Below w1.heap.size w1 (w1.alloc (.cells #[.int .i64 0, .slice none 0 0, .int .i64 0, .int .i64 0, .slice none 0 0] 46)) := br.alloc nl _
  have hz2 : (w1.alloc (.cells #[.int .i64 0, .slice none 0 0, .int .i64 0, .int .i64 0, .slice none 0 0] 46)).heap.size = w1.heap.size + 1 := World.size_alloc _ _
  refine ⟨⟨br, by omega, by omega, heap_alloc_new _ _, World.ownsRow_nil _ _ _ _⟩, Sl.keep (Sl.of_owns hown1 (by omega)) (by omega) (Below.keeps hb2 nl _) (fun b hbl _ => hbl), (hb2.block _ (by omega)).trans g1, (HB.out.trans (hb1.mono (by omega))).trans (hb2.mono (by omega)), HL.out.below ((hb1.mono (by omega)).trans (hb2.mono (by omega)))⟩)
 have hlt : w.heap.size < w1.heap.size := by omega
 clear hown1 hb1 g0 g1 HCU HL HB
 go_upto_region 3 with fail
 generalize w1.alloc (.cells #[.int .i64 0, .slice none 0 0, .int .i64 0, .int .i64 0, .slice none 0 0] 46) = W at HX ⊢
 obtain ⟨N, hNt⟩ : ∃ N, N = t.length + 1 := ⟨_, rfl⟩
 have hrs := HX.out.2.1
 obtain ⟨bl, off, rfl, hbl, hcell⟩ := gV.at hrs (by simp)
 have HCELL := hid hcell
 have HRS := hid hrs
 rw [← hNt] at ⊢
 have hN : N = (h :: t).length := hNt
 obtain ⟨HS, hHS⟩ : ∃ HS : ByteArray, HS = ⟨h.toArray⟩ := ⟨_, rfl⟩
 have c0 : W.cell? ⟨bl, off, none⟩ = some (.string HS) := by have := hcell 0 (by simp); rw [Nat.add_zero] at this; rw [this, hHS]; rfl
 have hHd : HS.toList = h := by rw [ByteArray.toList_eq, hHS]
 have HNN := hid (And.intro hN hNt)
 have y1 : (0 : Int) < (N : Int) := by omega
 have HH := hid (And.intro hht hHd)
 have HCB := hid HX.out.1
 have HWZ := hid hwz
 have b0 := HCB.out.cells
 obtain ⟨_, _, _, _, _, bf⟩ := b0
 have HCand : Hid (candR s.data.toList = candR s.data.toList) := hid rfl
 clear hcell hrs hN hNt hHS hht hwz hHd
 by_cases h_serial : h = kW
 ·have hw0 := h_serial
  have HNE : Hid (s.data.toList ≠ []) := hid (fun e => by have h1 := HH.out.1; rw [e] at h1; have h3 : [[]] = h :: t := h1; injection h3 with h3 _; rw [← h3] at hw0; exact absurd hw0 (by decide))
  have t0 : s.toList.isEmpty = false := by
   rw [ByteArray.toList_eq]
   cases e : s.data.toList with
   | nil => exact absurd e HNE.out
   | cons _ _ => rfl
  have t_serial : (HS.toList == [115, 101, 114, 105, 97, 108]) = true := by rw [HH.out.2, h_serial]; rfl
  have t_dirty : (HS.toList == [100, 105, 114, 116, 121]) = false := by rw [HH.out.2, h_serial]; rfl
  have t_partial : (HS.toList == [112, 97, 114, 116, 105, 97, 108]) = false := by rw [HH.out.2, h_serial]; rfl
  have t_cycle : (HS.toList == [99, 121, 99, 108, 101]) = false := by rw [HH.out.2, h_serial]; rfl
  have HC : Hid (candR s.data.toList = ⟨1, t.map bI, 0, 0, []⟩) := hid (vM HH.out.1 h_serial)
  obtain ⟨k0, _, _, _, _, _⟩ := HCB.out.cells
  have bf0 := bf 0
  clear hw0 h_serial
  go_upto_region 6 with fail
  have H1 := hid (HCB.out.store 0 (.int .i64 1))
  generalize W.setCell ⟨w1.heap.size, 0, none⟩ (.int .i64 1) = wA at H1 ⊢
  clear k0 bf0 bf c0 t_serial t_dirty t_partial t_cycle
  go_wp2_with fail
  go_loopw [6] (fun iv wr => ∃ (j i : Nat) (sa : Option Addr) (sc2 : Nat), i = j + 1 ∧ j ≤ t.length ∧ iv = .int .i64 i ∧ Hid (CB 46 w1.heap.size (w1.heap.size + 1) #[.int .i64 1, .slice sa j sc2, .int .i64 0, .int .i64 0, .slice none 0 0] 3 1 (.slice sa j sc2) j (ints ((t.take j).map bI)) W wr)) (fun iv _ => N + 1 - (intOf iv).toNat)
  case atStart => exact ⟨0, 1, none, 0, rfl, by omega, rfl, H1⟩
  case round =>
   clear H1
   obtain ⟨j, i, sa, sc2, hi, hj, rfl, HQ⟩ := hrel
   by_cases hlt2 : j < t.length
   ·have hc := HCELL.out i (by simp; omega)
    have hti : (h :: t)[i]'(by simp; omega) = t[j] := by subst hi; rfl
    rw [hti] at hc
    obtain ⟨XS, hXS⟩ : ∃ XS : ByteArray, XS = ⟨t[j].toArray⟩ := ⟨_, rfl⟩
    have hXd : XS.data.toList = t[j] := by rw [hXS]
    rw [← hXS] at hc
    have gX := (HQ.out.oldCell (o := off + i) hbl).trans hc
    have hcb := World.block_lt_of_cell? wr _ gX
    obtain ⟨_, p1, _, _, _, _⟩ := HQ.out.cells
    have hc1 := HQ.out.lt
    have hXz : XS.size ≤ 1000000 := by
     have h1 := bJ 32 s.data.toList t[j] (by rw [HH.out.1]; exact List.mem_cons_of_mem _ (List.getElem_mem hlt2))
     rw [← ay, hXd]; rw [ay] at h1; omega
    have HNX := hid (fun w => iN XS w hXz)
    rw [hXd] at HNX
    have HT : Hid (ints ((t.take (j + 1)).map bI) = ints ((t.take j).map bI) ++ [.int .i64 (bI t[j])]) := hid (by
     rw [List.take_succ_eq_append_getElem hlt2, List.map_append, fF]; rfl)
    obtain ⟨nr, hnr⟩ : ∃ nr, nr = bI t[j] := ⟨_, rfl⟩
    rw [← hnr] at HNX HT
    have x1 : (0 : Int) ≤ (i : Int) := by omega
    have x2 : (i : Int) < (N : Int) := by have := HNN.out.2; omega
    have x4 : N ≤ 402 := by have := HNN.out.2; omega
    have HI : Hid (i = j + 1 ∧ j < t.length ∧ t.length ≤ 400) := hid ⟨hi, hlt2, htl⟩
    clear hc hti hXS hXd hXz hnr hi
    go_wp2_with fail
    refine ak (w0 := wr) rfl [.eq (.pointer (some ⟨w1.heap.size, 1, none⟩)), .eq (.slice sa j sc2), .eq (.slice (some ⟨bl, off, none⟩) N sc), .eq (.int .i64 (i : Nat)), .eq (.pointer (some ⟨bl, off + i, none⟩)), .eq (.string XS), .eq (.int .i64 nr), .of (dZ 1 1 #[.int .i64 nr]), .tail, .eq (.pointer (some ⟨w1.heap.size, 1, none⟩)), .tail] 8 [10] [9] (by kernel_rfl) ⟨?_, ?_, ?_, ?_, ?_, ?_, ?_, ?_, ?_, ?_, trivial⟩ ⟨?_, trivial⟩ [fun vs w' => ∃ sa2 sc3, vs 8 = .slice sa2 (j + 1) sc3 ∧ CB 46 w1.heap.size (w1.heap.size + 1) #[.int .i64 1, .slice sa j sc2, .int .i64 0, .int .i64 0, .slice none 0 0] 3 1 (.slice sa2 (j + 1) sc3) (j + 1) (ints ((t.take j).map bI) ++ [.int .i64 nr]) W w', fun vs w' => ∃ sa2 sc2, CB 46 w1.heap.size (w1.heap.size + 1) #[.int .i64 1, .slice sa2 (j + 1) sc2, .int .i64 0, .int .i64 0, .slice none 0 0] 3 1 (.slice sa2 (j + 1) sc2) (j + 1) (ints ((t.take j).map bI) ++ [.int .i64 nr]) W w'] ⟨?_, ?_, trivial⟩ (fun vs => [(21, (.pointer (some ⟨w1.heap.size, 1, none⟩))), (22, (.slice sa j sc2)), (23, (.slice (some ⟨bl, off, none⟩) N sc)), (24, (.int .i64 (i : Nat))), (25, (.pointer (some ⟨bl, off + i, none⟩))), (26, (.string XS)), (27, (.int .i64 nr)), (28, vs 7), (29, vs 8), (30, (.pointer (some ⟨w1.heap.size, 1, none⟩)))]) (fun _ => rfl) ?_
    ·refine rs fun S a wx K Q hR hK => ?_
     have t5 : a.tmps[5]? = some (.pointer (some ⟨w1.heap.size, 0, none⟩)) := hR.o 5
     go_simp
     exact hK _ _ br rfl
    ·refine rs fun S a wx K Q hR hK => ?_
     have t21 := hR.q 0
     have y0 := (hR.bel.cell (p := ⟨w1.heap.size, 1, none⟩) hc1).trans p1
     go_simp
     exact hK _ _ br rfl
    ·refine rs fun S a wx K Q hR hK => ?_
     have t4 : a.tmps[4]? = some (.slice (some ⟨bl, off, none⟩) N sc) := hR.o 4
     go_simp
     exact hK _ _ br rfl
    ·refine rs fun S a wx K Q hR hK => ?_
     have t6 : a.tmps[6]? = some (.int .i64 (i : Nat)) := hR.o 6
     go_simp
     exact hK _ _ br rfl
    ·refine rs fun S a wx K Q hR hK => ?_
     have t23 := hR.q 2
     have t24 := hR.q 3
     go_simp
     exact hK _ _ br rfl
    ·refine rs fun S a wx K Q hR hK => ?_
     have t25 := hR.q 4
     have y0 := (hR.bel.cell (p := ⟨bl, off + i, none⟩) hcb).trans gX
     go_simp
     exact hK _ _ br rfl
    ·refine rs fun S a wx K Q hR hK => ?_
     have t26 := hR.q 5
     go_simp
     go_at_call 90
     refine (HNX.out wx).mono ?_
     rintro e w' ⟨rfl, rfl⟩
     exact hK _ _ br rfl
    ·exact bS _ _ _
    ·refine rs fun S a wx K Q hR hK => ?_
     have t27 := hR.q 6
     go_simp
     exact hK _ _ (br.alloc nl _) ⟨_, _, rfl, hR.new _ nl, heap_alloc_new _ _⟩
    ·refine cK.step rfl (cK.mk rfl rfl (fun a wx K Q hR hK => ?_))
     have t5 : a.tmps[5]? = some (.pointer (some ⟨w1.heap.size, 0, none⟩)) := hR.o 5
     go_simp
     exact hK
    ·refine cK.mk rfl rfl (fun a wx K Q hR hK => ?_)
     have t5 : a.tmps[5]? = some (.pointer (some ⟨w1.heap.size, 0, none⟩)) := hR.o 5
     go_simp
     exact hK
    ·refine ts fun vs a wx K Q hR hZ hK => ?_
     have t22 := hR.d 1 22
     rw [hR.eqs 1 _ rfl] at t22
     have t28 := hR.d 7 28
     obtain ⟨hbel2, S2, hlow, hof⟩ := hZ
     obtain ⟨g0, T0, ev, hSg, hg⟩ := (show dZ 1 1 #[.int .i64 nr] S2 (vs 7) wx from hof 7 _ rfl)
     rw [ev] at t28
     have hco := HQ.out
     refine fJ wx (.tmp 22) (.tmp 28) 22 rfl (w1.heap.size + 1) 3 i0 _ 1 8 Tryz.underlying22 hi0 hz0 hz1 hz2 rfl (by omega) (.slice sa j sc2) j (ints ((t.take j).map bI)) (aI t22) (ownsRow_below hco.own hbel2 nl) _ _ 1 _ _ (aI t28) (zB hg rfl) (by simp [Value.oneCell']) (by unfold maxLen; omega) (by omega) (by have := hbel2.size; have := hco.size; omega) ?_
     intro v2 w2 hown2 hgrow hat
     obtain ⟨sa2, sc3, rfl⟩ := ag hown2
     exact hK _ _ ⟨sa2, sc3, upd_self _ _ _, hco.append hbel2 hgrow hown2⟩
    ·refine ts fun vs a wx K Q hR hZ hK => ?_
     have t30 := hR.d 9 30
     rw [hR.eqs 9 _ rfl] at t30
     have t29 := hR.d 8 29
     obtain ⟨sa2, sc3, ev, hco⟩ := hZ
     rw [ev] at t29
     obtain ⟨_, c5, _, _, _, cf⟩ := hco.cells
     have f5 := cf 1
     have HSX := hid (hco.store 1 (.slice sa2 (j + 1) sc3))
     clear hco ev cf
     go_simp
     exact hK undef _ ⟨sa2, sc3, HSX.out⟩
    intro vs wN hE hZ
    have HZ := hid hZ
    simp only [aP, List.foldl_cons, List.foldl_nil]
    clear hE hZ p1 gX
    generalize vs 7 = vt1
    generalize vs 8 = vt2
    go_simp
    obtain ⟨sa2, sc3, hco⟩ := HZ.out
    have HCO := hid hco
    clear hco HZ
    go_wp2_with fail
    go_roundw
    case rel => obtain ⟨q1, q2, q3⟩ := HI.out; exact ⟨j + 1, i + 1, sa2, sc3, by omega, by omega, by go_num, hid (by rw [HT.out]; exact HCO.out)⟩
    case measure => obtain ⟨q1, q2, q3⟩ := HI.out; have h4 := HNN.out.2; simp [intOf]; omega
   ·have x2 : ¬ (i : Int) < (N : Int) := by have := HNN.out.2; omega
    have HJ : Hid (j = t.length) := hid (by omega)
    clear hi
    have HCR := hid (bW HNE.out)
    have hcd : candR s.data.toList = ⟨1, t.map bI, 0, 0, []⟩ := HC.out
    have hnm := dM s.data.toList
    have HF : Hid (aL wr (fun b => w1.heap.size + 1 ≤ b) true (candR s.data.toList) (.agg #[.int .i64 1, .slice sa j sc2, .int .i64 0, .int .i64 0, .slice none 0 0])) := hid (by rw [hcd]; exact ⟨_, _, rfl, bn.of_owns (T := 3) (by have h1 := HQ.out.own; have h2 := HJ.out; rw [h2, List.take_length] at h1; rw [List.length_map, h2]; exact h1), aX.nil _ _ _⟩)
    obtain ⟨cd, hcdd⟩ : ∃ cd, cd = candR s.data.toList := ⟨_, rfl⟩
    rw [← hcdd] at hcd hnm HF HCR
    have ho9 : cd.o.length ≤ 1000 := by rw [hcd]; simp; omega
    have hw9 : cd.w.length ≤ 1000 := by rw [hcd]; simp
    have hsz9 := HQ.out.size
    have HTX := hid (bC _ _ cd _ wr HF.out hnm ho9 hw9 ((HX.out.2.2.2.2.below (HQ.out.old.mono (by omega))).mono (by omega)))
    obtain ⟨CT, hCT⟩ : ∃ CT : ByteArray, CT = ⟨cd.text.toArray⟩ := ⟨_, rfl⟩
    rw [← hCT] at HTX
    have hCd : (CT.toList == s.toList) = decide (cd.text = s.data.toList) := by rw [hCT, ByteArray.toList_eq, ByteArray.toList_eq, Bool.eq_iff_iff]; simp
    obtain ⟨d0, d1, d2, d3, d4, _⟩ := HQ.out.cells
    have HCdd := hid hcdd
    clear hCT hcd hnm hcdd ho9 hw9
    go_wp2_with fail
    refine HTX.out.mono ?_
    rintro e w2 ⟨rfl, hb2⟩
    have HQ2 := hid (HQ.out.below hb2)
    have HF2 := hid (HF.out.below hb2 nl)
    have g9 := (HQ2.out.old.block w.heap.size hlt).trans HX.out.2.2.1
    clear hb2 d0 d1 d2 d3 d4
    by_cases hq : cd.text = s.data.toList
    ·have t9 : (CT.toList == s.toList) = true := by rw [hCd]; simpa using hq
     have HE : Hid (crtRead s.data.toList = some cd) := hid (by rw [HCR.out, if_pos hq])
     obtain ⟨d0, d1, d2, d3, d4, _⟩ := HQ2.out.cells
     clear hq hCd
     go_wp2_with (refine wpList_store_row rfl 46 (.tmp 2) (.tmp 72) rfl rfl w.heap.size rfl _ rfl 46 _ g9 (by kernel_rfl) rfl (by simp [Value.oneCell']) ?_)
     refine bodyPost_ret (v := .tuple #[.agg #[.int .i64 1, .slice sa j sc2, .int .i64 0, .int .i64 0, .slice none 0 0], .int .i64 0]) (aa rfl _ _ w.heap.size 46 _ _ _ _ rfl (setRow_heap _ _ _ _ _ _ g9) Tryz.underlying46 rfl (by kernel_rfl) rfl) rfl ?_
     rw [HE.out]
     exact ⟨_, rfl, (HF2.out.keep (aC (g := w.heap.size) (fun h => by have h : _ ≤ w.heap.size := h; omega)) (fun b _ hb => by have hb : _ ≤ b := hb; show _ ≤ b; omega)), below_setRow (HX.out.2.2.2.1.trans (HQ2.out.old.mono (by omega))) _ _ nl⟩
    ·have t9 : (CT.toList == s.toList) = false := by rw [hCd]; simpa using hq
     have HE : Hid (crtRead s.data.toList = none) := hid (by rw [HCR.out, if_neg hq])
     clear hq hCd
     go_wp2_with (refine wpList_store_row rfl 46 (.tmp 2) (.tmp 71) rfl rfl w.heap.size rfl _ rfl 46 _ g9 (by kernel_rfl) rfl (by simp [Value.oneCell']) ?_)
     exact bodyPost_ret (v := .tuple #[.agg #[.int .i64 0, .slice none 0 0, .int .i64 0, .int .i64 0, .slice none 0 0], .int .i64 280]) (aa rfl _ _ w.heap.size 46 _ _ _ _ rfl (setRow_heap _ _ _ _ _ _ g9) Tryz.underlying46 rfl (by kernel_rfl) rfl) rfl (aA HE.out (below_setRow (HX.out.2.2.2.1.trans (HQ2.out.old.mono (by omega))) _ _ nl))
 by_cases h_dirty : h = nL
 ·have hw0 := h_dirty
  have HNE : Hid (s.data.toList ≠ []) := hid (fun e => by have h1 := HH.out.1; rw [e] at h1; have h3 : [[]] = h :: t := h1; injection h3 with h3 _; rw [← h3] at hw0; exact absurd hw0 (by decide))
  have t0 : s.toList.isEmpty = false := by
   rw [ByteArray.toList_eq]
   cases e : s.data.toList with
   | nil => exact absurd e HNE.out
   | cons _ _ => rfl
  have t_serial : (HS.toList == [115, 101, 114, 105, 97, 108]) = false := by rw [HH.out.2, h_dirty]; rfl
  have t_dirty : (HS.toList == [100, 105, 114, 116, 121]) = true := by rw [HH.out.2, h_dirty]; rfl
  have t_partial : (HS.toList == [112, 97, 114, 116, 105, 97, 108]) = false := by rw [HH.out.2, h_dirty]; rfl
  have t_cycle : (HS.toList == [99, 121, 99, 108, 101]) = false := by rw [HH.out.2, h_dirty]; rfl
  have HC0 : Hid (candR s.data.toList = xS 2 t) := hid (xV HH.out.1 h_dirty)
  obtain ⟨k0, _, _, _, _, _⟩ := HCB.out.cells
  have bf0 := bf 0
  clear hw0 h_dirty
  go_upto_region 13 with fail
  have H1 := hid (HCB.out.store 0 (.int .i64 2))
  have c1 : (W.setCell ⟨w1.heap.size, 0, none⟩ (.int .i64 2)).cell? ⟨bl, off, none⟩ = some (.string HS) := (H1.out.oldCell hbl).trans c0
  generalize W.setCell ⟨w1.heap.size, 0, none⟩ (.int .i64 2) = wA at H1 c1 ⊢
  clear k0 bf0 bf
  go_upto_region 15 with fail
  clear c1
  clear t_serial t_dirty t_partial t_cycle c0
  by_cases h3 : N = 3
  ·obtain ⟨X, Y, hXY⟩ : ∃ X Y, t = [X, Y] := by
    have h1 := HNN.out.2
    match t, h1 with
    | [], h => simp at h; omega
    | [_], h => simp at h; omega
    | [X, Y], _ => exact ⟨X, Y, rfl⟩
    | _ :: _ :: _ :: _, h => simp at h; omega
   subst hXY h3
   have hc1 := HCELL.out 1 (by simp)
   have hc2 := HCELL.out 2 (by simp)
   have hle : ∀ x ∈ [X, Y], x.length ≤ 400 := fun x hx => by
    have h1 := bJ 32 s.data.toList x (by rw [HH.out.1]; exact List.mem_cons_of_mem _ hx)
    rw [ay] at h1; omega
   obtain ⟨XS, hXS⟩ : ∃ XS : ByteArray, XS = ⟨X.toArray⟩ := ⟨_, rfl⟩
   obtain ⟨YS, hYS⟩ : ∃ YS : ByteArray, YS = ⟨Y.toArray⟩ := ⟨_, rfl⟩
   have hXd : XS.data.toList = X := by rw [hXS]
   have hYd : YS.data.toList = Y := by rw [hYS]
   have hc1 : W.cell? ⟨bl, off + 1, none⟩ = some (.string XS) := by rw [hXS]; exact hc1
   have hc2 : W.cell? ⟨bl, off + 2, none⟩ = some (.string YS) := by rw [hYS]; exact hc2
   have HNX := hid (fun w => iN XS w (by rw [← ay, hXd]; have := hle X (by simp); omega))
   have HNY := hid (fun w => iN YS w (by rw [← ay, hYd]; have := hle Y (by simp); omega))
   rw [hXd] at HNX
   rw [hYd] at HNY
   have gX := (H1.out.oldCell (o := off + 1) hbl).trans hc1
   obtain ⟨_, _, k2, _, _, kf⟩ := H1.out.cells
   have kf2 := kf 2
   clear hXS hYS hXd hYd hle hc1
   go_wp2_with fail
   refine (HNX.out wA).mono ?_
   rintro e w3 ⟨rfl, rfl⟩
   go_upto_region 17 with fail
   have H3 := hid (H1.out.store 2 (.int .i64 (bI X)))
   generalize w3.setCell ⟨w1.heap.size, 2, none⟩ (.int .i64 (bI X)) = w4 at H3 ⊢
   have gY := (H3.out.oldCell (o := off + 2) hbl).trans hc2
   obtain ⟨_, _, _, k3, _, kf⟩ := H3.out.cells
   have kf3 := kf 3
   clear k2 kf2 gX hc2
   go_wp2_with fail
   refine (HNY.out w4).mono ?_
   rintro e w5 ⟨rfl, rfl⟩
   go_upto_region 22 with fail
   have H4 := hid (H3.out.store 3 (.int .i64 (bI Y)))
   generalize w5.setCell ⟨w1.heap.size, 3, none⟩ (.int .i64 (bI Y)) = w6 at H4 ⊢
   clear k3 kf3 gY
   have H4' : Hid (CB 46 w1.heap.size (w1.heap.size + 1) #[.int .i64 2, .slice none 0 0, .int .i64 (bI X), .int .i64 (bI Y), .slice none 0 0] 3 1 (.slice none 0 0) 0 ([]) W w6) := H4
   have HC : Hid (candR s.data.toList = ⟨2, [], bI X, bI Y, []⟩) := HC0
   have HCR := hid (bW HNE.out)
   have hcd : candR s.data.toList = ⟨2, [], bI X, bI Y, []⟩ := HC.out
   have hnm := dM s.data.toList
   have HF : Hid (aL w6 (fun b => w1.heap.size + 1 ≤ b) true (candR s.data.toList) (.agg #[.int .i64 2, .slice none 0 0, .int .i64 (bI X), .int .i64 (bI Y), .slice none 0 0])) := hid (by rw [hcd]; exact ⟨_, _, rfl, bn.nil _ _ _, aX.nil _ _ _⟩)
   obtain ⟨cd, hcdd⟩ : ∃ cd, cd = candR s.data.toList := ⟨_, rfl⟩
   rw [← hcdd] at hcd hnm HF HCR
   have ho9 : cd.o.length ≤ 1000 := by rw [hcd]; simp
   have hw9 : cd.w.length ≤ 1000 := by rw [hcd]; simp
   have hsz9 := H4'.out.size
   have HTX := hid (bC _ _ cd _ w6 HF.out hnm ho9 hw9 ((HX.out.2.2.2.2.below (H4'.out.old.mono (by omega))).mono (by omega)))
   obtain ⟨CT, hCT⟩ : ∃ CT : ByteArray, CT = ⟨cd.text.toArray⟩ := ⟨_, rfl⟩
   rw [← hCT] at HTX
   have hCd : (CT.toList == s.toList) = decide (cd.text = s.data.toList) := by rw [hCT, ByteArray.toList_eq, ByteArray.toList_eq, Bool.eq_iff_iff]; simp
   obtain ⟨d0, d1, d2, d3, d4, _⟩ := H4'.out.cells
   have HCdd := hid hcdd
   clear hCT hcd hnm hcdd ho9 hw9
   go_wp2_with fail
   refine HTX.out.mono ?_
   rintro e w2 ⟨rfl, hb2⟩
   have H4'2 := hid (H4'.out.below hb2)
   have HF2 := hid (HF.out.below hb2 nl)
   have g9 := (H4'2.out.old.block w.heap.size hlt).trans HX.out.2.2.1
   clear hb2 d0 d1 d2 d3 d4
   by_cases hq : cd.text = s.data.toList
   ·have t9 : (CT.toList == s.toList) = true := by rw [hCd]; simpa using hq
    have HE : Hid (crtRead s.data.toList = some cd) := hid (by rw [HCR.out, if_pos hq])
    obtain ⟨d0, d1, d2, d3, d4, _⟩ := H4'2.out.cells
    clear hq hCd
    go_wp2_with (refine wpList_store_row rfl 46 (.tmp 2) (.tmp 72) rfl rfl w.heap.size rfl _ rfl 46 _ g9 (by kernel_rfl) rfl (by simp [Value.oneCell']) ?_)
    refine bodyPost_ret (v := .tuple #[.agg #[.int .i64 2, .slice none 0 0, .int .i64 (bI X), .int .i64 (bI Y), .slice none 0 0], .int .i64 0]) (aa rfl _ _ w.heap.size 46 _ _ _ _ rfl (setRow_heap _ _ _ _ _ _ g9) Tryz.underlying46 rfl (by kernel_rfl) rfl) rfl ?_
    rw [HE.out]
    exact ⟨_, rfl, (HF2.out.keep (aC (g := w.heap.size) (fun h => by have h : _ ≤ w.heap.size := h; omega)) (fun b _ hb => by have hb : _ ≤ b := hb; show _ ≤ b; omega)), below_setRow (HX.out.2.2.2.1.trans (H4'2.out.old.mono (by omega))) _ _ nl⟩
   ·have t9 : (CT.toList == s.toList) = false := by rw [hCd]; simpa using hq
    have HE : Hid (crtRead s.data.toList = none) := hid (by rw [HCR.out, if_neg hq])
    clear hq hCd
    go_wp2_with (refine wpList_store_row rfl 46 (.tmp 2) (.tmp 71) rfl rfl w.heap.size rfl _ rfl 46 _ g9 (by kernel_rfl) rfl (by simp [Value.oneCell']) ?_)
    exact bodyPost_ret (v := .tuple #[.agg #[.int .i64 0, .slice none 0 0, .int .i64 0, .int .i64 0, .slice none 0 0], .int .i64 280]) (aa rfl _ _ w.heap.size 46 _ _ _ _ rfl (setRow_heap _ _ _ _ _ _ g9) Tryz.underlying46 rfl (by kernel_rfl) rfl) rfl (aA HE.out (below_setRow (HX.out.2.2.2.1.trans (H4'2.out.old.mono (by omega))) _ _ nl))
  ·have t3 : ((N : Int) == 3) = false := by simpa using (by omega : ¬ (N : Int) = 3)
   have t3' : ¬ (N : Int) = 3 := by omega
   have HC : Hid (candR s.data.toList = ⟨2, [], 0, 0, []⟩) := hid (by rw [HC0.out]; exact xU (by have := HNN.out.2; omega))
   have H4' : Hid (CB 46 w1.heap.size (w1.heap.size + 1) #[.int .i64 2, .slice none 0 0, .int .i64 0, .int .i64 0, .slice none 0 0] 3 1 (.slice none 0 0) 0 ([]) W wA) := H1
   clear h3
   have HCR := hid (bW HNE.out)
   have hcd : candR s.data.toList = ⟨2, [], 0, 0, []⟩ := HC.out
   have hnm := dM s.data.toList
   have HF : Hid (aL wA (fun b => w1.heap.size + 1 ≤ b) true (candR s.data.toList) (.agg #[.int .i64 2, .slice none 0 0, .int .i64 0, .int .i64 0, .slice none 0 0])) := hid (by rw [hcd]; exact ⟨_, _, rfl, bn.nil _ _ _, aX.nil _ _ _⟩)
   obtain ⟨cd, hcdd⟩ : ∃ cd, cd = candR s.data.toList := ⟨_, rfl⟩
   rw [← hcdd] at hcd hnm HF HCR
   have ho9 : cd.o.length ≤ 1000 := by rw [hcd]; simp
   have hw9 : cd.w.length ≤ 1000 := by rw [hcd]; simp
   have hsz9 := H4'.out.size
   have HTX := hid (bC _ _ cd _ wA HF.out hnm ho9 hw9 ((HX.out.2.2.2.2.below (H4'.out.old.mono (by omega))).mono (by omega)))
   obtain ⟨CT, hCT⟩ : ∃ CT : ByteArray, CT = ⟨cd.text.toArray⟩ := ⟨_, rfl⟩
   rw [← hCT] at HTX
   have hCd : (CT.toList == s.toList) = decide (cd.text = s.data.toList) := by rw [hCT, ByteArray.toList_eq, ByteArray.toList_eq, Bool.eq_iff_iff]; simp
   obtain ⟨d0, d1, d2, d3, d4, _⟩ := H4'.out.cells
   have HCdd := hid hcdd
   clear hCT hcd hnm hcdd ho9 hw9
   go_wp2_with fail
   refine HTX.out.mono ?_
   rintro e w2 ⟨rfl, hb2⟩
   have H4'2 := hid (H4'.out.below hb2)
   have HF2 := hid (HF.out.below hb2 nl)
   have g9 := (H4'2.out.old.block w.heap.size hlt).trans HX.out.2.2.1
   clear hb2 d0 d1 d2 d3 d4
   by_cases hq : cd.text = s.data.toList
   ·have t9 : (CT.toList == s.toList) = true := by rw [hCd]; simpa using hq
    have HE : Hid (crtRead s.data.toList = some cd) := hid (by rw [HCR.out, if_pos hq])
    obtain ⟨d0, d1, d2, d3, d4, _⟩ := H4'2.out.cells
    clear hq hCd
    go_wp2_with (refine wpList_store_row rfl 46 (.tmp 2) (.tmp 72) rfl rfl w.heap.size rfl _ rfl 46 _ g9 (by kernel_rfl) rfl (by simp [Value.oneCell']) ?_)
    refine bodyPost_ret (v := .tuple #[.agg #[.int .i64 2, .slice none 0 0, .int .i64 0, .int .i64 0, .slice none 0 0], .int .i64 0]) (aa rfl _ _ w.heap.size 46 _ _ _ _ rfl (setRow_heap _ _ _ _ _ _ g9) Tryz.underlying46 rfl (by kernel_rfl) rfl) rfl ?_
    rw [HE.out]
    exact ⟨_, rfl, (HF2.out.keep (aC (g := w.heap.size) (fun h => by have h : _ ≤ w.heap.size := h; omega)) (fun b _ hb => by have hb : _ ≤ b := hb; show _ ≤ b; omega)), below_setRow (HX.out.2.2.2.1.trans (H4'2.out.old.mono (by omega))) _ _ nl⟩
   ·have t9 : (CT.toList == s.toList) = false := by rw [hCd]; simpa using hq
    have HE : Hid (crtRead s.data.toList = none) := hid (by rw [HCR.out, if_neg hq])
    clear hq hCd
    go_wp2_with (refine wpList_store_row rfl 46 (.tmp 2) (.tmp 71) rfl rfl w.heap.size rfl _ rfl 46 _ g9 (by kernel_rfl) rfl (by simp [Value.oneCell']) ?_)
    exact bodyPost_ret (v := .tuple #[.agg #[.int .i64 0, .slice none 0 0, .int .i64 0, .int .i64 0, .slice none 0 0], .int .i64 280]) (aa rfl _ _ w.heap.size 46 _ _ _ _ rfl (setRow_heap _ _ _ _ _ _ g9) Tryz.underlying46 rfl (by kernel_rfl) rfl) rfl (aA HE.out (below_setRow (HX.out.2.2.2.1.trans (H4'2.out.old.mono (by omega))) _ _ nl))
 by_cases h_partial : h = fP
 ·have hw0 := h_partial
  have HNE : Hid (s.data.toList ≠ []) := hid (fun e => by have h1 := HH.out.1; rw [e] at h1; have h3 : [[]] = h :: t := h1; injection h3 with h3 _; rw [← h3] at hw0; exact absurd hw0 (by decide))
  have t0 : s.toList.isEmpty = false := by
   rw [ByteArray.toList_eq]
   cases e : s.data.toList with
   | nil => exact absurd e HNE.out
   | cons _ _ => rfl
  have t_serial : (HS.toList == [115, 101, 114, 105, 97, 108]) = false := by rw [HH.out.2, h_partial]; rfl
  have t_dirty : (HS.toList == [100, 105, 114, 116, 121]) = false := by rw [HH.out.2, h_partial]; rfl
  have t_partial : (HS.toList == [112, 97, 114, 116, 105, 97, 108]) = true := by rw [HH.out.2, h_partial]; rfl
  have t_cycle : (HS.toList == [99, 121, 99, 108, 101]) = false := by rw [HH.out.2, h_partial]; rfl
  have HC0 : Hid (candR s.data.toList = xS 3 t) := hid (tF HH.out.1 h_partial)
  obtain ⟨k0, _, _, _, _, _⟩ := HCB.out.cells
  have bf0 := bf 0
  clear hw0 h_partial
  go_upto_region 13 with fail
  have H1 := hid (HCB.out.store 0 (.int .i64 2))
  have c1 : (W.setCell ⟨w1.heap.size, 0, none⟩ (.int .i64 2)).cell? ⟨bl, off, none⟩ = some (.string HS) := (H1.out.oldCell hbl).trans c0
  generalize W.setCell ⟨w1.heap.size, 0, none⟩ (.int .i64 2) = wA at H1 c1 ⊢
  clear k0 bf0 bf
  obtain ⟨k0, _, _, _, _, kf⟩ := H1.out.cells
  have kf0 := kf 0
  go_upto_region 15 with fail
  have H2 := hid (H1.out.store 0 (.int .i64 3))
  generalize wA.setCell ⟨w1.heap.size, 0, none⟩ (.int .i64 3) = wB at H2 ⊢
  clear k0 kf0 kf c1
  clear t_serial t_dirty t_partial t_cycle c0
  by_cases h3 : N = 3
  ·obtain ⟨X, Y, hXY⟩ : ∃ X Y, t = [X, Y] := by
    have h1 := HNN.out.2
    match t, h1 with
    | [], h => simp at h; omega
    | [_], h => simp at h; omega
    | [X, Y], _ => exact ⟨X, Y, rfl⟩
    | _ :: _ :: _ :: _, h => simp at h; omega
   subst hXY h3
   have hc1 := HCELL.out 1 (by simp)
   have hc2 := HCELL.out 2 (by simp)
   have hle : ∀ x ∈ [X, Y], x.length ≤ 400 := fun x hx => by
    have h1 := bJ 32 s.data.toList x (by rw [HH.out.1]; exact List.mem_cons_of_mem _ hx)
    rw [ay] at h1; omega
   obtain ⟨XS, hXS⟩ : ∃ XS : ByteArray, XS = ⟨X.toArray⟩ := ⟨_, rfl⟩
   obtain ⟨YS, hYS⟩ : ∃ YS : ByteArray, YS = ⟨Y.toArray⟩ := ⟨_, rfl⟩
   have hXd : XS.data.toList = X := by rw [hXS]
   have hYd : YS.data.toList = Y := by rw [hYS]
   have hc1 : W.cell? ⟨bl, off + 1, none⟩ = some (.string XS) := by rw [hXS]; exact hc1
   have hc2 : W.cell? ⟨bl, off + 2, none⟩ = some (.string YS) := by rw [hYS]; exact hc2
   have HNX := hid (fun w => iN XS w (by rw [← ay, hXd]; have := hle X (by simp); omega))
   have HNY := hid (fun w => iN YS w (by rw [← ay, hYd]; have := hle Y (by simp); omega))
   rw [hXd] at HNX
   rw [hYd] at HNY
   have gX := (H2.out.oldCell (o := off + 1) hbl).trans hc1
   obtain ⟨_, _, k2, _, _, kf⟩ := H2.out.cells
   have kf2 := kf 2
   clear hXS hYS hXd hYd hle hc1
   go_wp2_with fail
   refine (HNX.out wB).mono ?_
   rintro e w3 ⟨rfl, rfl⟩
   go_upto_region 17 with fail
   have H3 := hid (H2.out.store 2 (.int .i64 (bI X)))
   generalize w3.setCell ⟨w1.heap.size, 2, none⟩ (.int .i64 (bI X)) = w4 at H3 ⊢
   have gY := (H3.out.oldCell (o := off + 2) hbl).trans hc2
   obtain ⟨_, _, _, k3, _, kf⟩ := H3.out.cells
   have kf3 := kf 3
   clear k2 kf2 gX hc2
   go_wp2_with fail
   refine (HNY.out w4).mono ?_
   rintro e w5 ⟨rfl, rfl⟩
   go_upto_region 22 with fail
   have H4 := hid (H3.out.store 3 (.int .i64 (bI Y)))
   generalize w5.setCell ⟨w1.heap.size, 3, none⟩ (.int .i64 (bI Y)) = w6 at H4 ⊢
   clear k3 kf3 gY
   have H4' : Hid (CB 46 w1.heap.size (w1.heap.size + 1) #[.int .i64 3, .slice none 0 0, .int .i64 (bI X), .int .i64 (bI Y), .slice none 0 0] 3 1 (.slice none 0 0) 0 ([]) W w6) := H4
   have HC : Hid (candR s.data.toList = ⟨3, [], bI X, bI Y, []⟩) := HC0
   have HCR := hid (bW HNE.out)
   have hcd : candR s.data.toList = ⟨3, [], bI X, bI Y, []⟩ := HC.out
   have hnm := dM s.data.toList
   have HF : Hid (aL w6 (fun b => w1.heap.size + 1 ≤ b) true (candR s.data.toList) (.agg #[.int .i64 3, .slice none 0 0, .int .i64 (bI X), .int .i64 (bI Y), .slice none 0 0])) := hid (by rw [hcd]; exact ⟨_, _, rfl, bn.nil _ _ _, aX.nil _ _ _⟩)
   obtain ⟨cd, hcdd⟩ : ∃ cd, cd = candR s.data.toList := ⟨_, rfl⟩
   rw [← hcdd] at hcd hnm HF HCR
   have ho9 : cd.o.length ≤ 1000 := by rw [hcd]; simp
   have hw9 : cd.w.length ≤ 1000 := by rw [hcd]; simp
   have hsz9 := H4'.out.size
   have HTX := hid (bC _ _ cd _ w6 HF.out hnm ho9 hw9 ((HX.out.2.2.2.2.below (H4'.out.old.mono (by omega))).mono (by omega)))
   obtain ⟨CT, hCT⟩ : ∃ CT : ByteArray, CT = ⟨cd.text.toArray⟩ := ⟨_, rfl⟩
   rw [← hCT] at HTX
   have hCd : (CT.toList == s.toList) = decide (cd.text = s.data.toList) := by rw [hCT, ByteArray.toList_eq, ByteArray.toList_eq, Bool.eq_iff_iff]; simp
   obtain ⟨d0, d1, d2, d3, d4, _⟩ := H4'.out.cells
   have HCdd := hid hcdd
   clear hCT hcd hnm hcdd ho9 hw9
   go_wp2_with fail
   refine HTX.out.mono ?_
   rintro e w2 ⟨rfl, hb2⟩
   have H4'2 := hid (H4'.out.below hb2)
   have HF2 := hid (HF.out.below hb2 nl)
   have g9 := (H4'2.out.old.block w.heap.size hlt).trans HX.out.2.2.1
   clear hb2 d0 d1 d2 d3 d4
   by_cases hq : cd.text = s.data.toList
   ·have t9 : (CT.toList == s.toList) = true := by rw [hCd]; simpa using hq
    have HE : Hid (crtRead s.data.toList = some cd) := hid (by rw [HCR.out, if_pos hq])
    obtain ⟨d0, d1, d2, d3, d4, _⟩ := H4'2.out.cells
    clear hq hCd
    go_wp2_with (refine wpList_store_row rfl 46 (.tmp 2) (.tmp 72) rfl rfl w.heap.size rfl _ rfl 46 _ g9 (by kernel_rfl) rfl (by simp [Value.oneCell']) ?_)
    refine bodyPost_ret (v := .tuple #[.agg #[.int .i64 3, .slice none 0 0, .int .i64 (bI X), .int .i64 (bI Y), .slice none 0 0], .int .i64 0]) (aa rfl _ _ w.heap.size 46 _ _ _ _ rfl (setRow_heap _ _ _ _ _ _ g9) Tryz.underlying46 rfl (by kernel_rfl) rfl) rfl ?_
    rw [HE.out]
    exact ⟨_, rfl, (HF2.out.keep (aC (g := w.heap.size) (fun h => by have h : _ ≤ w.heap.size := h; omega)) (fun b _ hb => by have hb : _ ≤ b := hb; show _ ≤ b; omega)), below_setRow (HX.out.2.2.2.1.trans (H4'2.out.old.mono (by omega))) _ _ nl⟩
   ·have t9 : (CT.toList == s.toList) = false := by rw [hCd]; simpa using hq
    have HE : Hid (crtRead s.data.toList = none) := hid (by rw [HCR.out, if_neg hq])
    clear hq hCd
    go_wp2_with (refine wpList_store_row rfl 46 (.tmp 2) (.tmp 71) rfl rfl w.heap.size rfl _ rfl 46 _ g9 (by kernel_rfl) rfl (by simp [Value.oneCell']) ?_)
    exact bodyPost_ret (v := .tuple #[.agg #[.int .i64 0, .slice none 0 0, .int .i64 0, .int .i64 0, .slice none 0 0], .int .i64 280]) (aa rfl _ _ w.heap.size 46 _ _ _ _ rfl (setRow_heap _ _ _ _ _ _ g9) Tryz.underlying46 rfl (by kernel_rfl) rfl) rfl (aA HE.out (below_setRow (HX.out.2.2.2.1.trans (H4'2.out.old.mono (by omega))) _ _ nl))
  ·have t3 : ((N : Int) == 3) = false := by simpa using (by omega : ¬ (N : Int) = 3)
   have t3' : ¬ (N : Int) = 3 := by omega
   have HC : Hid (candR s.data.toList = ⟨3, [], 0, 0, []⟩) := hid (by rw [HC0.out]; exact xU (by have := HNN.out.2; omega))
   have H4' : Hid (CB 46 w1.heap.size (w1.heap.size + 1) #[.int .i64 3, .slice none 0 0, .int .i64 0, .int .i64 0, .slice none 0 0] 3 1 (.slice none 0 0) 0 ([]) W wB) := H2
   clear h3
   have HCR := hid (bW HNE.out)
   have hcd : candR s.data.toList = ⟨3, [], 0, 0, []⟩ := HC.out
   have hnm := dM s.data.toList
   have HF : Hid (aL wB (fun b => w1.heap.size + 1 ≤ b) true (candR s.data.toList) (.agg #[.int .i64 3, .slice none 0 0, .int .i64 0, .int .i64 0, .slice none 0 0])) := hid (by rw [hcd]; exact ⟨_, _, rfl, bn.nil _ _ _, aX.nil _ _ _⟩)
   obtain ⟨cd, hcdd⟩ : ∃ cd, cd = candR s.data.toList := ⟨_, rfl⟩
   rw [← hcdd] at hcd hnm HF HCR
   have ho9 : cd.o.length ≤ 1000 := by rw [hcd]; simp
   have hw9 : cd.w.length ≤ 1000 := by rw [hcd]; simp
   have hsz9 := H4'.out.size
   have HTX := hid (bC _ _ cd _ wB HF.out hnm ho9 hw9 ((HX.out.2.2.2.2.below (H4'.out.old.mono (by omega))).mono (by omega)))
   obtain ⟨CT, hCT⟩ : ∃ CT : ByteArray, CT = ⟨cd.text.toArray⟩ := ⟨_, rfl⟩
   rw [← hCT] at HTX
   have hCd : (CT.toList == s.toList) = decide (cd.text = s.data.toList) := by rw [hCT, ByteArray.toList_eq, ByteArray.toList_eq, Bool.eq_iff_iff]; simp
   obtain ⟨d0, d1, d2, d3, d4, _⟩ := H4'.out.cells
   have HCdd := hid hcdd
   clear hCT hcd hnm hcdd ho9 hw9
   go_wp2_with fail
   refine HTX.out.mono ?_
   rintro e w2 ⟨rfl, hb2⟩
   have H4'2 := hid (H4'.out.below hb2)
   have HF2 := hid (HF.out.below hb2 nl)
   have g9 := (H4'2.out.old.block w.heap.size hlt).trans HX.out.2.2.1
   clear hb2 d0 d1 d2 d3 d4
   by_cases hq : cd.text = s.data.toList
   ·have t9 : (CT.toList == s.toList) = true := by rw [hCd]; simpa using hq
    have HE : Hid (crtRead s.data.toList = some cd) := hid (by rw [HCR.out, if_pos hq])
    obtain ⟨d0, d1, d2, d3, d4, _⟩ := H4'2.out.cells
    clear hq hCd
    go_wp2_with (refine wpList_store_row rfl 46 (.tmp 2) (.tmp 72) rfl rfl w.heap.size rfl _ rfl 46 _ g9 (by kernel_rfl) rfl (by simp [Value.oneCell']) ?_)
    refine bodyPost_ret (v := .tuple #[.agg #[.int .i64 3, .slice none 0 0, .int .i64 0, .int .i64 0, .slice none 0 0], .int .i64 0]) (aa rfl _ _ w.heap.size 46 _ _ _ _ rfl (setRow_heap _ _ _ _ _ _ g9) Tryz.underlying46 rfl (by kernel_rfl) rfl) rfl ?_
    rw [HE.out]
    exact ⟨_, rfl, (HF2.out.keep (aC (g := w.heap.size) (fun h => by have h : _ ≤ w.heap.size := h; omega)) (fun b _ hb => by have hb : _ ≤ b := hb; show _ ≤ b; omega)), below_setRow (HX.out.2.2.2.1.trans (H4'2.out.old.mono (by omega))) _ _ nl⟩
   ·have t9 : (CT.toList == s.toList) = false := by rw [hCd]; simpa using hq
    have HE : Hid (crtRead s.data.toList = none) := hid (by rw [HCR.out, if_neg hq])
    clear hq hCd
    go_wp2_with (refine wpList_store_row rfl 46 (.tmp 2) (.tmp 71) rfl rfl w.heap.size rfl _ rfl 46 _ g9 (by kernel_rfl) rfl (by simp [Value.oneCell']) ?_)
    exact bodyPost_ret (v := .tuple #[.agg #[.int .i64 0, .slice none 0 0, .int .i64 0, .int .i64 0, .slice none 0 0], .int .i64 280]) (aa rfl _ _ w.heap.size 46 _ _ _ _ rfl (setRow_heap _ _ _ _ _ _ g9) Tryz.underlying46 rfl (by kernel_rfl) rfl) rfl (aA HE.out (below_setRow (HX.out.2.2.2.1.trans (H4'2.out.old.mono (by omega))) _ _ nl))
 by_cases h_cycle : h = nM
 ·have hw0 := h_cycle
  have HNE : Hid (s.data.toList ≠ []) := hid (fun e => by have h1 := HH.out.1; rw [e] at h1; have h3 : [[]] = h :: t := h1; injection h3 with h3 _; rw [← h3] at hw0; exact absurd hw0 (by decide))
  have t0 : s.toList.isEmpty = false := by
   rw [ByteArray.toList_eq]
   cases e : s.data.toList with
   | nil => exact absurd e HNE.out
   | cons _ _ => rfl
  have t_serial : (HS.toList == [115, 101, 114, 105, 97, 108]) = false := by rw [HH.out.2, h_cycle]; rfl
  have t_dirty : (HS.toList == [100, 105, 114, 116, 121]) = false := by rw [HH.out.2, h_cycle]; rfl
  have t_partial : (HS.toList == [112, 97, 114, 116, 105, 97, 108]) = false := by rw [HH.out.2, h_cycle]; rfl
  have t_cycle : (HS.toList == [99, 121, 99, 108, 101]) = true := by rw [HH.out.2, h_cycle]; rfl
  have HC0 : Hid (candR s.data.toList = ⟨4, [], 0, 0, if t = [] then [] else (grp t []).map edGet⟩) := hid (xW HH.out.1 h_cycle)
  have hh5 : h.length = 5 := by rw [h_cycle]; rfl
  obtain ⟨k0, _, _, _, _, _⟩ := HCB.out.cells
  have bf0 := bf 0
  clear hw0 h_cycle
  go_upto_region 20 with fail
  have H1 := hid (HCB.out.store 0 (.int .i64 4))
  generalize W.setCell ⟨w1.heap.size, 0, none⟩ (.int .i64 4) = wA at H1 ⊢
  clear k0 bf0 bf c0 t_serial t_dirty t_partial t_cycle
  by_cases h1 : t = []
  ·subst h1
   have hN1 : N = 1 := HNN.out.2
   subst hN1
   have HC : Hid (candR s.data.toList = ⟨4, [], 0, 0, []⟩) := hid (by rw [HC0.out, if_pos rfl])
   have H4' : Hid (CB 46 w1.heap.size (w1.heap.size + 1) #[.int .i64 4, .slice none 0 0, .int .i64 0, .int .i64 0, .slice none 0 0] 3 1 (.slice none 0 0) 0 ([]) W wA) := H1
   have HCR := hid (bW HNE.out)
   have hcd : candR s.data.toList = ⟨4, [], 0, 0, []⟩ := HC.out
   have hnm := dM s.data.toList
   have HF : Hid (aL wA (fun b => w1.heap.size + 1 ≤ b) true (candR s.data.toList) (.agg #[.int .i64 4, .slice none 0 0, .int .i64 0, .int .i64 0, .slice none 0 0])) := hid (by rw [hcd]; exact ⟨_, _, rfl, bn.nil _ _ _, aX.nil _ _ _⟩)
   obtain ⟨cd, hcdd⟩ : ∃ cd, cd = candR s.data.toList := ⟨_, rfl⟩
   rw [← hcdd] at hcd hnm HF HCR
   have ho9 : cd.o.length ≤ 1000 := by rw [hcd]; simp
   have hw9 : cd.w.length ≤ 1000 := by rw [hcd]; simp
   have hsz9 := H4'.out.size
   have HTX := hid (bC _ _ cd _ wA HF.out hnm ho9 hw9 ((HX.out.2.2.2.2.below (H4'.out.old.mono (by omega))).mono (by omega)))
   obtain ⟨CT, hCT⟩ : ∃ CT : ByteArray, CT = ⟨cd.text.toArray⟩ := ⟨_, rfl⟩
   rw [← hCT] at HTX
   have hCd : (CT.toList == s.toList) = decide (cd.text = s.data.toList) := by rw [hCT, ByteArray.toList_eq, ByteArray.toList_eq, Bool.eq_iff_iff]; simp
   obtain ⟨d0, d1, d2, d3, d4, _⟩ := H4'.out.cells
   have HCdd := hid hcdd
   clear hCT hcd hnm hcdd ho9 hw9
   go_wp2_with fail
   refine HTX.out.mono ?_
   rintro e w2 ⟨rfl, hb2⟩
   have H4'2 := hid (H4'.out.below hb2)
   have HF2 := hid (HF.out.below hb2 nl)
   have g9 := (H4'2.out.old.block w.heap.size hlt).trans HX.out.2.2.1
   clear hb2 d0 d1 d2 d3 d4
   by_cases hq : cd.text = s.data.toList
   ·have t9 : (CT.toList == s.toList) = true := by rw [hCd]; simpa using hq
    have HE : Hid (crtRead s.data.toList = some cd) := hid (by rw [HCR.out, if_pos hq])
    obtain ⟨d0, d1, d2, d3, d4, _⟩ := H4'2.out.cells
    clear hq hCd
    go_wp2_with (refine wpList_store_row rfl 46 (.tmp 2) (.tmp 72) rfl rfl w.heap.size rfl _ rfl 46 _ g9 (by kernel_rfl) rfl (by simp [Value.oneCell']) ?_)
    refine bodyPost_ret (v := .tuple #[.agg #[.int .i64 4, .slice none 0 0, .int .i64 0, .int .i64 0, .slice none 0 0], .int .i64 0]) (aa rfl _ _ w.heap.size 46 _ _ _ _ rfl (setRow_heap _ _ _ _ _ _ g9) Tryz.underlying46 rfl (by kernel_rfl) rfl) rfl ?_
    rw [HE.out]
    exact ⟨_, rfl, (HF2.out.keep (aC (g := w.heap.size) (fun h => by have h : _ ≤ w.heap.size := h; omega)) (fun b _ hb => by have hb : _ ≤ b := hb; show _ ≤ b; omega)), below_setRow (HX.out.2.2.2.1.trans (H4'2.out.old.mono (by omega))) _ _ nl⟩
   ·have t9 : (CT.toList == s.toList) = false := by rw [hCd]; simpa using hq
    have HE : Hid (crtRead s.data.toList = none) := hid (by rw [HCR.out, if_neg hq])
    clear hq hCd
    go_wp2_with (refine wpList_store_row rfl 46 (.tmp 2) (.tmp 71) rfl rfl w.heap.size rfl _ rfl 46 _ g9 (by kernel_rfl) rfl (by simp [Value.oneCell']) ?_)
    exact bodyPost_ret (v := .tuple #[.agg #[.int .i64 0, .slice none 0 0, .int .i64 0, .int .i64 0, .slice none 0 0], .int .i64 280]) (aa rfl _ _ w.heap.size 46 _ _ _ _ rfl (setRow_heap _ _ _ _ _ _ g9) Tryz.underlying46 rfl (by kernel_rfl) rfl) rfl (aA HE.out (below_setRow (HX.out.2.2.2.1.trans (H4'2.out.old.mono (by omega))) _ _ nl))
  ·have htp : 0 < t.length := List.length_pos_iff.2 h1
   have HC : Hid (candR s.data.toList = ⟨4, [], 0, 0, (grp t []).map edGet⟩) := hid (by rw [HC0.out, if_neg h1])
   have hrt := gV.tail (HRS.out)
   have hrA : gV wA (fun b => b < w1.heap.size) t (.slice (some ⟨bl, off + 1, none⟩) t.length (sc - 1)) := Sl.keep hrt (by omega) (fun b hb _ => H1.out.old.block b hb) (fun _ _ h => h)
   have hN2 := HNN.out.2
   have hcap : N ≤ sc := by
    obtain ⟨_, _, _, _, e, hc, _⟩ := HRS.out
    injection e with _ _ e
    rw [HNN.out.1]; omega
   have hsz1 := H1.out.size
   have HWK := hid (vH _ t _ wA hrA (by omega) (by have := HWZ.out; omega) ((HX.out.2.2.2.2.below (H1.out.old.mono (by omega))).mono (by omega)))
   have x1 : (1 : Int) < (N : Int) := by omega
   have x2 : (1 : Int) ≤ (N : Int) := by omega
   have x3 : (N : Int) ≤ (sc : Int) := by omega
   have x4 : N - 1 = t.length := by omega
   have HN2 := hid hN2
   clear h1 hrt hrA hN2
   go_wp2_with fail
   refine HWK.out.mono ?_
   rintro e w3 ⟨u, rfl, hown3, hlen3, hb3⟩
   obtain ⟨ua, uc, rfl⟩ := ag hown3
   have H3 := hid ((H1.out.below hb3).row' (bH hown3 hsz1))
   obtain ⟨os, hos⟩ : ∃ os, os = (grp t []).map edGet := ⟨_, rfl⟩
   rw [← hos] at H3 HC hlen3 ⊢
   obtain ⟨_, _, _, _, k4, kf⟩ := H3.out.cells
   have kf4 := kf 4
   clear hown3 hb3 hos
   go_upto_region 22 with fail
   have H4 := hid (H3.out.store 4 (.slice ua os.length uc))
   generalize w3.setCell ⟨w1.heap.size, 4, none⟩ (.slice ua os.length uc) = w6 at H4 ⊢
   clear k4 kf4
   have H4' : Hid (CB 46 w1.heap.size (w1.heap.size + 1) #[.int .i64 4, .slice none 0 0, .int .i64 0, .int .i64 0, .slice ua os.length uc] 108 9 (.slice ua os.length uc) os.length (bD os) W w6) := H4
   have HCR := hid (bW HNE.out)
   have hcd : candR s.data.toList = ⟨4, [], 0, 0, os⟩ := HC.out
   have hnm := dM s.data.toList
   have HF : Hid (aL w6 (fun b => w1.heap.size + 1 ≤ b) true (candR s.data.toList) (.agg #[.int .i64 4, .slice none 0 0, .int .i64 0, .int .i64 0, .slice ua os.length uc])) := hid (by rw [hcd]; exact ⟨_, _, rfl, bn.nil _ _ _, aX.of_owns (T := 108) H4'.out.own⟩)
   obtain ⟨cd, hcdd⟩ : ∃ cd, cd = candR s.data.toList := ⟨_, rfl⟩
   rw [← hcdd] at hcd hnm HF HCR
   have ho9 : cd.o.length ≤ 1000 := by rw [hcd]; simp
   have hw9 : cd.w.length ≤ 1000 := by rw [hcd]; exact hlen3
   have hsz9 := H4'.out.size
   have HTX := hid (bC _ _ cd _ w6 HF.out hnm ho9 hw9 ((HX.out.2.2.2.2.below (H4'.out.old.mono (by omega))).mono (by omega)))
   obtain ⟨CT, hCT⟩ : ∃ CT : ByteArray, CT = ⟨cd.text.toArray⟩ := ⟨_, rfl⟩
   rw [← hCT] at HTX
   have hCd : (CT.toList == s.toList) = decide (cd.text = s.data.toList) := by rw [hCT, ByteArray.toList_eq, ByteArray.toList_eq, Bool.eq_iff_iff]; simp
   obtain ⟨d0, d1, d2, d3, d4, _⟩ := H4'.out.cells
   have HCdd := hid hcdd
   clear hCT hcd hnm hcdd ho9 hw9
   go_wp2_with fail
   refine HTX.out.mono ?_
   rintro e w2 ⟨rfl, hb2⟩
   have H4'2 := hid (H4'.out.below hb2)
   have HF2 := hid (HF.out.below hb2 nl)
   have g9 := (H4'2.out.old.block w.heap.size hlt).trans HX.out.2.2.1
   clear hb2 d0 d1 d2 d3 d4
   by_cases hq : cd.text = s.data.toList
   ·have t9 : (CT.toList == s.toList) = true := by rw [hCd]; simpa using hq
    have HE : Hid (crtRead s.data.toList = some cd) := hid (by rw [HCR.out, if_pos hq])
    obtain ⟨d0, d1, d2, d3, d4, _⟩ := H4'2.out.cells
    clear hq hCd
    go_wp2_with (refine wpList_store_row rfl 46 (.tmp 2) (.tmp 72) rfl rfl w.heap.size rfl _ rfl 46 _ g9 (by kernel_rfl) rfl (by simp [Value.oneCell']) ?_)
    refine bodyPost_ret (v := .tuple #[.agg #[.int .i64 4, .slice none 0 0, .int .i64 0, .int .i64 0, .slice ua os.length uc], .int .i64 0]) (aa rfl _ _ w.heap.size 46 _ _ _ _ rfl (setRow_heap _ _ _ _ _ _ g9) Tryz.underlying46 rfl (by kernel_rfl) rfl) rfl ?_
    rw [HE.out]
    exact ⟨_, rfl, (HF2.out.keep (aC (g := w.heap.size) (fun h => by have h : _ ≤ w.heap.size := h; omega)) (fun b _ hb => by have hb : _ ≤ b := hb; show _ ≤ b; omega)), below_setRow (HX.out.2.2.2.1.trans (H4'2.out.old.mono (by omega))) _ _ nl⟩
   ·have t9 : (CT.toList == s.toList) = false := by rw [hCd]; simpa using hq
    have HE : Hid (crtRead s.data.toList = none) := hid (by rw [HCR.out, if_neg hq])
    clear hq hCd
    go_wp2_with (refine wpList_store_row rfl 46 (.tmp 2) (.tmp 71) rfl rfl w.heap.size rfl _ rfl 46 _ g9 (by kernel_rfl) rfl (by simp [Value.oneCell']) ?_)
    exact bodyPost_ret (v := .tuple #[.agg #[.int .i64 0, .slice none 0 0, .int .i64 0, .int .i64 0, .slice none 0 0], .int .i64 280]) (aa rfl _ _ w.heap.size 46 _ _ _ _ rfl (setRow_heap _ _ _ _ _ _ g9) Tryz.underlying46 rfl (by kernel_rfl) rfl) rfl (aA HE.out (below_setRow (HX.out.2.2.2.1.trans (H4'2.out.old.mono (by omega))) _ _ nl))
 have t_serial : (HS.toList == [115, 101, 114, 105, 97, 108]) = false := by rw [HH.out.2]; exact beq_eq_false_iff_ne.2 (fun e => h_serial e)
 have t_dirty : (HS.toList == [100, 105, 114, 116, 121]) = false := by rw [HH.out.2]; exact beq_eq_false_iff_ne.2 (fun e => h_dirty e)
 have t_partial : (HS.toList == [112, 97, 114, 116, 105, 97, 108]) = false := by rw [HH.out.2]; exact beq_eq_false_iff_ne.2 (fun e => h_partial e)
 have t_cycle : (HS.toList == [99, 121, 99, 108, 101]) = false := by rw [HH.out.2]; exact beq_eq_false_iff_ne.2 (fun e => h_cycle e)
 have HC : Hid (candR s.data.toList = ⟨0, [], 0, 0, []⟩) := hid (xX HH.out.1 h_serial h_dirty h_partial h_cycle)
 clear h_serial h_dirty h_partial h_cycle bf
 by_cases h0 : s.data.toList = []
 ·have t0 : s.toList.isEmpty = true := by rw [ByteArray.toList_eq, h0]; rfl
  have HS0 := hid h0
  clear h0
  have g9 := (HCB.out.old.block w.heap.size hlt).trans HX.out.2.2.1
  have HE : Hid (crtRead s.data.toList = none) := hid (by rw [HS0.out]; exact iW)
  go_wp2_with (refine wpList_store_row rfl 46 (.tmp 2) (.tmp 71) rfl rfl w.heap.size rfl _ rfl 46 _ g9 (by kernel_rfl) rfl (by simp [Value.oneCell']) ?_)
  exact bodyPost_ret (v := .tuple #[.agg #[.int .i64 0, .slice none 0 0, .int .i64 0, .int .i64 0, .slice none 0 0], .int .i64 280]) (aa rfl _ _ w.heap.size 46 _ _ _ _ rfl (setRow_heap _ _ _ _ _ _ g9) Tryz.underlying46 rfl (by kernel_rfl) rfl) rfl (aA HE.out (below_setRow (HX.out.2.2.2.1.trans (HCB.out.old.mono (by omega))) _ _ nl))
 ·have HNE := hid h0
  have t0 : s.toList.isEmpty = false := by
   rw [ByteArray.toList_eq]
   cases e : s.data.toList with
   | nil => exact absurd e h0
   | cons _ _ => rfl
  clear h0
  have HCR := hid (bW HNE.out)
  have hcd : candR s.data.toList = ⟨0, [], 0, 0, []⟩ := HC.out
  have hnm := dM s.data.toList
  have HF : Hid (aL W (fun b => w1.heap.size + 1 ≤ b) true (candR s.data.toList) (.agg #[.int .i64 0, .slice none 0 0, .int .i64 0, .int .i64 0, .slice none 0 0])) := hid (by rw [hcd]; exact ⟨_, _, rfl, bn.nil _ _ _, aX.nil _ _ _⟩)
  obtain ⟨cd, hcdd⟩ : ∃ cd, cd = candR s.data.toList := ⟨_, rfl⟩
  rw [← hcdd] at hcd hnm HF HCR
  have ho9 : cd.o.length ≤ 1000 := by rw [hcd]; simp
  have hw9 : cd.w.length ≤ 1000 := by rw [hcd]; simp
  have hsz9 := HCB.out.size
  have HTX := hid (bC _ _ cd _ W HF.out hnm ho9 hw9 ((HX.out.2.2.2.2.below (HCB.out.old.mono (by omega))).mono (by omega)))
  obtain ⟨CT, hCT⟩ : ∃ CT : ByteArray, CT = ⟨cd.text.toArray⟩ := ⟨_, rfl⟩
  rw [← hCT] at HTX
  have hCd : (CT.toList == s.toList) = decide (cd.text = s.data.toList) := by rw [hCT, ByteArray.toList_eq, ByteArray.toList_eq, Bool.eq_iff_iff]; simp
  obtain ⟨d0, d1, d2, d3, d4, _⟩ := HCB.out.cells
  have HCdd := hid hcdd
  clear hCT hcd hnm hcdd ho9 hw9
  go_wp2_with fail
  refine HTX.out.mono ?_
  rintro e w2 ⟨rfl, hb2⟩
  have HCB2 := hid (HCB.out.below hb2)
  have HF2 := hid (HF.out.below hb2 nl)
  have g9 := (HCB2.out.old.block w.heap.size hlt).trans HX.out.2.2.1
  clear hb2 d0 d1 d2 d3 d4
  by_cases hq : cd.text = s.data.toList
  ·have t9 : (CT.toList == s.toList) = true := by rw [hCd]; simpa using hq
   have HE : Hid (crtRead s.data.toList = some cd) := hid (by rw [HCR.out, if_pos hq])
   obtain ⟨d0, d1, d2, d3, d4, _⟩ := HCB2.out.cells
   clear hq hCd
   go_wp2_with (refine wpList_store_row rfl 46 (.tmp 2) (.tmp 72) rfl rfl w.heap.size rfl _ rfl 46 _ g9 (by kernel_rfl) rfl (by simp [Value.oneCell']) ?_)
   refine bodyPost_ret (v := .tuple #[.agg #[.int .i64 0, .slice none 0 0, .int .i64 0, .int .i64 0, .slice none 0 0], .int .i64 0]) (aa rfl _ _ w.heap.size 46 _ _ _ _ rfl (setRow_heap _ _ _ _ _ _ g9) Tryz.underlying46 rfl (by kernel_rfl) rfl) rfl ?_
   rw [HE.out]
   exact ⟨_, rfl, (HF2.out.keep (aC (g := w.heap.size) (fun h => by have h : _ ≤ w.heap.size := h; omega)) (fun b _ hb => by have hb : _ ≤ b := hb; show _ ≤ b; omega)), below_setRow (HX.out.2.2.2.1.trans (HCB2.out.old.mono (by omega))) _ _ nl⟩
  ·have t9 : (CT.toList == s.toList) = false := by rw [hCd]; simpa using hq
   have HE : Hid (crtRead s.data.toList = none) := hid (by rw [HCR.out, if_neg hq])
   clear hq hCd
   go_wp2_with (refine wpList_store_row rfl 46 (.tmp 2) (.tmp 71) rfl rfl w.heap.size rfl _ rfl 46 _ g9 (by kernel_rfl) rfl (by simp [Value.oneCell']) ?_)
   exact bodyPost_ret (v := .tuple #[.agg #[.int .i64 0, .slice none 0 0, .int .i64 0, .int .i64 0, .slice none 0 0], .int .i64 280]) (aa rfl _ _ w.heap.size 46 _ _ _ _ rfl (setRow_heap _ _ _ _ _ _ g9) Tryz.underlying46 rfl (by kernel_rfl) rfl) rfl (aA HE.out (below_setRow (HX.out.2.2.2.1.trans (HCB2.out.old.mono (by omega))) _ _ nl))
end Go.Proofs.YtagnalfkmdjajaaGreatDoor
