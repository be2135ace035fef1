/- Walks. -/
import Derived.Test.YtlpgokcapdjgjaaGreatDoorYW24c
set_option maxHeartbeats 16000000
set_option maxRecDepth 100000
namespace Go.Proofs.YtlpgokcapdjgjaaGreatDoor
open Go.RowKit Go
set_option linter.unusedVariables false
set_option linter.unusedSimpArgs false
def Ee (o : Option Rec) : Int := if o.isSome then 0 else 50
def lC (o : Option Rec) (w : World) (e : Ending) (w' : World) : Prop := ∃ v, e = .returned (.tuple #[v, .int .i64 (Ee o)]) ∧ bL w' (fun b => w.1.size ≤ b) true (o.getD .zero) v ∧ Below w.1.size w w'
theorem pE (W : World) (S : Nat → Prop) : bL W S true .zero (.agg #[.int .i64 0, .int .u64 0, .int .u64 0, .int .u64 0, .int .u64 0, .int .u64 0, .int .i64 0, .int .u64 0, .int .u64 0, .slice none 0 0, .slice none 0 0]) := gN W S 0 0 0 0 0 0 (by omega) (by omega) (by omega) (by omega) (by omega) (by omega)
theorem jA {o : Option Rec} {w w' : World} (h : o = none) (hb : Below w.1.size w w') : lC o w (.returned (.tuple #[.agg #[.int .i64 0, .int .u64 0, .int .u64 0, .int .u64 0, .int .u64 0, .int .u64 0, .int .i64 0, .int .u64 0, .int .u64 0, .slice none 0 0, .slice none 0 0], .int .i64 50])) w' := by
 subst h; exact ⟨_, rfl, pE _ _, hb⟩
theorem uD {o : Option Rec} {w w' : World} {v : Value} (r : Rec) (h : o = some r) (hr : bL w' (fun b => w.1.size ≤ b) true r v) (hb : Below w.1.size w w') : lC o w (.returned (.tuple #[v, .int .i64 0])) w' := by
 subst h; exact ⟨_, rfl, hr, hb⟩
theorem sH (k : Nat) (h1 : 1 ≤ k) (h7 : k ≤ 7) : (aV k)[0]? = some (.string ⟨(bB k).toArray⟩) := by
 have hc : k = 1 ∨ k = 2 ∨ k = 3 ∨ k = 4 ∨ k = 5 ∨ k = 6 ∨ k = 7 := by omega
 rcases hc with rfl | rfl | rfl | rfl | rfl | rfl | rfl <;> rfl
theorem sI {k : Nat} (h1 : 1 ≤ k) (h7 : k ≤ 7) (l : List UInt8) : kindOf l = k ↔ bB k = l := by
 constructor
 ·intro h
  have h2 := (qi (w := l) (by omega)).1;rw [h] at h2; exact h2.symm
 ·intro h
  have h2 := kQ (k := k) (by omega) (by omega);rw [h] at h2; omega
def oq (l : List (List UInt8)) : Nat := match l with
 | w :: _ :: _ => kindOf w
 | _ => 0
theorem Al {s : List UInt8} (h : oq (cuts 32 s) = 0) : eT s = none := by
 unfold eT;unfold oq at h;split
 ·rename_i w a l hc
  rw [hc] at h;simp only at h;rw [if_pos h]
 ·rfl
theorem Cx (l : List UInt8) : kindOf l ≤ 7 := by
 by_cases h : kindOf l = 0
 ·omega
 ·exact (qi h).2.2
theorem Ef (l : List (List UInt8)) : oq l ≤ 7 := by
 unfold oq;split
 ·exact Cx _
 ·omega
theorem yE {l : List (List UInt8)} (h : l.length < 2) : oq l = 0 := by
 unfold oq;split
 ·rename_i a b c; simp at h; omega
 ·rfl
theorem mX.drop2 {w : World} {S : Nat → Prop} {l0 l1 : List UInt8} {tl : List (List UInt8)} {b m c c2 : Nat} {ad : Option Addr} (h : mX w S (l0 :: l1 :: tl) (.slice (some ⟨b, 0, none⟩) (m + 2) c)) (hm : m = tl.length) (had : 0 < m → ad = some ⟨b, 2, none⟩) (hc2 : m ≤ c2) : mX w S tl (.slice ad m c2) := by
 subst hm;obtain ⟨h1, h2, ad', cap', h3, h4, h5⟩ := h;obtain ⟨bl, off, ha, hS, hc⟩ := h5 (by simp);simp only [Value.slice.injEq] at h3;obtain ⟨rfl, _, rfl⟩ := h3;simp only [Option.some.injEq, Addr.mk.injEq, and_true] at ha;obtain ⟨rfl, rfl⟩ := ha;refine ⟨by rw [ic]; omega, by simp at h2; omega, ad, c2, rfl, hc2, fun hp => ⟨b, 2, had hp, hS, fun k hk => ?_⟩⟩;rw [ic] at hk;obtain ⟨g1, g2⟩ := hc (k + 2) (by rw [ic]; simp; omega);rw [show 2 + k = 0 + (k + 2) from by omega];refine ⟨by rw [g1]; simp [strs], g2⟩
theorem Eg {l : List (List UInt8)} {j : Nat} (h0 : 0 < l.length) (h1 : 1 ≤ j) (h7 : j ≤ 7) (h : bB j ≠ l[0]) : oq l ≠ j := by
 unfold oq;split
 ·intro e; exact h ((sI h1 h7 _).1 e)
 ·omega
theorem FC {s : List UInt8} {l0 l1 : List UInt8} {tl : List (List UInt8)} {j : Nat} (h1 : 1 ≤ j) (h7 : j ≤ 7) (hc : cuts 32 s = l0 :: l1 :: tl) (hw : bB j = l0) : eT s = (eZ l1).bind fun t => iC j t tl := by
 have hk := (sI h1 h7 l0).2 hw;unfold eT;rw [hc];simp only;rw [hk, if_neg (by omega)]
def pz (j t : Nat) : Array Value := #[.int .i64 (j : Nat), .int .u64 (t : Nat), .int .u64 0, .int .u64 0, .int .u64 0, .int .u64 0, .int .i64 0, .int .u64 0, .int .u64 0, .slice none 0 0, .slice none 0 0]
def GI (j fid : Nat) : Prop := ∀ (g t n cap : Nat) (l : List (List UInt8)) (ad : Option Addr) (w : World), Gv w g l (.slice ad n cap) → (n = l.length ∧ n ≤ 100000 ∧ t < 18446744073709551616) → Lq g w → w.1[g]? = some (.cells (pz j t) 73 (0, 0)) →
 Calls Tryz.prog fid #[.slice ad n cap, .pointer (some ⟨g, 0, none⟩)] w (yB g (iC j t l) w)
structure LnZ (gb j : Nat) (t1 : Option Nat) (o : Option Rec) (V : World) (st : Nat) (vs : Nat → Value) (w : World) : Prop where
 rg : Rg gb V w
 ex : ∃ cs, w.1[gb]? = some (.cells cs 73 (0, 0)) ∧ (st = 0 → cs = pz j 0) ∧ (st = 1 → ∀ t, t1 = some t → cs = pz j t) ∧ (2 ≤ st → ∀ r, o = some r → bL w (fun b => V.1.size ≤ b) true r (.agg cs))
section
variable {gb j : Nat} {t1 : Option Nat} {o : Option Rec} {V : World} {st : Nat} {vs : Nat → Value} {w : World}
theorem LnZ.zero (h : LnZ gb j t1 o V st vs w) (hs : st = 0) : w.1[gb]? = some (.cells (pz j 0) 73 (0, 0)) := by
 obtain ⟨cs, h1, h2, _⟩ := h.ex;rw [← h2 hs]; exact h1
theorem LnZ.pre (h : LnZ gb j t1 o V st vs w) (hs : st = 1) {t : Nat} (ht : t1 = some t) : w.1[gb]? = some (.cells (pz j t) 73 (0, 0)) := by
 obtain ⟨cs, h1, _, h2, _⟩ := h.ex;rw [← h2 hs t ht]; exact h1
theorem LnZ.one {e : Ending} {w' : World} {i : Nat} {u : Value} {b : Bool} {s : ByteArray} (h : LnZ gb j (eZ s.data.toList) o V 0 vs w) (hS : Gx gb 73 ((eZ s.data.toList).map fun (n : Nat) => (pz j 0).setIfInBounds 1 (.int .u64 (n : Nat))) w e w') (hb : (eZ s.data.toList).isSome = b) :
  e = .returned (.bool b) ∧ LnZ gb j (eZ s.data.toList) o V 1 (upd vs i u) w' := by
 obtain ⟨cs', h1, h2, h3, h4⟩ := hS;refine ⟨by rw [h1, Option.isSome_map, hb], ⟨h.rg.trans h3, cs', h2, (fun h => by omega), fun _ t ht => ?_, (fun h => by omega)⟩⟩;have := h4 ((pz j 0).setIfInBounds 1 (.int .u64 (t : Nat))) (by rw [ht]; rfl);rw [this]; rfl
theorem LnZ.two {e : Ending} {w' : World} {i : Nat} {u : Value} {b : Bool} (h : LnZ gb j t1 o V 1 vs w) (hS : yB gb o w e w') (hb : o.isSome = b) : e = .returned (.bool b) ∧ LnZ gb j t1 o V 2 (upd vs i u) w' := by
 obtain ⟨cs', h1, h2, h3, h4⟩ := hS;refine ⟨by rw [h1, hb], ⟨h.rg.trans h3, cs', h2, (fun h => by omega), (fun h => by omega), fun _ r hr => ?_⟩⟩;have hz := h.rg.size;exact (h4 r hr).wider (fun b _ hb => by omega)
theorem LnZ.rep {l : List (List UInt8)} {v : Value} (h : LnZ gb j t1 o V st vs w) (hG : Gv V gb l v) : Gv w gb l v := ⟨Sl.keep hG.rep (by omega) (fun b hb hl => h.rg.keep b hl hb) (fun _ _ h => h), hG.len⟩
end
theorem yF (s : ByteArray) (hRK : ∀ j : Nat, 1 ≤ j → j ≤ 7 → (cuts 32 s.data.toList)[0]? = some (bB j) → ∃ fid, (aV j)[5]? = some (.func (.func fid) #[] #[]) ∧ Enters fid ∧ GI j fid) (w : World) (hs : s.size ≤ 50000) (hL : Lq w.1.size w) : Calls Tryz.prog 32 #[.string s] w (lC (eT s.data.toList) w) := by
 have HRK := hid hRK;clear hRK;have hbz : Below w.1.size w (w.alloc (.cells #[.int .i64 0, .int .u64 0, .int .u64 0, .int .u64 0, .int .u64 0, .int .u64 0, .int .i64 0, .int .u64 0, .int .u64 0, .slice none 0 0, .slice none 0 0] 73)) := br.alloc nl _;have HS := hid (Cn 32 s (w.alloc (.cells #[.int .i64 0, .int .u64 0, .int .u64 0, .int .u64 0, .int .u64 0, .int .u64 0, .int .i64 0, .int .u64 0, .int .u64 0, .slice none 0 0, .slice none 0 0] 73)) (by omega) ((hL.below hbz).mono hbz.size));obtain ⟨L, hLL⟩ : ∃ L, L = cuts 32 s.data.toList := ⟨_, rfl⟩;have hne := nP 32 s.data.toList;have hLen := sG 32 s.data.toList;have hMem := qE 32 s.data.toList;rw [← hLL] at HS hne hLen hMem;rw [dS] at hLen;have hR1 := mX.alloc (w.alloc (.cells #[.int .i64 0, .int .u64 0, .int .u64 0, .int .u64 0, .int .u64 0, .int .u64 0, .int .i64 0, .int .u64 0, .int .u64 0, .slice none 0 0, .slice none 0 0] 73)) L 9 (by omega);have hb1 : Below w.1.size w ((w.alloc (.cells #[.int .i64 0, .int .u64 0, .int .u64 0, .int .u64 0, .int .u64 0, .int .u64 0, .int .i64 0, .int .u64 0, .int .u64 0, .slice none 0 0, .slice none 0 0] 73)).alloc (.cells (strs L).toArray 9)) := hbz.alloc (by simp) _;have hh1 : ((w.alloc (.cells #[.int .i64 0, .int .u64 0, .int .u64 0, .int .u64 0, .int .u64 0, .int .u64 0, .int .i64 0, .int .u64 0, .int .u64 0, .slice none 0 0, .slice none 0 0] 73)).alloc (.cells (strs L).toArray 9)).1[w.1.size]? = some (.cells #[.int .i64 0, .int .u64 0, .int .u64 0, .int .u64 0, .int .u64 0, .int .u64 0, .int .i64 0, .int .u64 0, .int .u64 0, .slice none 0 0, .slice none 0 0] 73 (0, 0)) := heap_alloc2_old _ _ _;have hz1 : ((w.alloc (.cells #[.int .i64 0, .int .u64 0, .int .u64 0, .int .u64 0, .int .u64 0, .int .u64 0, .int .i64 0, .int .u64 0, .int .u64 0, .slice none 0 0, .slice none 0 0] 73)).alloc (.cells (strs L).toArray 9)).1.size = w.1.size + 2 := by simp
 have hL1 : 0 < L.length := List.length_pos_iff.2 hne;have HL := hid hL;have HLL := hid (au hLL hMem);have H1 := hid (au hR1 (au hb1 hh1));clear hbz hLL hne hMem hR1 hb1 hh1 hL
 go_enter Tryz.func32, Tryz.ntmps32
 go_wp2_with fail;refine HS.out.mono ?_;rintro e w1 ⟨rfl, rfl⟩;rw [aD];have H1 : Hid (mX ((w.alloc (.cells #[.int .i64 0, .int .u64 0, .int .u64 0, .int .u64 0, .int .u64 0, .int .u64 0, .int .i64 0, .int .u64 0, .int .u64 0, .slice none 0 0, .slice none 0 0] 73)).alloc (.cells (strs L).toArray 9)) (fun b => b = w.1.size + 1) L (.slice (some ⟨w.1.size + 1, 0, none⟩) L.length L.length) ∧ Below w.1.size w ((w.alloc (.cells #[.int .i64 0, .int .u64 0, .int .u64 0, .int .u64 0, .int .u64 0, .int .u64 0, .int .i64 0, .int .u64 0, .int .u64 0, .slice none 0 0, .slice none 0 0] 73)).alloc (.cells (strs L).toArray 9)) ∧ ((w.alloc (.cells #[.int .i64 0, .int .u64 0, .int .u64 0, .int .u64 0, .int .u64 0, .int .u64 0, .int .i64 0, .int .u64 0, .int .u64 0, .slice none 0 0, .slice none 0 0] 73)).alloc (.cells (strs L).toArray 9)).1[w.1.size]? = some (.cells #[.int .i64 0, .int .u64 0, .int .u64 0, .int .u64 0, .int .u64 0, .int .u64 0, .int .i64 0, .int .u64 0, .int .u64 0, .slice none 0 0, .slice none 0 0] 73 (0, 0))) := hid (by have := H1.out; simpa using this);obtain ⟨W1, hW1⟩ : ∃ W1, W1 = ((w.alloc (.cells #[.int .i64 0, .int .u64 0, .int .u64 0, .int .u64 0, .int .u64 0, .int .u64 0, .int .i64 0, .int .u64 0, .int .u64 0, .slice none 0 0, .slice none 0 0] 73)).alloc (.cells (strs L).toArray 9)) := ⟨_, rfl⟩;rw [← hW1] at H1 hz1 ⊢;clear hW1;go_wp2_with fail;refine (jW _).mono ?_;rintro e w2 ⟨rfl, hb2⟩;have hKI : ∀ j : Nat, j ≤ 7 → ∀ W, (Instr.index 151 ig (.int .i64 j)).run Tryz.prog W = .ok (.agg (aV j)) W := fun j hj W => rJ j hj W
 obtain ⟨T, hT⟩ : ∃ T, T = ig := ⟨_, rfl⟩;rw [← hT] at hKI ⊢;have HKI := hid hKI;have hz2 : w.1.size + 2 ≤ w2.1.size := by have := hb2.size; omega
 have hR2 : mX w2 (fun b => b = w.1.size + 1) L (.slice (some ⟨w.1.size + 1, 0, none⟩) L.length L.length) := Sl.below H1.out.1 (by omega) hb2 nl;have H2 := hid (au hR2 (au (H1.out.2.1.trans (hb2.mono (by omega))) ((hb2.block _ (by omega)).trans H1.out.2.2)));clear hT hKI hb2 hR2 H1;have hst := Ef L;obtain ⟨stp, hstp⟩ : ∃ stp, stp = oq L := ⟨_, rfl⟩;rw [← hstp] at hst;have HST := hid hstp;clear hstp;go_wp2_with fail
 go_loopw [11] (fun i wr => ∃ j : Nat, i = .int .i64 j ∧ j ≤ 8 ∧ (stp = 0 ∨ j ≤ stp) ∧ Below w2.1.size w2 wr) (fun i _ => 8 - (intOf i).toNat)
 case atStart => exact ⟨0, rfl, by omega, by omega, br⟩
 case round =>
  obtain ⟨j, rfl, hj8, hjs, hbr⟩ := hrel;have hzr := hbr.size;by_cases hj : j < 8
  ·have hi := HKI.out j (by omega)
   have hbA : Below wr.1.size wr ((wr.alloc (.cells #[.string ⟨#[]⟩, .nilFunc, .nilFunc, .nilFunc, .nilFunc, .nilFunc] 150)).setRow wr.1.size (aV j)) := below_setRow (br.alloc nl _) _ _ nl;have hhA : ((wr.alloc (.cells #[.string ⟨#[]⟩, .nilFunc, .nilFunc, .nilFunc, .nilFunc, .nilFunc] 150)).setRow wr.1.size (aV j)).1[wr.1.size]? = some (.cells (aV j) 150 (0, 0)) := aB _ _ _ _ _ _ (aK _ _ _ rfl);have hzA : ((wr.alloc (.cells #[.string ⟨#[]⟩, .nilFunc, .nilFunc, .nilFunc, .nilFunc, .nilFunc] 150)).setRow wr.1.size (aV j)).1.size = wr.1.size + 1 := (by simp [World.setRow]);have HA := hid (au hbA (au hhA hbr));clear hbA hhA hbr
   go_wp2_with (refine wpList_store_row rfl 150 (.tmp 6) (.tmp 14) rfl rfl wr.1.size rfl (aV j) rfl 150 #[.string ⟨#[]⟩, .nilFunc, .nilFunc, .nilFunc, .nilFunc, .nilFunc] (aK _ _ _ rfl) (by rw [bT]; kernel_rfl) (by rw [bT]; rfl) (gX j) ?_)
   clear hi;obtain ⟨W5, hW5⟩ : ∃ W5, W5 = ((wr.alloc (.cells #[.string ⟨#[]⟩, .nilFunc, .nilFunc, .nilFunc, .nilFunc, .nilFunc] 150)).setRow wr.1.size (aV j)) := ⟨_, rfl⟩;rw [← hW5] at HA hzA ⊢;clear hW5;have hbW : Below wr.1.size wr W5 := HA.out.1;have hR5 : mX W5 (fun b => b = w.1.size + 1) L (.slice (some ⟨w.1.size + 1, 0, none⟩) L.length L.length) := Sl.below (Sl.below H2.out.1 (by omega) HA.out.2.2 nl) (by omega) hbW nl;obtain ⟨bl, off, hbo, rfl, hc⟩ := mX.at hR5 hL1;simp only [Option.some.injEq, Addr.mk.injEq, true_and, and_true] at hbo;subst hbo;have cl := hc 0 hL1;simp only [Nat.zero_add] at cl;have HC := hid (au hc hR5);clear hc hR5 hbW;have hLpos : (0 : Int) < (L.length : Int) := (by omega);rcases (show j = 0 ∨ 1 ≤ j by omega) with h0 | h1j
   ·have t1 : decide ((j : Int) < 1) = true := by simp; omega
    go_quiet (fail)
    go_wp2_with fail;go_roundw
    case rel => exact ⟨j + 1, by go_num, by omega, by omega, HA.out.2.2.trans (below_drewN (HA.out.1.mono (by omega)) _)⟩
    case measure => simp [intOf]; omega
   ·have t1 : decide ((j : Int) < 1) = false := by simp; omega
    obtain ⟨WD, hWD⟩ : ∃ WD : ByteArray, WD = ⟨(bB j).toArray⟩ := ⟨_, rfl⟩;obtain ⟨L0, hL0⟩ : ∃ L0 : ByteArray, L0 = ⟨L[0].toArray⟩ := ⟨_, rfl⟩;have cw : W5.cell? ⟨wr.1.size, 0, none⟩ = some (.string WD) := (by rw [ax W5 _ 0 _ _ _ HA.out.2.1, hWD]; exact sH j h1j (by omega));rw [← hL0] at cl;have eWD : WD.toList = bB j := (by rw [hWD, ByteArray.toList_eq]);have eL0 : L0.toList = L[0] := (by rw [hL0, ByteArray.toList_eq]);by_cases hw : bB j = L[0]
    ·have hww : (WD.toList == L0.toList) = true := by rw [eWD, eL0, hw]; simp
     have hwb : (WD.toList != L0.toList) = false := (by rw [eWD, eL0, hw]; simp);clear eWD eL0 hWD hL0;by_cases hn1 : L.length < 2
     ·have t2 : decide ((L.length : Int) < 2) = true := by simp; omega
      go_quiet (fail)
      go_wp2_with fail;go_roundw
      case rel => exact ⟨j + 1, by go_num, by omega, .inl (by rw [HST.out]; exact yE hn1), HA.out.2.2.trans (below_drewN (HA.out.1.mono (by omega)) _)⟩
      case measure => simp [intOf]; omega
     ·have t2 : decide ((L.length : Int) < 2) = false := by simp; omega
      obtain ⟨m, hm⟩ : ∃ m, L.length = m + 2 := ⟨L.length - 2, by omega⟩;obtain ⟨l0, l1, tl, hLe⟩ : ∃ l0 l1 tl, L = l0 :: l1 :: tl := by
       match L, hm with
       | a :: b :: c, _ => exact ⟨a, b, c, rfl⟩
      have hml : m = tl.length := (by rw [hLe] at hm; simp at hm; omega);have hLine := FC h1j (by omega) (HLL.out.1.symm.trans hLe) (by rw [hw]; simp [hLe]);have c1 : W5.cell? ⟨w.1.size + 1, 1, none⟩ = some (.string ⟨l1.toArray⟩) := by
       have := HC.out.1 1 (by omega);simp only [Nat.zero_add] at this;rw [this]; simp [hLe]
      have hsz1 : l1.length ≤ s.size := (by rw [← dS]; exact HLL.out.2 l1 (by simp [hLe]));rw [hm] at t2 ⊢;have HD := hid (au hLine (au c1 (au hLe (au hml hw))));clear hLine c1 hLe hml hw hm;have t3 : decide ((m : Int) + 2 < 2) = false := (by simp; omega);have t12 : (1 : Int) < (m : Int) + 2 := by omega
      go_quiet (fail)
      go_wp2_with fail;obtain ⟨W7, hW7⟩ : ∃ W7, W7 = ((W5.drewN nq).alloc (.cells #[.int .i64 (j : Nat), .int .u64 0, .int .u64 0, .int .u64 0, .int .u64 0, .int .u64 0, .int .i64 0, .int .u64 0, .int .u64 0, .slice none 0 0, .slice none 0 0] 73)) := ⟨_, rfl⟩;have hb57 : Below W5.1.size W5 W7 := (by rw [hW7]; exact (below_drewN br _).alloc nl _);have hgb : W7.1[wr.1.size + 1]? = some (.cells (pz j 0) 73 (0, 0)) := (by rw [hW7]; exact aK _ _ _ hzA.symm);have hz7 : W7.1.size = wr.1.size + 2 := (by rw [hW7]; simp [hzA]);obtain ⟨fid, hf1, hf2, hf3⟩ := HRK.out j h1j (by omega) (by rw [← HLL.out.1, HD.out.2.2.2.2]; exact af _);have c5 : W7.cell? ⟨wr.1.size, 5, none⟩ = some (.func (.func fid) #[] #[]) := by
       refine (hb57.cell (by simp; omega)).trans ?_;rw [ax W5 _ 5 _ _ _ HA.out.2.1]; exact hf1
      have c1' : W7.cell? ⟨w.1.size + 1, 1, none⟩ = some (.string ⟨l1.toArray⟩) := (hb57.cell (by simp; omega)).trans HD.out.2.1;obtain ⟨ad2, had⟩ : ∃ ad2 : Option Addr, ad2 = some ⟨w.1.size + 1, if m = 0 then 0 else 2, none⟩ := ⟨_, rfl⟩;have hG7 : Gv W7 (wr.1.size + 1) tl (.slice ad2 m m) := by
       have h := HC.out.2;rw [HD.out.2.2.1] at h;have h2 : mX W5 (fun b => b = w.1.size + 1) (l0 :: l1 :: tl) (.slice (some ⟨w.1.size + 1, 0, none⟩) (m + 2) (m + 2)) := by
        have e : (l0 :: l1 :: tl).length = m + 2 := (by simp [HD.out.2.2.2.1]);rw [← e]; exact h
       refine ⟨Sl.keep (mX.drop2 h2 HD.out.2.2.2.1 (fun hp => by rw [had, if_neg (by omega)]) nl) (by omega) (Below.keeps hb57 nl _) (fun b _ hb => by omega), fun x hx => ?_⟩;have := HLL.out.2 x (by rw [HD.out.2.2.1]; simp [hx]);rw [dS] at this; omega
      have hSL : ∀ W, (Instr.sliceAt 79 (.slice (some ⟨w.1.size + 1, 0, none⟩) (m + 2) (m + 2)) (some (.int .i64 2)) none none).run Tryz.prog W = .ok (.slice ad2 m m) W := by
       intro W;rw [had];by_cases hm0 : m = 0
       ·subst hm0; go_simp
       ·go_simp
        intro hx; omega
      have hb7 : Below wr.1.size wr W7 := HA.out.1.trans (hb57.mono (by omega));have hL7 : Lq (wr.1.size + 1) W7 := ((HL.out.below (H2.out.2.1.trans ((HA.out.2.2.mono (by omega)).trans (hb7.mono (by omega))))).mono (by omega));have HV := hid (au hL7 (au c1' (au c5 hG7)));have HF := hid (au hf2 hf3);have HSL := hid hSL;have hw27 : Below w2.1.size w2 W7 := HA.out.2.2.trans (hb7.mono (by omega));have hrb7 : W7.1[w.1.size]? = some (.cells #[.int .i64 0, .int .u64 0, .int .u64 0, .int .u64 0, .int .u64 0, .int .u64 0, .int .i64 0, .int .u64 0, .int .u64 0, .slice none 0 0, .slice none 0 0] 73 (0, 0)) := (hw27.block _ (by omega)).trans H2.out.2.2;have HB7 := hid (au (H2.out.2.1.trans (hw27.mono (by omega))) hrb7);have hZ0 : ∀ o7, LnZ (wr.1.size + 1) j (eZ l1) o7 W7 0 (fun _ => undef) W7.drew := fun o7 => ⟨Rg.of_below br.drew, _, hgb, fun _ => rfl, (fun h => by omega), (fun h => by omega)⟩
      have HZ := hid hZ0;rw [← hW7];clear hW7 hb57 hgb hf1 hf2 hf3 c5 c1' hG7 hSL hb7 hL7 had cw cl hww hwb hw27 hrb7 hZ0;have fin : ∀ o7 vs wN, LnZ (wr.1.size + 1) j (eZ l1) o7 W7 2 vs wN ∨ LnZ (wr.1.size + 1) j (eZ l1) o7 W7 1 vs wN → Below w.1.size w wN ∧ wN.1[w.1.size]? = some (.cells #[.int .i64 0, .int .u64 0, .int .u64 0, .int .u64 0, .int .u64 0, .int .u64 0, .int .i64 0, .int .u64 0, .int .u64 0, .slice none 0 0, .slice none 0 0] 73 (0, 0)) := fun o7 vs wN hZ => by
       have hrg : Rg (wr.1.size + 1) W7 wN := hZ.elim (fun h => h.rg) (fun h => h.rg);exact ⟨HB7.out.1.trans ((hrg.below (by omega)).mono (by omega)), (hrg.keep _ (by omega) (by omega)).trans HB7.out.2⟩
      have HFI := hid fin;clear fin;cases hn1 : eZ l1 with
      | none =>
       have HN := hid hn1;have HZ0 := hid (HZ.out none);obtain ⟨o7, ho7⟩ : ∃ o7 : Option Rec, o7 = none := ⟨_, rfl⟩;rw [← ho7] at HZ0;clear hn1 ho7;refine dC (w0 := W7) rfl [.eq (.slice (some ⟨w.1.size + 1, 0, none⟩) (m + 2) (m + 2)), .eq (.pointer (some ⟨w.1.size + 1, 1, none⟩)), .eq (.string ⟨l1.toArray⟩), .eq (.pointer (some ⟨wr.1.size + 1, 1, none⟩)), .weq (.bool false), .eq (.bool true), .eq (.bool true), .skip, .skip, .skip, .skip, .skip, .skip, .eq ((Value.bool true))] (LnZ (wr.1.size + 1) j (eZ l1) o7 W7) (by kernel_rfl) (⟨fun _ => undef, HZ0.out⟩) ⟨?_, ?_, ?_, ?_, ?_, ?_, ?_, ?_, trivial⟩ (fun vs => [(32, .slice (some ⟨w.1.size + 1, 0, none⟩) (m + 2) (m + 2)), (33, .pointer (some ⟨w.1.size + 1, 1, none⟩)), (34, .string ⟨l1.toArray⟩), (35, .pointer (some ⟨wr.1.size + 1, 1, none⟩)), (36, .bool false), (37, .bool true), (38, .bool true), (39, undef), (40, undef), (41, undef), (42, undef), (43, undef), (44, undef), (45, (Value.bool true))]) (fun _ => rfl) 1 (by kernel_rfl) ?_
       ·refine pZ fun t vs ac wx K Q hR hZ hK => ?_
        have t4 : ac.tmps[4]? = some (.slice (some ⟨w.1.size + 1, 0, none⟩) (m + 2) (m + 2)) := hR.o 4;go_simp;exact hK _ hZ
       ·refine pZ fun t vs ac wx K Q hR hZ hK => ?_
        have t32 := hR.q 0;go_simp;exact hK _ hZ
       ·refine pZ fun t vs ac wx K Q hR hZ hK => ?_
        have t33 := hR.q 1;have y0 := hZ.rg.cell HV.out.2.1 (by omega);go_simp;exact hK _ hZ
       ·refine pZ fun t vs ac wx K Q hR hZ hK => ?_
        have t7 : ac.tmps[7]? = some (.pointer (some ⟨wr.1.size + 1, 0, none⟩)) := hR.o 7;go_simp;exact hK _ hZ
       ·refine wZ fun vs ac wx K Q hR hZ hK => ?_
        have t34 := hR.q 2;have t35 := hR.q 3;go_simp
        go_at_call 61
        refine (jy ⟨l1.toArray⟩ (wr.1.size + 1) 1 73 _ _ (by rw [← dS]; simp; omega) (hZ.zero rfl) (by simp [pz]) (HV.out.1.lv.below (hZ.rg.below (by omega)))).mono ?_;rintro e w' hS;obtain ⟨rfl, hZ2⟩ := hZ.one hS (by rw [HN.out]);exact hK _ _ gz hZ2
       ·refine pZ fun t vs ac wx K Q hR hZ hK => ?_
        have t36 := hR.weq 4 (by kernel_rfl) rfl rfl;go_simp;exact hK _ hZ
       ·refine pZ fun t vs ac wx K Q hR hZ hK => ?_
        have t37 := hR.q 5;go_simp;exact hK _ hZ
       ·refine pZ fun t vs ac wx K Q hR hZ hK => ?_
        have t38 := hR.q 6;have t44 := hR.skip 12 (by kernel_rfl) rfl rfl;go_simp;exact hK _ hZ
       intro vs wN hZ;simp only [bS, List.foldl_cons, List.foldl_nil];have HE := hid (HFI.out _ _ _ (.inr hZ));clear hZ;go_simp
       go_wp2_with (refine wpList_store_row rfl 73 (.tmp 2) (.tmp 48) rfl rfl w.1.size rfl _ rfl 73 _ HE.out.2 (by kernel_rfl) rfl (by simp [Value.oneCell']) ?_)
       exact aC (v := .tuple #[.agg #[.int .i64 0, .int .u64 0, .int .u64 0, .int .u64 0, .int .u64 0, .int .u64 0, .int .i64 0, .int .u64 0, .int .u64 0, .slice none 0 0, .slice none 0 0], .int .i64 50]) (aN rfl _ _ w.1.size 73 _ _ _ _ rfl (aB _ _ _ _ _ _ HE.out.2) Tryz.underlying73 rfl (by kernel_rfl) rfl) rfl (jA (by rw [HD.out.1, HN.out]; rfl) (below_setRow HE.out.1 _ _ nl))
      | some t =>
       have HN := hid hn1;have HT : Hid (m = tl.length ∧ m ≤ 100000 ∧ t < 18446744073709551616) := hid ⟨HD.out.2.2.2.1, by have := HD.out.2.2.1; have h3 := congrArg List.length this; simp at h3; have := HD.out.2.2.2.1; omega, (bQ.1 hn1).2⟩;obtain ⟨o7, ho7⟩ : ∃ o7 : Option Rec, o7 = iC j t tl := ⟨_, rfl⟩;have HZ0 := hid (HZ.out o7);have HO7 := hid ho7;clear hn1 ho7;cases ho : o7 with
       | none =>
        have HO : Hid (o7.isSome = false) := hid (by rw [ho]; rfl);have HL7 : Hid (eT s.data.toList = none) := hid (by rw [HD.out.1, HN.out, ai, ← HO7.out, ho]);clear ho;refine dC (w0 := W7) rfl [.eq (.slice (some ⟨w.1.size + 1, 0, none⟩) (m + 2) (m + 2)), .eq (.pointer (some ⟨w.1.size + 1, 1, none⟩)), .eq (.string ⟨l1.toArray⟩), .eq (.pointer (some ⟨wr.1.size + 1, 1, none⟩)), .weq (.bool true), .eq (.bool false), .eq (.bool false), .eq (.pointer (some ⟨wr.1.size, 5, none⟩)), .eq (.func (.func fid) #[] #[]), .eq (.slice (some ⟨w.1.size + 1, 0, none⟩) (m + 2) (m + 2)), .eq (.slice ad2 m m), .weq (.bool false), .eq (.bool true), .eq (.bool true)] (LnZ (wr.1.size + 1) j (eZ l1) o7 W7) (by kernel_rfl) (⟨fun _ => undef, HZ0.out⟩) ⟨?_, ?_, ?_, ?_, ?_, ?_, ?_, ?_, ?_, ?_, ?_, ?_, ?_, ?_, trivial⟩ (fun vs => [(32, .slice (some ⟨w.1.size + 1, 0, none⟩) (m + 2) (m + 2)), (33, .pointer (some ⟨w.1.size + 1, 1, none⟩)), (34, .string ⟨l1.toArray⟩), (35, .pointer (some ⟨wr.1.size + 1, 1, none⟩)), (36, .bool true), (37, .bool false), (38, .bool false), (39, .pointer (some ⟨wr.1.size, 5, none⟩)), (40, .func (.func fid) #[] #[]), (41, .slice (some ⟨w.1.size + 1, 0, none⟩) (m + 2) (m + 2)), (42, .slice ad2 m m), (43, .bool false), (44, .bool true), (45, .bool true)]) (fun _ => rfl) 2 (by kernel_rfl) ?_
        ·refine pZ fun t vs ac wx K Q hR hZ hK => ?_
         have t4 : ac.tmps[4]? = some (.slice (some ⟨w.1.size + 1, 0, none⟩) (m + 2) (m + 2)) := hR.o 4;go_simp;exact hK _ hZ
        ·refine pZ fun t vs ac wx K Q hR hZ hK => ?_
         have t32 := hR.q 0;go_simp;exact hK _ hZ
        ·refine pZ fun t vs ac wx K Q hR hZ hK => ?_
         have t33 := hR.q 1;have y0 := hZ.rg.cell HV.out.2.1 (by omega);go_simp;exact hK _ hZ
        ·refine pZ fun t vs ac wx K Q hR hZ hK => ?_
         have t7 : ac.tmps[7]? = some (.pointer (some ⟨wr.1.size + 1, 0, none⟩)) := hR.o 7;go_simp;exact hK _ hZ
        ·refine wZ fun vs ac wx K Q hR hZ hK => ?_
         have t34 := hR.q 2;have t35 := hR.q 3;go_simp
         go_at_call 61
         refine (jy ⟨l1.toArray⟩ (wr.1.size + 1) 1 73 _ _ (by rw [← dS]; simp; omega) (hZ.zero rfl) (by simp [pz]) (HV.out.1.lv.below (hZ.rg.below (by omega)))).mono ?_;rintro e w' hS;obtain ⟨rfl, hZ2⟩ := hZ.one hS (by rw [HN.out]);exact hK _ _ gz hZ2
        ·refine pZ fun t vs ac wx K Q hR hZ hK => ?_
         have t36 := hR.weq 4 (by kernel_rfl) rfl rfl;go_simp;exact hK _ hZ
        ·refine pZ fun t vs ac wx K Q hR hZ hK => ?_
         have t37 := hR.q 5;go_simp;exact hK _ hZ
        ·refine pZ fun t vs ac wx K Q hR hZ hK => ?_
         have t6 : ac.tmps[6]? = some (.pointer (some ⟨wr.1.size, 0, none⟩)) := hR.o 6;go_simp;exact hK _ hZ
        ·refine pZ fun t vs ac wx K Q hR hZ hK => ?_
         have t39 := hR.q 7;have y0 := hZ.rg.cell HV.out.2.2.1 (by omega);go_simp;exact hK _ hZ
        ·refine pZ fun t vs ac wx K Q hR hZ hK => ?_
         have t4 : ac.tmps[4]? = some (.slice (some ⟨w.1.size + 1, 0, none⟩) (m + 2) (m + 2)) := hR.o 4;go_simp;exact hK _ hZ
        ·refine pZ fun t vs ac wx K Q hR hZ hK => ?_
         have t41 := hR.q 9;have hsl := HSL.out;go_simp;exact hK _ hZ
        ·refine wZ fun vs ac wx K Q hR hZ hK => ?_
         have t40 := hR.q 8;have t42 := hR.q 10;have t7 : ac.tmps[7]? = some (.pointer (some ⟨wr.1.size + 1, 0, none⟩)) := hR.o 7;have hcall := HF.out.1;unfold Enters at hcall;go_simp;refine (HF.out.2 (wr.1.size + 1) t m m tl ad2 _ (hZ.rep HV.out.2.2.2) HT.out (HV.out.1.below (hZ.rg.below (by omega))) (hZ.pre rfl HN.out)).mono ?_;rintro e w' hS;rw [← HO7.out] at hS;obtain ⟨rfl, hZ2⟩ := hZ.two hS HO.out;exact hK _ _ gz hZ2
        ·refine pZ fun t vs ac wx K Q hR hZ hK => ?_
         have t43 := hR.weq 11 (by kernel_rfl) rfl rfl;go_simp;exact hK _ hZ
        ·refine pZ fun t vs ac wx K Q hR hZ hK => ?_
         have t38 := hR.q 6;have t44 := hR.q 12;go_simp;exact hK _ hZ
        intro vs wN hZ;simp only [bS, List.foldl_cons, List.foldl_nil];have HE := hid (HFI.out _ _ _ (.inl hZ));clear hZ;go_simp
        go_wp2_with (refine wpList_store_row rfl 73 (.tmp 2) (.tmp 48) rfl rfl w.1.size rfl _ rfl 73 _ HE.out.2 (by kernel_rfl) rfl (by simp [Value.oneCell']) ?_)
        exact aC (v := .tuple #[.agg #[.int .i64 0, .int .u64 0, .int .u64 0, .int .u64 0, .int .u64 0, .int .u64 0, .int .i64 0, .int .u64 0, .int .u64 0, .slice none 0 0, .slice none 0 0], .int .i64 50]) (aN rfl _ _ w.1.size 73 _ _ _ _ rfl (aB _ _ _ _ _ _ HE.out.2) Tryz.underlying73 rfl (by kernel_rfl) rfl) rfl (jA HL7.out (below_setRow HE.out.1 _ _ nl))
       | some r =>
        have HO : Hid (o7.isSome = true) := hid (by rw [ho]; rfl);have HL7 : Hid (eT s.data.toList = some r ∧ o7 = some r) := hid ⟨by rw [HD.out.1, HN.out, ai, ← HO7.out, ho], ho⟩;clear ho;refine dC (w0 := W7) rfl [.eq (.slice (some ⟨w.1.size + 1, 0, none⟩) (m + 2) (m + 2)), .eq (.pointer (some ⟨w.1.size + 1, 1, none⟩)), .eq (.string ⟨l1.toArray⟩), .eq (.pointer (some ⟨wr.1.size + 1, 1, none⟩)), .weq (.bool true), .eq (.bool false), .eq (.bool false), .eq (.pointer (some ⟨wr.1.size, 5, none⟩)), .eq (.func (.func fid) #[] #[]), .eq (.slice (some ⟨w.1.size + 1, 0, none⟩) (m + 2) (m + 2)), .eq (.slice ad2 m m), .weq (.bool true), .eq (.bool false), .eq (.bool false)] (LnZ (wr.1.size + 1) j (eZ l1) o7 W7) (by kernel_rfl) (⟨fun _ => undef, HZ0.out⟩) ⟨?_, ?_, ?_, ?_, ?_, ?_, ?_, ?_, ?_, ?_, ?_, ?_, ?_, ?_, trivial⟩ (fun vs => [(32, .slice (some ⟨w.1.size + 1, 0, none⟩) (m + 2) (m + 2)), (33, .pointer (some ⟨w.1.size + 1, 1, none⟩)), (34, .string ⟨l1.toArray⟩), (35, .pointer (some ⟨wr.1.size + 1, 1, none⟩)), (36, .bool true), (37, .bool false), (38, .bool false), (39, .pointer (some ⟨wr.1.size, 5, none⟩)), (40, .func (.func fid) #[] #[]), (41, .slice (some ⟨w.1.size + 1, 0, none⟩) (m + 2) (m + 2)), (42, .slice ad2 m m), (43, .bool true), (44, .bool false), (45, .bool false)]) (fun _ => rfl) 2 (by kernel_rfl) ?_
        ·refine pZ fun t vs ac wx K Q hR hZ hK => ?_
         have t4 : ac.tmps[4]? = some (.slice (some ⟨w.1.size + 1, 0, none⟩) (m + 2) (m + 2)) := hR.o 4;go_simp;exact hK _ hZ
        ·refine pZ fun t vs ac wx K Q hR hZ hK => ?_
         have t32 := hR.q 0;go_simp;exact hK _ hZ
        ·refine pZ fun t vs ac wx K Q hR hZ hK => ?_
         have t33 := hR.q 1;have y0 := hZ.rg.cell HV.out.2.1 (by omega);go_simp;exact hK _ hZ
        ·refine pZ fun t vs ac wx K Q hR hZ hK => ?_
         have t7 : ac.tmps[7]? = some (.pointer (some ⟨wr.1.size + 1, 0, none⟩)) := hR.o 7;go_simp;exact hK _ hZ
        ·refine wZ fun vs ac wx K Q hR hZ hK => ?_
         have t34 := hR.q 2;have t35 := hR.q 3;go_simp
         go_at_call 61
         refine (jy ⟨l1.toArray⟩ (wr.1.size + 1) 1 73 _ _ (by rw [← dS]; simp; omega) (hZ.zero rfl) (by simp [pz]) (HV.out.1.lv.below (hZ.rg.below (by omega)))).mono ?_;rintro e w' hS;obtain ⟨rfl, hZ2⟩ := hZ.one hS (by rw [HN.out]);exact hK _ _ gz hZ2
        ·refine pZ fun t vs ac wx K Q hR hZ hK => ?_
         have t36 := hR.weq 4 (by kernel_rfl) rfl rfl;go_simp;exact hK _ hZ
        ·refine pZ fun t vs ac wx K Q hR hZ hK => ?_
         have t37 := hR.q 5;go_simp;exact hK _ hZ
        ·refine pZ fun t vs ac wx K Q hR hZ hK => ?_
         have t6 : ac.tmps[6]? = some (.pointer (some ⟨wr.1.size, 0, none⟩)) := hR.o 6;go_simp;exact hK _ hZ
        ·refine pZ fun t vs ac wx K Q hR hZ hK => ?_
         have t39 := hR.q 7;have y0 := hZ.rg.cell HV.out.2.2.1 (by omega);go_simp;exact hK _ hZ
        ·refine pZ fun t vs ac wx K Q hR hZ hK => ?_
         have t4 : ac.tmps[4]? = some (.slice (some ⟨w.1.size + 1, 0, none⟩) (m + 2) (m + 2)) := hR.o 4;go_simp;exact hK _ hZ
        ·refine pZ fun t vs ac wx K Q hR hZ hK => ?_
         have t41 := hR.q 9;have hsl := HSL.out;go_simp;exact hK _ hZ
        ·refine wZ fun vs ac wx K Q hR hZ hK => ?_
         have t40 := hR.q 8;have t42 := hR.q 10;have t7 : ac.tmps[7]? = some (.pointer (some ⟨wr.1.size + 1, 0, none⟩)) := hR.o 7;have hcall := HF.out.1;unfold Enters at hcall;go_simp;refine (HF.out.2 (wr.1.size + 1) t m m tl ad2 _ (hZ.rep HV.out.2.2.2) HT.out (HV.out.1.below (hZ.rg.below (by omega))) (hZ.pre rfl HN.out)).mono ?_;rintro e w' hS;rw [← HO7.out] at hS;obtain ⟨rfl, hZ2⟩ := hZ.two hS HO.out;exact hK _ _ gz hZ2
        ·refine pZ fun t vs ac wx K Q hR hZ hK => ?_
         have t43 := hR.weq 11 (by kernel_rfl) rfl rfl;go_simp;exact hK _ hZ
        ·refine pZ fun t vs ac wx K Q hR hZ hK => ?_
         have t38 := hR.q 6;have t44 := hR.q 12;go_simp;exact hK _ hZ
        intro vs wN hZ;simp only [bS, List.foldl_cons, List.foldl_nil];have HE := hid (HFI.out _ _ _ (.inl hZ));obtain ⟨cs, hcs, _, _, hrep⟩ := hZ.ex;have hr := hrep (by omega) r HL7.out.2;obtain ⟨k', a', b', ad', n', cap', ad3, cap3, hv, _⟩ := hr.conc;injection hv with hv
        rw [hv] at hr hcs;have HR := hid (au hr hcs);clear hZ hcs hrep hr hv;go_simp
        go_wp2_with (first
         | (refine wpList_load_row rfl 73 (.tmp 7) rfl (wr.1.size + 1) rfl 73 _ (0, 0) _ HR.out.2 Tryz.underlying73 rfl (by kernel_rfl) ?_)
         | (refine wpList_store_row rfl 73 (.tmp 2) (.tmp 46) rfl rfl w.1.size rfl _ rfl 73 _ HE.out.2 (by kernel_rfl) rfl (by simp [Value.oneCell']) ?_))
        exact aC (v := .tuple #[.agg #[.int .i64 r.k, .int .u64 r.t, .int .u64 r.x, .int .u64 r.w, .int .u64 r.n, .int .u64 r.v, .int .i64 k', .int .u64 a', .int .u64 b', .slice ad' n' cap', .slice ad3 r.es.length cap3], .int .i64 0]) (aN rfl _ _ w.1.size 73 _ _ _ _ rfl (aB _ _ _ _ _ _ HE.out.2) Tryz.underlying73 rfl (by kernel_rfl) rfl) rfl
         (uD r HL7.out.1 (HR.out.1.keep (S := fun b => W7.1.size ≤ b) (fun b hb _ => setRow_other _ _ _ _ (by omega)) (fun b _ hb => by omega)) (below_setRow HE.out.1 _ _ nl))
    ·have hww : (WD.toList == L0.toList) = false := by rw [eWD, eL0]; simpa using hw
     have hwb : (WD.toList != L0.toList) = true := (by rw [eWD, eL0]; simpa using hw);clear eWD eL0 hWD hL0;have hsj := Eg hL1 h1j (by omega) hw;rw [← HST.out] at hsj
     go_quiet (fail)
     go_wp2_with fail;go_roundw
     case rel => exact ⟨j + 1, by go_num, by omega, by omega, HA.out.2.2.trans (below_drewN (HA.out.1.mono (by omega)) _)⟩
     case measure => simp [intOf]; omega
  ·have hj2 : j = 8 := by omega
   subst hj2;have HN := hid (Al (s := s.data.toList) (by rw [← HLL.out.1, ← HST.out]; omega));have HB := hid (au (H2.out.2.1.trans (hbr.mono (by omega))) ((hbr.block _ (by omega)).trans H2.out.2.2));clear hbr
   go_wp2_with (refine wpList_store_row rfl 73 (.tmp 2) (.tmp 48) rfl rfl w.1.size rfl _ rfl 73 _ HB.out.2 (by kernel_rfl) rfl (by simp [Value.oneCell']) ?_)
   exact aC (v := .tuple #[.agg #[.int .i64 0, .int .u64 0, .int .u64 0, .int .u64 0, .int .u64 0, .int .u64 0, .int .i64 0, .int .u64 0, .int .u64 0, .slice none 0 0, .slice none 0 0], .int .i64 50]) (aN rfl _ _ w.1.size 73 _ _ _ _ rfl (aB _ _ _ _ _ _ HB.out.2) Tryz.underlying73 rfl (by kernel_rfl) rfl) rfl (jA HN.out (below_setRow HB.out.1 _ _ nl))
theorem Cy : ∀ j : Nat, j ≤ 7 → 1 ≤ j → bB j = bB 1 ∨ bB j = bB 6 → j = 1 ∨ j = 6 := by decide
theorem wX (s : ByteArray) (h16 : (cuts 32 s.data.toList)[0]? = some (bB 1) ∨ (cuts 32 s.data.toList)[0]? = some (bB 6)) (w : World) (hs : s.size ≤ 50000) (hL : Lq w.1.size w) : Calls Tryz.prog 32 #[.string s] w (lC (eT s.data.toList) w) := by
 refine yF s (fun j h1 h7 h => ?_) w hs hL;rw [h] at h16;rcases Cy j h7 h1 (h16.imp (fun e => Option.some.inj e) (fun e => Option.some.inj e)) with rfl | rfl
 ·exact ⟨102, rfl, (fun _ _ => by kernel_rfl), fun g t n cap l ad w hG hT hL hh => oo g 1 t n cap l ad w (by omega) hT.1 hT.2.2 hh⟩
 ·exact ⟨102, rfl, (fun _ _ => by kernel_rfl), fun g t n cap l ad w hG hT hL hh => oo g 6 t n cap l ad w (by omega) hT.1 hT.2.2 hh⟩
end Go.Proofs.YtlpgokcapdjgjaaGreatDoor
