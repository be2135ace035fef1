/- Walks. -/
import Derived.Test.YtlpgokcapdjgjaaGreatDoorY30
import Derived.Test.YtlpgokcapdjgjaaGreatDoorY12
import Derived.Test.YtlpgokcapdjgjaaGreatDoorY29
set_option maxHeartbeats 8000000
set_option maxRecDepth 100000
namespace Go.Proofs.YtlpgokcapdjgjaaGreatDoor
open Go.RowKit Go
set_option linter.unusedVariables false
set_option linter.unusedSimpArgs false
theorem Dt : (Tryz.prog.info? 135).map (fun i => (i.zero, i.size, i.bytes)) = some (some (.agg #[.int .u64 0, .int .u64 0, .int .u64 0, .bool false]), 4, 32) := by kernel_rfl
theorem wI (e : Ent) : (jI e).toList = e.cells := rfl
theorem qz : ∀ (l : List (List UInt8)) (s : List UInt8), gI (l ++ [s]) = (gI l).bind fun es => (jP s).map fun e => es ++ [e]
 | [], s => by simp only [List.nil_append, gI, Option.bind_some]; cases jP s <;> rfl
 | a :: l, s => by
  simp only [List.cons_append, gI, qz l s]
  cases jP a with
  | none => rfl
  | some e =>
   simp only [Option.bind_some]
   cases gI l with
   | none => rfl
   | some es => cases jP s <;> rfl
theorem lG {l : List (List UInt8)} {j : Nat} (h : j < l.length) : gI (l.take (j + 1)) = (gI (l.take j)).bind fun es => (jP l[j]).map fun e => es ++ [e] := by
 rw [List.take_succ_eq_append_getElem h, qz]
theorem yo {l : List (List UInt8)} {j : Nat} (h : j < l.length) (hn : jP l[j] = none) : gI l = none := by
 have key : ∀ k, j + 1 ≤ k → k ≤ l.length → gI (l.take k) = none := by
  intro k
  induction k with
  | zero => intro h1; omega
  | succ k ih =>
   intro h1 h2
   by_cases e : k = j
   ·subst e; rw [lG h, hn]; cases gI (l.take k) <;> rfl
   ·rw [lG (by omega), ih (by omega) (by omega)]; rfl
 have := key l.length (by omega) nl
 rwa [List.take_length] at this
def pc (t : Nat) (q0 : Int) (q1 q2 : Nat) (q3 : Option Addr) (q4 q5 : Nat) (sv : Value) : Array Value := #[.int .i64 5, .int .u64 (t : Nat), .int .u64 0, .int .u64 0, .int .u64 0, .int .u64 0, .int .i64 q0, .int .u64 q1, .int .u64 q2, .slice q3 q4 q5, sv]
structure EaZ (g xb base j t : Nat) (q0 : Int) (q1 q2 : Nat) (q3 : Option Addr) (q4 q5 : Nat) (sa : Option Addr) (sc : Nat) (es : List Ent) (e : Ent) (wr : World) (st : Nat) (vs : Nat → Value) (w : World) : Prop where
 rg : Below g wr w ∧ (∀ b, b < base → b ≠ g → w.heap[b]? = wr.heap[b]?) ∧ wr.heap.size ≤ w.heap.size
 old : st ≤ 2 → w.heap[g]? = some (.cells (pc t q0 q1 q2 q3 q4 q5 (.slice sa j sc)) 73 (0, 0))
 own : st ≤ 1 → w.ownsRow base 135 4 (.slice sa j sc) j (aN es)
 box : st = 0 → w.heap[xb]? = some (.cells (jI e) 135 (0, 0))
 one : st = 1 → ∃ bb, vs 6 = .slice (some ⟨bb, 0, none⟩) 1 1 ∧ w.heap[bb]? = some (.cells (jI e) 135 (0, 0))
 two : 2 ≤ st → ∃ gg gcap, vs 7 = .slice (some ⟨gg, 0, none⟩) (j + 1) gcap ∧ w.ownsRow base 135 4 (.slice (some ⟨gg, 0, none⟩) (j + 1) gcap) (j + 1) (aN (es ++ [e]))
 new : 3 ≤ st → w.heap[g]? = some (.cells (pc t q0 q1 q2 q3 q4 q5 (vs 7)) 73 (0, 0))
theorem EaZ.c10 {g xb base j t : Nat} {q0 : Int} {q1 q2 : Nat} {q3 : Option Addr} {q4 q5 : Nat} {sa : Option Addr} {sc : Nat} {es : List Ent} {e : Ent} {wr : World} {st : Nat} {vs : Nat → Value} {w : World} (h : EaZ g xb base j t q0 q1 q2 q3 q4 q5 sa sc es e wr st vs w) (hs : st ≤ 2) :
  w.cell? ⟨g, 10, none⟩ = some (.slice sa j sc) ∧ w.frozen? ⟨g, 10, none⟩ = false := ⟨by rw [cell_of_row w _ 10 _ _ _ (h.old hs)]; rfl, by rw [frozen_of_row w _ 10 _ _ (h.old hs)]⟩
theorem EaZ.xs {g xb base j t : Nat} {q0 : Int} {q1 q2 : Nat} {q3 : Option Addr} {q4 q5 : Nat} {sa : Option Addr} {sc : Nat} {es : List Ent} {e : Ent} {wr : World} {st : Nat} {vs : Nat → Value} {w : World} (h : EaZ g xb base j t q0 q1 q2 q3 q4 q5 sa sc es e wr st vs w) (hs : st = 0) :
  w.cell? ⟨xb, 0, none⟩ = some (.int .u64 (e.x : Nat)) ∧ w.cell? ⟨xb, 1, none⟩ = some (.int .u64 (e.w : Nat)) ∧ w.cell? ⟨xb, 2, none⟩ = some (.int .u64 (e.n : Nat)) ∧ w.cell? ⟨xb, 3, none⟩ = some (.bool e.m) := by
 have hb := h.box hs
 exact ⟨by rw [cell_of_row w _ 0 _ _ _ hb]; rfl, by rw [cell_of_row w _ 1 _ _ _ hb]; rfl, by rw [cell_of_row w _ 2 _ _ _ hb]; rfl, by rw [cell_of_row w _ 3 _ _ _ hb]; rfl⟩
structure EaR (g base t m : Nat) (q0 : Int) (q1 q2 : Nat) (q3 : Option Addr) (q4 q5 : Nat) (tl : List (List UInt8)) (W : World) (j : Nat) (wr : World) : Prop where
 le : j ≤ m
 ex : ∃ es sv, gI (tl.take j) = some es ∧ es.length = j ∧ wr.heap[g]? = some (.cells (pc t q0 q1 q2 q3 q4 q5 sv) 73 (0, 0)) ∧ wr.ownsRow base 135 4 sv j (aN es)
 bel : Below g W wr
 keep : ∀ b, b < base → b ≠ g → wr.heap[b]? = W.heap[b]?
 size : base ≤ wr.heap.size
theorem EaR.rg {g base t m : Nat} {q0 : Int} {q1 q2 : Nat} {q3 : Option Addr} {q4 q5 : Nat} {tl : List (List UInt8)} {W : World} {j : Nat} {wr : World} (h : EaR g base t m q0 q1 q2 q3 q4 q5 tl W j wr) (hb : base = W.heap.size) : Rg g W wr :=
 ⟨h.bel.os, h.bel.tape, h.bel.output, h.bel.size, fun b hl hn => h.keep b (by omega) hn⟩
theorem qA (es : List Ent) (e : Ent) : aN (es ++ [e]) = aN es ++ (jI e).toList := by rw [jB, wI]; simp [aN]
theorem uT (g t n cap : Nat) (l : List (List UInt8)) (ad : Option Addr) (w : World) (hn : n = l.length) (hn1000 : n ≤ 100000) (hG : Gv w g l (.slice ad n cap)) (ht : t < 18446744073709551616) (hL : Lq g w) (hh : w.heap[g]? = some (.cells #[.int .i64 5, .int .u64 (t : Nat), .int .u64 0, .int .u64 0, .int .u64 0, .int .u64 0, .int .i64 0, .int .u64 0, .int .u64 0, .slice none 0 0, .slice none 0 0] 73 (0, 0))) :
  Calls Tryz.prog 171 #[.slice ad n cap, .pointer (some ⟨g, 0, none⟩)] w (mH g (bX 5 t l) w) := by
 have hlt : g < w.heap.size := (Array.getElem?_eq_some_iff.1 hh).1
 have HL := hid hL
 obtain ⟨i0, hi0, hz0, hz1, hz2⟩ := info_parts Dt
 have HI := hid (And.intro hi0 (And.intro hz0 (And.intro hz1 hz2)))
 clear hi0 hz0 hz1 hz2
 cases l with
 | nil =>
  have hn0 : n = 0 := hn
  subst hn0
  have HH := hid hh
  clear hn hL hh hG
  go_enter Tryz.func171, Tryz.ntmps171
  go_wp2_with fail
  go_ret
  exact bD (Rg.refl _ _) HH.out rfl
 | cons x tl =>
  subst hn
  obtain ⟨m, hm⟩ : ∃ m, m = tl.length := ⟨_, rfl⟩
  have hcap0 := hG.rep.shape
  obtain ⟨_, _, ad', cap', hv', hcap⟩ := hcap0
  simp only [Value.slice.injEq] at hv'
  rw [← hv'.2.2] at hcap
  clear hv'
  obtain ⟨bl, off, rfl, hne, hc⟩ := iN.at hG.rep (by simp)
  have d0 := hc 0 (by simp)
  simp only [Nat.add_zero, List.getElem_cons_zero] at d0
  have lx := hG.len x (by simp)
  have hC : ∀ j (hj : j < tl.length), w.cell? ⟨bl, off + 1 + j, none⟩ = some (.string ⟨tl[j].toArray⟩) := fun j hj => by
   have := hc (j + 1) (by simp; omega)
   rw [show off + 1 + j = off + (j + 1) from by omega, this]; rfl
  have hLen : ∀ j (hj : j < tl.length), tl[j].length ≤ 50000 := fun j hj => hG.len _ (List.mem_cons_of_mem _ (List.getElem_mem hj))
  have hT : bX 5 t (x :: tl) = (bU x).bind fun p => (gI tl).map fun es => ⟨5, t, 0, 0, 0, 0, p, es⟩ := rfl
  have HC := hid (And.intro hC (And.intro hLen hT))
  have e1 : (x :: tl).length = m + 1 := by simp [hm]
  rw [e1] at hcap hn1000 ⊢
  have HM := hid hm
  have HP := hid (uS ⟨x.toArray⟩ w (by rw [← af]; simp; omega) (hL.lv.mono (by omega)))
  have HH := hid hh
  have t0 : (((m : Int) + 1) == 0) = false := by simp; omega
  have t01 : (0 : Int) < (m : Int) + 1 := by omega
  clear hC hLen hT e1 hm hh hL hc hG
  go_enter Tryz.func171, Tryz.ntmps171
  go_wp2_with fail
  refine HP.out.mono ?_
  rintro e w1 ⟨v, rfl, hv, hb1⟩
  obtain ⟨q0, q1, q2, q3, q4, q5, rfl⟩ := hv.conc
  have hg1 : w1.heap[g]? = some (.cells _ 73 (0, 0)) := (hb1.block _ hlt).trans HH.out
  have c6 : w1.cell? ⟨g, 6, none⟩ = some (.int .i64 0) := by rw [cell_of_row w1 _ 6 _ _ _ hg1]; rfl
  have c7 : w1.cell? ⟨g, 7, none⟩ = some (.int .u64 0) := by rw [cell_of_row w1 _ 7 _ _ _ hg1]; rfl
  have c8 : w1.cell? ⟨g, 8, none⟩ = some (.int .u64 0) := by rw [cell_of_row w1 _ 8 _ _ _ hg1]; rfl
  have c9 : w1.cell? ⟨g, 9, none⟩ = some (.slice none 0 0) := by rw [cell_of_row w1 _ 9 _ _ _ hg1]; rfl
  have f6 : w1.frozen? ⟨g, 6, none⟩ = false := by rw [frozen_of_row w1 _ 6 _ _ hg1]
  have f7 : w1.frozen? ⟨g, 7, none⟩ = false := by rw [frozen_of_row w1 _ 7 _ _ hg1]
  have f8 : w1.frozen? ⟨g, 8, none⟩ = false := by rw [frozen_of_row w1 _ 8 _ _ hg1]
  have f9 : w1.frozen? ⟨g, 9, none⟩ = false := by rw [frozen_of_row w1 _ 9 _ _ hg1]
  have hz1 := hb1.size
  have lg1 : g < w1.heap.size := by omega
  have HB := hid (And.intro hb1 (And.intro hv hg1))
  clear hv hb1 hg1
  obtain ⟨cd, hcd⟩ : ∃ cd, cd = code (bU x) := ⟨_, rfl⟩
  rw [← hcd]
  have HCD := hid hcd
  clear hcd
  rcases (show (cap = 1 ∧ m = 0) ∨ 1 < cap by omega) with ⟨hc1, hm0⟩ | hc2
  ·subst hc1
   go_wp2_with fail
   obtain ⟨W, hW⟩ : ∃ W, W = (((((w1.setCell ⟨g, 6, none⟩ (.int .i64 q0)).setCell ⟨g, 7, none⟩ (.int .u64 q1)).setCell ⟨g, 8, none⟩ (.int .u64 q2)).setCell ⟨g, 9, none⟩ (.slice q3 q4 q5)).alloc (.cells #[.int .i64 q0, .int .u64 q1, .int .u64 q2, .slice q3 q4 q5] 70)) := ⟨_, rfl⟩
   have hgW : W.heap[g]? = some (.cells (pc t q0 q1 q2 q3 q4 q5 (.slice none 0 0)) 73 (0, 0)) := by
    rw [hW, ai _ _ _ (by simp; omega)]
    exact ae (ae (ae (ae HB.out.2.2 rfl) rfl) rfl) (by simp [pc])
   have hRW : Rg g w W := by
    rw [hW]
    exact ((((((Rg.of_below HB.out.1).setCell 6 _).setCell 7 _).setCell 8 _).setCell 9 _)).trans (Rg.of_below (br.alloc nl _))
   have hpW : ax W (fun b => w.heap.size ≤ b ∧ b < W.heap.size) true ((bU x).getD .zero) (.agg #[.int .i64 q0, .int .u64 q1, .int .u64 q2, .slice q3 q4 q5]) := by
    refine ax.keep (w := w1) (S := fun b => w.heap.size ≤ b) ?_ ?_ HB.out.2.1
    ·intro b hb hbl
     have hne' : b ≠ g := by omega
     rw [hW, ai _ _ _ (by simp; omega), Below.heap_setCell _ _ _ _ (by simpa using hne'), Below.heap_setCell _ _ _ _ (by simpa using hne'), Below.heap_setCell _ _ _ _ (by simpa using hne'), Below.heap_setCell _ _ _ _ (by simpa using hne')]
    ·intro b hbl hb
     have : w1.heap.size < W.heap.size := by rw [hW]; simp
     exact ⟨hb, by omega⟩
   rw [← hW]
   obtain ⟨base, hbase⟩ : ∃ base, base = W.heap.size := ⟨_, rfl⟩
   rw [← hbase] at hpW
   have lgW : g < base := by rw [hbase]; exact (Array.getElem?_eq_some_iff.1 hgW).1
   have lwW : w.heap.size ≤ base := by rw [hbase]; exact hRW.size
   have HW := hid (And.intro hgW (And.intro hRW (And.intro hpW hbase)))
   clear hW hgW hRW hpW hbase c6 c7 c8 c9 f6 f7 f8 f9
   go_loopw [27] (fun i wr => ∃ j : Nat, i = .int .i64 j ∧ EaR g base t m q0 q1 q2 q3 q4 q5 tl W j wr) (fun i _ => m - (intOf i).toNat)
   case atStart => exact ⟨0, rfl, ⟨by omega, ⟨[], .slice none 0 0, rfl, rfl, HW.out.1, World.ownsRow_nil _ _ _ _⟩, br, fun _ _ _ => rfl, by rw [HW.out.2.2.2]; exact Nat.le_refl _⟩⟩
   case round =>
    obtain ⟨j, rfl, hRel⟩ := hrel
    have hjm := hRel.le
    by_cases hlt2 : j < m
    ·exfalso; omega
    ·have hj2 : j = m := by omega
     subst hj2
     have HR := hid hRel
     clear hRel
     have hmt : tl.take j = tl := List.take_of_length_le (by have := HM.out; omega)
     cases hrt : bU x with
     | none =>
      have hc4 : cd = 40 := by rw [HCD.out, hrt]; rfl
      subst hc4
      have HRT := hid hrt
      clear hrt hmt
      go_wp2_with fail
      go_ret
      obtain ⟨es, sv, hes, hel, hgr, hown⟩ := HR.out.ex
      exact bD (HW.out.2.1.trans (HR.out.rg HW.out.2.2.2)) hgr (by rw [HC.out.2.2, HRT.out]; rfl)
     | some p =>
      have hc4 : cd = 0 := by rw [HCD.out, hrt]; rfl
      subst hc4
      have HRT := hid (And.intro hrt hmt)
      clear hrt hmt
      go_wp2_with fail
      go_ret
      obtain ⟨es, sv, hes, hel, hgr, hown⟩ := HR.out.ex
      rw [HRT.out.2] at hes
      have hpW := HW.out.2.2.1
      rw [HRT.out.1] at hpW
      refine gq ⟨5, t, 0, 0, 0, 0, p, es⟩ (HW.out.2.1.trans (HR.out.rg HW.out.2.2.2)) hgr (by rw [HC.out.2.2, HRT.out.1, hes]; rfl) ?_
      have hk : ax wr (fun b => w.heap.size ≤ b) true p (.agg #[.int .i64 q0, .int .u64 q1, .int .u64 q2, .slice q3 q4 q5]) := ax.keep (w := W) (fun b hb _ => HR.out.keep b hb.2 (by omega)) (fun b _ hb => hb.1) hpW
      have ho := Sl.of_owns hown (by omega)
      exact ⟨_, _, _, _, _, rfl, by dsimp only; omega, by dsimp only; omega, ⟨ht, by dsimp only; omega, by dsimp only; omega, by dsimp only; omega, by dsimp only; omega, hk.nums, (fZ.1 hes).2⟩, hk, by rw [← hel] at ho; exact ho.keep (by omega) (fun _ _ _ => rfl) (fun b _ hb => by have := hb.2; omega)⟩
  ·have hc1 : ¬ cap = 1 := by omega
   go_wp2_with fail
   obtain ⟨W, hW⟩ : ∃ W, W = (((((w1.setCell ⟨g, 6, none⟩ (.int .i64 q0)).setCell ⟨g, 7, none⟩ (.int .u64 q1)).setCell ⟨g, 8, none⟩ (.int .u64 q2)).setCell ⟨g, 9, none⟩ (.slice q3 q4 q5)).alloc (.cells #[.int .i64 q0, .int .u64 q1, .int .u64 q2, .slice q3 q4 q5] 70)) := ⟨_, rfl⟩
   have hgW : W.heap[g]? = some (.cells (pc t q0 q1 q2 q3 q4 q5 (.slice none 0 0)) 73 (0, 0)) := by
    rw [hW, ai _ _ _ (by simp; omega)]
    exact ae (ae (ae (ae HB.out.2.2 rfl) rfl) rfl) (by simp [pc])
   have hRW : Rg g w W := by
    rw [hW]
    exact ((((((Rg.of_below HB.out.1).setCell 6 _).setCell 7 _).setCell 8 _).setCell 9 _)).trans (Rg.of_below (br.alloc nl _))
   have hpW : ax W (fun b => w.heap.size ≤ b ∧ b < W.heap.size) true ((bU x).getD .zero) (.agg #[.int .i64 q0, .int .u64 q1, .int .u64 q2, .slice q3 q4 q5]) := by
    refine ax.keep (w := w1) (S := fun b => w.heap.size ≤ b) ?_ ?_ HB.out.2.1
    ·intro b hb hbl
     have hne' : b ≠ g := by omega
     rw [hW, ai _ _ _ (by simp; omega), Below.heap_setCell _ _ _ _ (by simpa using hne'), Below.heap_setCell _ _ _ _ (by simpa using hne'), Below.heap_setCell _ _ _ _ (by simpa using hne'), Below.heap_setCell _ _ _ _ (by simpa using hne')]
    ·intro b hbl hb
     have : w1.heap.size < W.heap.size := by rw [hW]; simp
     exact ⟨hb, by omega⟩
   rw [← hW]
   obtain ⟨base, hbase⟩ : ∃ base, base = W.heap.size := ⟨_, rfl⟩
   rw [← hbase] at hpW
   have lgW : g < base := by rw [hbase]; exact (Array.getElem?_eq_some_iff.1 hgW).1
   have lwW : w.heap.size ≤ base := by rw [hbase]; exact hRW.size
   have HW := hid (And.intro hgW (And.intro hRW (And.intro hpW hbase)))
   clear hW hgW hRW hpW hbase c6 c7 c8 c9 f6 f7 f8 f9
   go_loopw [27] (fun i wr => ∃ j : Nat, i = .int .i64 j ∧ EaR g base t m q0 q1 q2 q3 q4 q5 tl W j wr) (fun i _ => m - (intOf i).toNat)
   case atStart => exact ⟨0, rfl, ⟨by omega, ⟨[], .slice none 0 0, rfl, rfl, HW.out.1, World.ownsRow_nil _ _ _ _⟩, br, fun _ _ _ => rfl, by rw [HW.out.2.2.2]; exact Nat.le_refl _⟩⟩
   case round =>
    obtain ⟨j, rfl, hRel⟩ := hrel
    have hjm := hRel.le
    by_cases hlt2 : j < m
    ·have hj : j < tl.length := by have := HM.out; omega
     have hln := HC.out.2.1 j hj
     have hbw : bl < w.heap.size := World.block_lt_of_cell? w _ d0
     have hkb : wr.heap[bl]? = w.heap[bl]? := (hRel.keep bl (by omega) hne).trans (HW.out.2.1.keep bl hbw hne)
     have k0 : wr.cell? ⟨bl, off + 1 + j, none⟩ = some (.string ⟨tl[j].toArray⟩) := by rw [World.cell?_of_block (w := w) (a := ⟨bl, off + 1 + j, none⟩) hkb]; exact HC.out.1 j hj
     obtain ⟨es, sv, hes, hel, hgr, hown⟩ := hRel.ex
     obtain ⟨sa, sc, rfl⟩ := au hown
     have hsz := hRel.size
     have hbA : Below wr.heap.size wr (wr.alloc (.cells #[.int .u64 0, .int .u64 0, .int .u64 0, .bool false] 135)) := br.alloc nl _
     have hLr : Lq g wr := (HL.out.below (HW.out.2.1.below (by omega))).below hRel.bel
     have HE := hid (uM ⟨tl[j].toArray⟩ wr.heap.size 135 _ _ _ _ (wr.alloc (.cells #[.int .u64 0, .int .u64 0, .int .u64 0, .bool false] 135)) (by rw [← af]; simp; omega) (aa _ _ _ rfl) ((hLr.mono (by omega)).below hbA))
     have HR := hid (And.intro hes (And.intro hel (And.intro hgr (And.intro hown (And.intro hRel.bel (And.intro hRel.keep hLr))))))
     have HA := hid hbA
     clear hRel hes hel hgr hown hbA hLr hkb
     go_wp2_with fail
     refine HE.out.mono ?_
     rintro e w2 hS
     cases hen : jP tl[j] with
     | none =>
      obtain ⟨rfl, ⟨cs', h2⟩, hg2⟩ := hS.no (by rw [hen]; rfl)
      have hb2 : Below wr.heap.size wr w2 := HA.out.trans (hg2.below (by simp))
      have hEn := yo hj hen
      have HN := hid (And.intro hb2 hEn)
      clear hb2 hEn hen h2 hg2 hS
      go_wp2_with fail
      go_ret
      obtain ⟨hes, hel, hgr, hown, hbel, hkeep, hLr⟩ := HR.out
      have lgr : g < wr.heap.size := by omega
      refine bD ((HW.out.2.1.trans ⟨hbel.os, hbel.tape, hbel.output, hbel.size, fun b hl hn => hkeep b (by have := HW.out.2.2.2; omega) hn⟩).trans (Rg.of_below HN.out.1)) ((HN.out.1.block _ lgr).trans hgr) (by rw [HC.out.2.2, HN.out.2]; cases bU x <;> rfl)
     | some en =>
      obtain ⟨rfl, h2, hg2⟩ := hS.yes (c := jI en) (by rw [hen]; rfl)
      have hb2 : Below wr.heap.size wr w2 := HA.out.trans (hg2.below (by simp))
      have hz2 := hb2.size
      have lx2 : wr.heap.size < w2.heap.size := (Array.getElem?_eq_some_iff.1 h2).1
      have hZ0 : EaZ g wr.heap.size base j t q0 q1 q2 q3 q4 q5 sa sc es en w2 0 (fun _ => undef) w2.drew := by
       obtain ⟨hes, hel, hgr, hown, hbel, hkeep, hLr⟩ := HR.out
       exact ⟨⟨br.drew, fun _ _ _ => rfl, Nat.le_refl _⟩, fun _ => (hb2.block _ (by omega)).trans hgr, fun _ => ownsRow_below hown (hb2.trans br.drew) nl, fun _ => h2, (fun h => by omega), (fun h => by omega), (fun h => by omega)⟩
      have HZ0 := hid hZ0
      have HB2 := hid (And.intro hb2 hen)
      clear hZ0 hb2 h2 hg2 hS hen
      go_wp2_with fail
      refine aD (w0 := w2) rfl [.eq (.pointer (some ⟨g, 0, none⟩)), .eq (.pointer (some ⟨g, 0, none⟩)), .eq (.pointer (some ⟨g, 0, none⟩)), .eq (.pointer (some ⟨g, 10, none⟩)), .eq (.slice sa j sc), .eq (.agg #[.int .u64 (en.x : Nat), .int .u64 (en.w : Nat), .int .u64 (en.n : Nat), .bool en.m]), .wr, .wr, .eq (.pointer (some ⟨g, 0, none⟩)), .eq (.pointer (some ⟨g, 10, none⟩)), .wr] (EaZ g wr.heap.size base j t q0 q1 q2 q3 q4 q5 sa sc es en w2) (by kernel_rfl) (⟨fun _ => undef, HZ0.out⟩) ⟨?_, ?_, ?_, ?_, ?_, ?_, ?_, ?_, ?_, ?_, ?_, trivial⟩ (fun vs => [(34, .pointer (some ⟨g, 0, none⟩)), (35, .pointer (some ⟨g, 0, none⟩)), (36, .pointer (some ⟨g, 0, none⟩)), (37, .pointer (some ⟨g, 10, none⟩)), (38, .slice sa j sc), (39, .agg #[.int .u64 (en.x : Nat), .int .u64 (en.w : Nat), .int .u64 (en.n : Nat), .bool en.m]), (40, vs 6), (41, vs 7), (42, .pointer (some ⟨g, 0, none⟩)), (43, .pointer (some ⟨g, 10, none⟩))]) (fun _ => rfl) 3 (by kernel_rfl) ?_
      ·refine cp fun t vs ac wx K Q hR hZ hK => ?_
       have t1 : ac.tmps[1]? = some (.pointer (some ⟨g, 0, none⟩)) := hR.o 1
       go_simp
       exact hK _ hZ
      ·refine cp fun t vs ac wx K Q hR hZ hK => ?_
       have t1 : ac.tmps[1]? = some (.pointer (some ⟨g, 0, none⟩)) := hR.o 1
       go_simp
       exact hK _ hZ
      ·refine cp fun t vs ac wx K Q hR hZ hK => ?_
       have t35 := hR.q 1
       go_simp
       exact hK _ hZ
      ·refine cp fun t vs ac wx K Q hR hZ hK => ?_
       have t36 := hR.q 2
       go_simp
       exact hK _ hZ
      ·refine cp fun t vs ac wx K Q hR hZ hK => ?_
       have t37 := hR.q 3
       have y0 := (hZ.c10 (by have h : t ≤ 1 := hR.hi 7 .wr rfl rfl (by kernel_rfl); omega)).1
       go_simp
       exact hK _ hZ
      ·refine cp fun t vs ac wx K Q hR hZ hK => ?_
       have t9 : ac.tmps[9]? = some (.pointer (some ⟨wr.heap.size, 0, none⟩)) := hR.o 9
       obtain ⟨y0, y1, y2, y3⟩ := hZ.xs (by have h : t ≤ 0 := hR.hi 6 .wr rfl rfl (by kernel_rfl); omega)
       go_simp
       exact hK _ hZ
      ·refine cw fun vs ac wx K Q hR hZ hK => ?_
       have t39 := hR.q 5
       go_simp
       refine hK _ _ nofun ⟨⟨hZ.rg.1.alloc (by have := hZ.rg.2.2; omega) _, fun b hb hn => (ai _ _ _ (by have := hZ.rg.2.2; omega)).trans (hZ.rg.2.1 b hb hn), by have := hZ.rg.2.2; simp; omega⟩, fun _ => (ai _ _ _ (Array.getElem?_eq_some_iff.1 (hZ.old (by omega))).1).trans (hZ.old (by omega)), fun _ => (hZ.own (by omega)).alloc _, (fun h => by omega), fun _ => ⟨_, upd_self _ _ _, aa _ _ _ rfl⟩, (fun h => by omega), (fun h => by omega)⟩
      ·refine cw fun vs ac wx K Q hR hZ hK => ?_
       have t38 := hR.q 4
       have t40 := hR.w 6
       obtain ⟨bb, ev, hbb⟩ := hZ.one rfl
       rw [ev] at t40
       obtain ⟨hi0, hz0, hz1, hz2⟩ := HI.out
       have hob := (hZ.own (by omega)).lt
       have hrz := hZ.rg.2.2
       have hol := hZ.old (by omega)
       have hgl := (Array.getElem?_eq_some_iff.1 hol).1
       refine wp_append_lies wx (.tmp 38) (.tmp 40) 71 rfl base 135 i0 _ 4 32 Tryz.underlying71 hi0 hz0 hz1 hz2 rfl (by omega) (.slice sa j sc) j (aN es) (fo t38) (hZ.own (by omega)) ⟨bb, 0, none⟩ 1 1 (jI en).toList (fo t40) rfl (World.news_of_block hbb) (by simp [jI, Ent.cells, Value.oneCell']) (by omega) (by unfold maxLen; omega) (by omega) (by omega) wx.heap.size rfl ?_
       intro gg gcap w3 hown2 hgrow hat hlt3
       rw [← qA] at hown2
       have hne2 : ∀ b, b < base → some b ≠ (Value.slice sa j sc).ownBlock := fun b hb e => by have := hob b e.symm; omega
       refine hK _ _ nofun ⟨⟨Below.grown2 hZ.rg.1 hgrow (fun k hk => (hob k hk).1) (by omega) (by omega), fun b hb hn => (iw hgrow (by omega) (hne2 b hb)).trans (hZ.rg.2.1 b hb hn), by have := hgrow.size; omega⟩, fun _ => (iw hgrow hgl (hne2 g (by omega))).trans hol, (fun h => by omega), (fun h => by omega), (fun h => by omega), fun _ => ⟨gg, gcap, upd_self _ _ _, hown2⟩, (fun h => by omega)⟩
      ·refine cp fun t vs ac wx K Q hR hZ hK => ?_
       have t34 := hR.q 0
       go_simp
       exact hK _ hZ
      ·refine cp fun t vs ac wx K Q hR hZ hK => ?_
       have t42 := hR.q 8
       go_simp
       exact hK _ hZ
      ·refine cw fun vs ac wx K Q hR hZ hK => ?_
       have t43 := hR.q 9
       have t41 := hR.w 7
       obtain ⟨gg, gcap, ev, ho⟩ := hZ.two (by omega)
       rw [ev] at t41
       obtain ⟨c5, f5⟩ := hZ.c10 (by omega)
       have hol := hZ.old (by omega)
       have HO := hid (And.intro ev (And.intro ho hol))
       clear ev ho hol
       go_simp
       obtain ⟨ev, ho, hol⟩ := HO.out
       refine hK undef _ nofun ⟨⟨hZ.rg.1.setCell (by simp) _, fun b hb hn => (Below.heap_setCell _ _ _ _ (by simpa using hn)).trans (hZ.rg.2.1 b hb hn), by have := hZ.rg.2.2; simp; omega⟩, (fun h => by omega), (fun h => by omega), (fun h => by omega), (fun h => by omega), fun _ => ⟨gg, gcap, (upd_ne _ _ (by omega)).trans ev, ownsRow_setCell_below ho (by simp; omega) _⟩, fun _ => ?_⟩
       rw [upd_ne _ _ (by omega), ev]; exact ae hol (by simp [pc])
      intro vs wN hZ
      simp only [aH, List.foldl_cons, List.foldl_nil]
      have HZ := hid hZ
      obtain ⟨gg, gcap, ev, ho⟩ := hZ.two (by omega)
      rw [ev]
      clear hZ ev ho
      generalize vs 6 = v6
      go_simp
      go_wp2_with fail
      go_roundw
      case rel =>
       obtain ⟨hes, hel, hgr, hown, hbel, hkeep, hLr⟩ := HR.out
       obtain ⟨gg2, gcap2, ev, ho⟩ := HZ.out.two (by omega)
       have hnew := HZ.out.new (by omega)
       rw [ev] at hnew
       obtain ⟨hb2, hen⟩ := HB2.out
       refine ⟨j + 1, by go_num, ⟨by omega, ⟨es ++ [en], _, by rw [lG hj, hes, hen]; rfl, by simp [hel], hnew, ho⟩, hbel.trans ((hb2.mono (by omega)).trans HZ.out.rg.1), fun b hb hn => (HZ.out.rg.2.1 b hb hn).trans ((hb2.block b (by omega)).trans (hkeep b hb hn)), by have := HZ.out.rg.2.2; omega⟩⟩
      case measure => simp [intOf]; omega
    ·have hj2 : j = m := by omega
     subst hj2
     have HR := hid hRel
     clear hRel
     have hmt : tl.take j = tl := List.take_of_length_le (by have := HM.out; omega)
     cases hrt : bU x with
     | none =>
      have hc4 : cd = 40 := by rw [HCD.out, hrt]; rfl
      subst hc4
      have HRT := hid hrt
      clear hrt hmt
      go_wp2_with fail
      go_ret
      obtain ⟨es, sv, hes, hel, hgr, hown⟩ := HR.out.ex
      exact bD (HW.out.2.1.trans (HR.out.rg HW.out.2.2.2)) hgr (by rw [HC.out.2.2, HRT.out]; rfl)
     | some p =>
      have hc4 : cd = 0 := by rw [HCD.out, hrt]; rfl
      subst hc4
      have HRT := hid (And.intro hrt hmt)
      clear hrt hmt
      go_wp2_with fail
      go_ret
      obtain ⟨es, sv, hes, hel, hgr, hown⟩ := HR.out.ex
      rw [HRT.out.2] at hes
      have hpW := HW.out.2.2.1
      rw [HRT.out.1] at hpW
      refine gq ⟨5, t, 0, 0, 0, 0, p, es⟩ (HW.out.2.1.trans (HR.out.rg HW.out.2.2.2)) hgr (by rw [HC.out.2.2, HRT.out.1, hes]; rfl) ?_
      have hk : ax wr (fun b => w.heap.size ≤ b) true p (.agg #[.int .i64 q0, .int .u64 q1, .int .u64 q2, .slice q3 q4 q5]) := ax.keep (w := W) (fun b hb _ => HR.out.keep b hb.2 (by omega)) (fun b _ hb => hb.1) hpW
      have ho := Sl.of_owns hown (by omega)
      exact ⟨_, _, _, _, _, rfl, by dsimp only; omega, by dsimp only; omega, ⟨ht, by dsimp only; omega, by dsimp only; omega, by dsimp only; omega, by dsimp only; omega, hk.nums, (fZ.1 hes).2⟩, hk, by rw [← hel] at ho; exact ho.keep (by omega) (fun _ _ _ => rfl) (fun b _ hb => by have := hb.2; omega)⟩
end Go.Proofs.YtlpgokcapdjgjaaGreatDoor
