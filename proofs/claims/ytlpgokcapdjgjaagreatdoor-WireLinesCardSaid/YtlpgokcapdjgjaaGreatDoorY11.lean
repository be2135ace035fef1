/- Walks. -/
import Derived.Test.YtlpgokcapdjgjaaGreatDoorY38
import Derived.Test.YtlpgokcapdjgjaaGreatDoorY13
import Derived.Test.YtlpgokcapdjgjaaGreatDoorY18
set_option maxHeartbeats 4000000
set_option maxRecDepth 100000
namespace Go.Proofs.YtlpgokcapdjgjaaGreatDoor
open Go.RowKit Go
set_option linter.unusedVariables false
set_option linter.unusedSimpArgs false
def eH (o : Option (Ex × List UInt8)) (n : Nat) (w : World) (e : Ending) (w' : World) : Prop :=
 ∃ (t : Ex) (v : Value) (r : ByteArray) (ok : Bool), e = .returned (.tuple #[v, .string r, .bool ok]) ∧ ax w' (fun b => w.heap.size ≤ b) true t v ∧ (ok = true → o = some (t, r.data.toList)) ∧ (ok = false → o = none) ∧ r.size ≤ n ∧ Below w.heap.size w w'
theorem oI (c : UInt8) (r : ByteArray) (h : 0 < r.size) : pre [c] r.data.toList = decide (r[0] = c) := by
 obtain ⟨⟨l⟩⟩ := r
 cases l with
 | nil => exact absurd h (by decide)
 | cons d l =>
  have e : (ByteArray.mk (d :: l).toArray)[0] = d := rfl
  rw [e]
  simp only [pre, List.isPrefixOf, Bool.and_true]
  by_cases hc : d = c
  ·subst hc; simp
  ·simp [hc, Ne.symm hc]
theorem dN {W W' : World} {base : Nat} {T : TypeId} {sv : Value} {es : List Ex} {S : Nat → Prop} {k : Int} (hm : Making W base T sv es) (hK : dz (fun b => base ≤ b) W W') (hS : ∀ b, base ≤ b → S b)
  (hk1 : -9223372036854775808 ≤ k) (hk2 : k ≤ 9223372036854775807) : ax W' S true (.mk k 0 0 es) (.agg #[.int .i64 k, .int .u64 0, .int .u64 0, sv]) := by
 obtain ⟨zs, h1, h2⟩ := hm.sl
 simp only [ax]
 exact ⟨_, zs, rfl, hk1, hk2, by omega, by omega, h1.keep (by omega) hK (fun b _ h => hS b h), az.keep hK (fun b _ h => hS b h) h2⟩
theorem pq {w wr w1 w2 : World} {T : TypeId} {sa : Option Addr} {sc gg gcap : Nat} {es : List Ex} {t : Ex} {k : Int} {q0 : Int} {q1 q2 : Nat} {q3 : Option Addr} {q4 q5 : Nat} {o o' : Obj} {ys : List Value} {zs : Array Value}
  (hm : wr.ownsRow (w.heap.size + 2) T 4 (.slice sa es.length sc) es.length ys ∧ az wr (fun b => w.heap.size + 2 ≤ b ∧ (Value.slice sa es.length sc).ownBlock ≠ some b) true es ys)
  (hh : wr.heap[w.heap.size]? = some (.cells #[.int .i64 k, .int .u64 0, .int .u64 0, .slice sa es.length sc] T (0, 0)) ∧ wr.heap[w.heap.size + 1]? = some (.cells zs T (0, 0)))
  (hv : ax w1 (fun b => wr.heap.size ≤ b) true t (.agg #[.int .i64 q0, .int .u64 q1, .int .u64 q2, .slice q3 q4 q5])) (hb1 : Below wr.heap.size wr w1) (hbel : Below w.heap.size w wr)
  (hgrow : ((w1.alloc o).alloc o').grownBy w2 (Value.slice sa es.length sc).ownBlock)
  (hown2 : w2.ownsRow (w.heap.size + 2) T 4 (.slice (some ⟨gg, 0, none⟩) (es.length + 1) gcap) (es.length + 1) (ys ++ [.int .i64 q0, .int .u64 q1, .int .u64 q2, .slice q3 q4 q5]))
  (hat : (Value.slice sa es.length sc).ownBlock = some gg ∨ gg = w1.heap.size + 1 + 1) :
  Making (w2.setCell ⟨w.heap.size, 3, none⟩ (.slice (some ⟨gg, 0, none⟩) (es.length + 1) gcap)) (w.heap.size + 2) T (.slice (some ⟨gg, 0, none⟩) (es.length + 1) gcap) (es ++ [t]) ∧
  Below w.heap.size w (w2.setCell ⟨w.heap.size, 3, none⟩ (.slice (some ⟨gg, 0, none⟩) (es.length + 1) gcap)) ∧
  (w2.setCell ⟨w.heap.size, 3, none⟩ (.slice (some ⟨gg, 0, none⟩) (es.length + 1) gcap)).heap[w.heap.size]? = some (.cells #[.int .i64 k, .int .u64 0, .int .u64 0, .slice (some ⟨gg, 0, none⟩) (es.length + 1) gcap] T (0, 0)) ∧
  (w2.setCell ⟨w.heap.size, 3, none⟩ (.slice (some ⟨gg, 0, none⟩) (es.length + 1) gcap)).heap[w.heap.size + 1]? = some (.cells zs T (0, 0)) := by
 have hs2 : w.heap.size + 1 < wr.heap.size := (Array.getElem?_eq_some_iff.1 hh.2).1
 have hob := hm.1.lt
 have hba : Below wr.heap.size wr (w1.alloc o) := hb1.alloc (by have := hb1.size; omega) _
 have hvv : ax (w1.alloc o) (fun b => wr.heap.size ≤ b) true t (.agg #[.int .i64 q0, .int .u64 q1, .int .u64 q2, .slice q3 q4 q5]) := hv.below ((Below.refl w1.heap.size w1).alloc nl _) nl
 have hs1 := hb1.size
 have far : ∀ b, b < wr.heap.size → b < w.heap.size + 2 → w2.heap[b]? = wr.heap[b]? := fun b hb hb2 => lL hba hb hb hgrow (fun e => by have := (hob _ e.symm).1; omega)
 refine ⟨(Making.push hm.1 hm.2 (by omega) hba nl hvv hgrow hown2 (by simpa using hat)).setCell _ (by simp) _, ?_, ?_, ?_⟩
 ·exact (Below.grown' (base := w.heap.size + 2) (hbel.trans (hba.mono (by omega))) hgrow (fun k hk => ⟨(hob k hk).1, by have := (hob k hk).2; simp; omega⟩) (by simp; omega) (by omega)).setCell (by simp) _
 ·exact ae ((far _ (by omega) (by omega)).trans hh.1) (by simp)
 ·rw [Below.heap_setCell _ _ _ _ (by simp)]; exact (far _ (by omega) (by omega)).trans hh.2
theorem row_of (d : Nat) (hd : d ≤ 100) (IH : Hid (∀ (s : ByteArray) (w : World), s.size ≤ 1000 → Calls Tryz.prog 93 #[.string s, .int .i64 d] w (eH (rfE d s.data.toList) s.size w)))
  (k : Int) (hk1 : -9223372036854775808 ≤ k) (hk2 : k ≤ 9223372036854775807) (s : ByteArray) (w : World) (hs : s.size ≤ 1000) :
  Calls Tryz.prog 136 #[.agg #[.int .i64 k, .int .u64 0, .int .u64 0, .slice none 0 0], .string s, .int .i64 ((d : Int) + 1)] w (eH ((bq (rfE d) s.data.toList).map fun x => (.mk k 0 0 x.1, x.2)) s.size w) := by
 obtain ⟨i0, hi0, hz0, hz1, hz2⟩ := info_parts zk
 have hsl := af s
 by_cases h0 : pre [41] s.data.toList = true
 ·have H0 := hid h0
  clear h0
  go_enter Tryz.func136, Tryz.ntmps136
  go_wp2_with fail
  refine (bS s _ _ (by omega) (by decide)).mono ?_
  rintro e w1 ⟨rfl, rfl⟩
  have h0 := H0.out
  unfold pre at h0
  rw [h0]
  clear h0
  have hs1 : 1 ≤ s.size := by have := aL H0.out; simp at this; omega
  go_wp2_with fail
  go_region
  go_wp2_with fail
  refine bodyPost_ret (v := .tuple #[.agg #[.int .i64 k, .int .u64 0, .int .u64 0, .slice none 0 0], .string (s.extract 1 s.size), .bool true])
   (aC rfl _ _ (w.heap.size + 1) 62 #[.int .i64 k, .int .u64 0, .int .u64 0, .slice none 0 0] (0, 0) _ _ _ rfl (by show ((w.alloc _).alloc _).heap[_]? = _; exact aa _ _ _ (by simp)) Tryz.underlying62 rfl (by kernel_rfl) rfl rfl) rfl ?_
  refine ⟨.mk k 0 0 [], _, _, _, rfl, ?_, fun _ => ?_, (fun h => by cases h), by simp, ((br.alloc nl _).alloc (by simp) _).drew⟩
  ·simp only [ax]
   exact ⟨_, [], rfl, hk1, hk2, by omega, by omega, Sl.nil _ _ _ _, by simp [az]⟩
  ·rw [bq, if_pos H0.out, aT]
   simp only [Option.map_some, Option.some.injEq, Prod.mk.injEq, true_and]
   rw [List.take_of_length_le (by simp)]
 ·have hnp : pre [41] s.data.toList = false := by simpa using h0
  have HQ0 : Hid (bq (rfE d) s.data.toList = bT (rfE d) (s.size + 1) s.data.toList) := hid (by rw [bq, if_neg (by rw [hnp]; simp), af])
  have H0 := hid hnp
  clear h0 hnp
  go_enter Tryz.func136, Tryz.ntmps136
  go_wp2_with fail
  refine (bS s _ _ (by omega) (by decide)).mono ?_
  rintro e w1 ⟨rfl, hw1⟩
  have h0 := H0.out
  unfold pre at h0
  rw [h0]
  clear h0
  go_wp2_with fail
  subst hw1
  go_loopw [1] (fun sv1 wr => ∃ (s' : ByteArray) (es : List Ex) (sv : Value), sv1 = .string s' ∧ es.length + s'.size ≤ s.size ∧
    Hid (bq (rfE d) s.data.toList = (bT (rfE d) (s'.size + 1) s'.data.toList).map fun x => (es ++ x.1, x.2)) ∧ Below w.heap.size w wr ∧
    wr.heap[w.heap.size]? = some (.cells #[.int .i64 k, .int .u64 0, .int .u64 0, sv] 62 (0, 0)) ∧
    wr.heap[w.heap.size + 1]? = some (.cells #[.int .i64 0, .int .u64 0, .int .u64 0, .slice none 0 0] 62 (0, 0)) ∧
    Making wr (w.heap.size + 2) 62 sv es) (fun sv1 _ => (match sv1 with | .string s' => s'.size | _ => 0))
  case atStart =>
   refine ⟨s, [], .slice none 0 0, rfl, by simp, hid (by rw [HQ0.out]; simp), ((br.alloc nl _).alloc (by simp) _), ?_, aa _ _ _ (by simp), Making.nil _ _ _⟩
   rw [ai _ _ _ (by simp)]; exact aa _ _ _ rfl
  case round =>
   obtain ⟨s', es, sv, rfl, hlen, hq, hbel, hh0, hh1, ys, hown, hey⟩ := hrel
   obtain ⟨sa, sc, rfl⟩ := au hown
   have hob := hown.lt
   have hs2 : w.heap.size + 1 < wr.heap.size := (Array.getElem?_eq_some_iff.1 hh1).1
   have HM := hid (And.intro hown hey)
   have HH := hid (And.intro hh0 hh1)
   clear hh0 hh1 hown hey
   go_wp2_with fail
   refine (IH.out s' _ (by omega)).mono ?_
   rintro e w1 ⟨t, v, r, ok, rfl, hv, hok1, hok2, hrs, hb1⟩
   obtain ⟨q0, q1, q2, q3, q4, q5, rfl⟩ := hv.conc
   have hsz1 := hb1.size
   have hB1 : Below w.heap.size w w1 := hbel.trans (hb1.mono (by omega))
   have hx0 : w1.heap[w.heap.size]? = some (.cells #[.int .i64 k, .int .u64 0, .int .u64 0, .slice sa es.length sc] 62 (0, 0)) := (hb1.block _ (by omega)).trans HH.out.1
   have hx1 : w1.heap[w.heap.size + 1]? = some (.cells #[.int .i64 0, .int .u64 0, .int .u64 0, .slice none 0 0] 62 (0, 0)) := (hb1.block _ (by omega)).trans HH.out.2
   have c0 : ∀ o, w1.cell? ⟨w.heap.size, o, none⟩ = #[.int .i64 k, .int .u64 0, .int .u64 0, .slice sa es.length sc][o]? := fun o => cell_of_row w1 _ o _ _ _ hx0
   have HX := hid (And.intro hx0 hx1)
   clear hx0 hx1
   have HV := hid (And.intro hv (And.intro hok1 (And.intro hok2 (And.intro hb1 hB1))))
   clear hv hok1 hok2 hb1 hB1
   have hloop := hid (nO (rfE d) (oH d) s'.data.toList)
   cases ok with
   | false =>
    have l1 : w.heap.size < w1.heap.size := by omega
    have HY := hid ((ai w1 (.cells #[.int .i64 q0, .int .u64 q1, .int .u64 q2, .slice q3 q4 q5] 62) _ (by omega)).trans HX.out.2)
    go_wp2_with (refine wpList_store_row rfl 62 (.tmp 6) (.tmp 31) rfl rfl (w.heap.size + 1) rfl _ rfl 62 #[.int .i64 0, .int .u64 0, .int .u64 0, .slice none 0 0] HY.out (by kernel_rfl) rfl (by simp [Value.oneCell']) ?_)
    refine bodyPost_ret (v := .tuple #[.agg #[.int .i64 k, .int .u64 0, .int .u64 0, .slice sa es.length sc], .string s', .bool false])
     (aC rfl _ _ (w.heap.size + 1) 62 _ _ _ _ _ rfl (setRow_heap _ _ _ _ _ _ HY.out) Tryz.underlying62 rfl (by kernel_rfl) rfl rfl) rfl ?_
    obtain ⟨hv, hok1, hok2, hb1, hB1⟩ := HV.out
    refine ⟨.mk k 0 0 es, _, _, _, rfl, dN (W := wr) ⟨ys, HM.out.1, HM.out.2⟩ (fun b hb hbl => ?_) (fun b hb => by omega) hk1 hk2, (fun h => by cases h), fun _ => ?_, by omega, below_setRow (hB1.alloc (by omega) _) _ _ (by omega)⟩
    ·rw [setRow_other _ _ _ _ (by omega), ai _ _ _ (by omega), hb1.block _ hbl]
    ·rw [hq.out, ← af, hloop.out, hok2 (by trivial)]; rfl
   | true =>
    obtain ⟨hv, hok1, hok2, hb1, hB1⟩ := HV.out
    have hrf := hok1 rfl
    have hrl := oH _ _ _ _ hrf
    rw [af, af] at hrl
    have HRF := hid hrf
    clear hv hok1 hok2 hb1 hB1 hrf
    have l1 : w.heap.size < w1.heap.size := by omega
    by_cases hr0 : 0 < r.size
    ·have hrt : r.toList.isEmpty = false := by
      rw [ByteArray.toList_eq]
      cases h : r.data.toList with
      | nil => have := af r; rw [h] at this; simp at this; omega
      | cons _ _ => rfl
     have hrt2 : ¬ r.toList = [] := by
      intro h; rw [h] at hrt; cases hrt
     have hp41 := hid (oI 41 r hr0)
     have hp44 := hid (oI 44 r hr0)
     have hxt : (r.extract 1 r.size).data.toList = r.data.toList.drop 1 := by rw [aT, List.take_of_length_le (by simp)]
     have HXT := hid hxt
     have hes : es.length + 1 ≤ 1001 := by omega
     clear hxt hrt2
     by_cases b41 : r[0] = 41
     ·have t41 : ((r[0].toNat : Int) == 41) = true := by rw [b41]; rfl
      have HB := hid b41
      clear b41
      go_wp2_with (first
       | (at_builtin; go_loud (refine wpList_append_lies _ rfl (.tmp 34) (.tmp 36) 60 rfl (w.heap.size + 2) 62 i0 _ 4 48 Tryz.underlying60 hi0 hz0 hz1 hz2 rfl (by omega) (.slice sa es.length sc) es.length ys rfl (((ownsRow_below HM.out.1 HV.out.2.2.2.1 nl).alloc _).alloc _) ⟨w1.heap.size + 1, 0, none⟩ 1 1 [.int .i64 q0, .int .u64 q1, .int .u64 q2, .slice q3 q4 q5] rfl rfl (World.news_of_block (cs := #[.int .i64 q0, .int .u64 q1, .int .u64 q2, .slice q3 q4 q5]) (t := 62) (fr := (0, 0)) (aa _ _ _ (by simp))) (by simp [Value.oneCell']) (by omega) (by unfold maxLen; omega) (by omega) (by simp; omega) (w1.heap.size + 1 + 1) (by simp) ?_); intro gg gcap w2 hown2 hgrow hat hlt2
          go_loud (have hne : some w.heap.size ≠ (Value.slice sa es.length sc).ownBlock := fun e => (by have := hob _ e.symm; omega))
          go_loud (have c5 : w2.cell? ⟨w.heap.size, 3, none⟩ = some (.slice sa es.length sc) := (by rw [hgrow.cell_far _ (by simp; omega) hne, World.cell?_alloc_past _ _ _ (by simp; omega), World.cell?_alloc_past _ _ _ (by omega)]; exact c0 3))
          go_loud (have c6 : ∀ o, o < 3 → w2.cell? ⟨w.heap.size, o, none⟩ = w1.cell? ⟨w.heap.size, o, none⟩ := (by intro o ho; rw [hgrow.cell_far _ (by simp; omega) hne, World.cell?_alloc_past _ _ _ (by simp; omega), World.cell?_alloc_past _ _ _ (by omega)]))
          go_loud (have f5 : w2.frozen? ⟨w.heap.size, 3, none⟩ = false := (by rw [hgrow.frozen_far _ (by simp; omega) hne, World.frozen?_alloc_past _ _ _ (by simp; omega), World.frozen?_alloc_past _ _ _ (by omega), frozen_of_row w1 _ 3 _ _ HX.out.1]))
          have HP := hid (pq (T := 62) HM.out HH.out HV.out.1 HV.out.2.2.2.1 hbel hgrow hown2 hat))
       | (refine wpList_store_row rfl 62 (.tmp 6) (.tmp 44) rfl rfl (w.heap.size + 1) rfl _ rfl 62 #[.int .i64 0, .int .u64 0, .int .u64 0, .slice none 0 0] HP.out.2.2.2 (by kernel_rfl) rfl (by simp [Value.oneCell']) ?_))
      refine bodyPost_ret (v := .tuple #[.agg #[.int .i64 k, .int .u64 0, .int .u64 0, .slice (some ⟨gg, 0, none⟩) (es.length + 1) gcap], .string (r.extract 1 r.size), .bool true])
       (aC rfl _ _ (w.heap.size + 1) 62 _ _ _ _ _ rfl (setRow_heap _ _ _ _ _ _ HP.out.2.2.2) Tryz.underlying62 rfl (by kernel_rfl) rfl rfl) rfl ?_
      refine ⟨.mk k 0 0 (es ++ [t]), _, _, _, rfl, dN HP.out.1 (fun b hb hbl => setRow_other _ _ _ _ (by omega)) (fun b hb => by omega) hk1 hk2, fun _ => ?_, (fun h => by cases h), by simp; omega, below_setRow HP.out.2.1 _ _ (by omega)⟩
      rw [hq.out, ← af, hloop.out, HRF.out]
      simp only [hp41.out, HB.out, decide_true, if_true, Option.map_some, HXT.out]
     ·have t41 : ((r[0].toNat : Int) == 41) = false := by simp; intro h; exact b41 (UInt8.toNat_inj.1 (by simp; omega))
      have HB := hid b41
      clear b41
      by_cases b44 : r[0] = 44
      ·have t44 : ((r[0].toNat : Int) != 44) = false := by rw [b44]; rfl
       have HB4 := hid b44
       clear b44
       go_wp2_with (first
        | (at_builtin; go_loud (refine wpList_append_lies _ rfl (.tmp 34) (.tmp 36) 60 rfl (w.heap.size + 2) 62 i0 _ 4 48 Tryz.underlying60 hi0 hz0 hz1 hz2 rfl (by omega) (.slice sa es.length sc) es.length ys rfl (((ownsRow_below HM.out.1 HV.out.2.2.2.1 nl).alloc _).alloc _) ⟨w1.heap.size + 1, 0, none⟩ 1 1 [.int .i64 q0, .int .u64 q1, .int .u64 q2, .slice q3 q4 q5] rfl rfl (World.news_of_block (cs := #[.int .i64 q0, .int .u64 q1, .int .u64 q2, .slice q3 q4 q5]) (t := 62) (fr := (0, 0)) (aa _ _ _ (by simp))) (by simp [Value.oneCell']) (by omega) (by unfold maxLen; omega) (by omega) (by simp; omega) (w1.heap.size + 1 + 1) (by simp) ?_); intro gg gcap w2 hown2 hgrow hat hlt2
           go_loud (have hne : some w.heap.size ≠ (Value.slice sa es.length sc).ownBlock := fun e => (by have := hob _ e.symm; omega))
           go_loud (have c5 : w2.cell? ⟨w.heap.size, 3, none⟩ = some (.slice sa es.length sc) := (by rw [hgrow.cell_far _ (by simp; omega) hne, World.cell?_alloc_past _ _ _ (by simp; omega), World.cell?_alloc_past _ _ _ (by omega)]; exact c0 3))
           go_loud (have c6 : ∀ o, o < 3 → w2.cell? ⟨w.heap.size, o, none⟩ = w1.cell? ⟨w.heap.size, o, none⟩ := (by intro o ho; rw [hgrow.cell_far _ (by simp; omega) hne, World.cell?_alloc_past _ _ _ (by simp; omega), World.cell?_alloc_past _ _ _ (by omega)]))
           go_loud (have f5 : w2.frozen? ⟨w.heap.size, 3, none⟩ = false := (by rw [hgrow.frozen_far _ (by simp; omega) hne, World.frozen?_alloc_past _ _ _ (by simp; omega), World.frozen?_alloc_past _ _ _ (by omega), frozen_of_row w1 _ 3 _ _ HX.out.1]))
           have HP := hid (pq (T := 62) HM.out HH.out HV.out.1 HV.out.2.2.2.1 hbel hgrow hown2 hat)))
       go_roundw
       case rel =>
        refine ⟨r.extract 1 r.size, es ++ [t], _, rfl, by simp; omega, hid ?_, HP.out.2.1, HP.out.2.2.1, HP.out.2.2.2, by simpa [Making] using HP.out.1⟩
        rw [hq.out, ← af, hloop.out, HRF.out]
        simp only [hp41.out, hp44.out, HB4.out, show decide ((44 : UInt8) = 41) = false from by decide, decide_true, decide_false, if_true, if_false, Bool.false_eq_true, Option.map_map]
        rw [← HXT.out, af]
        congr 1
        funext x
        simp
       case measure => simp; omega
      ·have t44 : ((r[0].toNat : Int) != 44) = true := by simp; intro h; exact b44 (UInt8.toNat_inj.1 (by simp; omega))
       have HB4 := hid b44
       clear b44
       go_wp2_with (first
        | (at_builtin; go_loud (refine wpList_append_lies _ rfl (.tmp 34) (.tmp 36) 60 rfl (w.heap.size + 2) 62 i0 _ 4 48 Tryz.underlying60 hi0 hz0 hz1 hz2 rfl (by omega) (.slice sa es.length sc) es.length ys rfl (((ownsRow_below HM.out.1 HV.out.2.2.2.1 nl).alloc _).alloc _) ⟨w1.heap.size + 1, 0, none⟩ 1 1 [.int .i64 q0, .int .u64 q1, .int .u64 q2, .slice q3 q4 q5] rfl rfl (World.news_of_block (cs := #[.int .i64 q0, .int .u64 q1, .int .u64 q2, .slice q3 q4 q5]) (t := 62) (fr := (0, 0)) (aa _ _ _ (by simp))) (by simp [Value.oneCell']) (by omega) (by unfold maxLen; omega) (by omega) (by simp; omega) (w1.heap.size + 1 + 1) (by simp) ?_); intro gg gcap w2 hown2 hgrow hat hlt2
           go_loud (have hne : some w.heap.size ≠ (Value.slice sa es.length sc).ownBlock := fun e => (by have := hob _ e.symm; omega))
           go_loud (have c5 : w2.cell? ⟨w.heap.size, 3, none⟩ = some (.slice sa es.length sc) := (by rw [hgrow.cell_far _ (by simp; omega) hne, World.cell?_alloc_past _ _ _ (by simp; omega), World.cell?_alloc_past _ _ _ (by omega)]; exact c0 3))
           go_loud (have c6 : ∀ o, o < 3 → w2.cell? ⟨w.heap.size, o, none⟩ = w1.cell? ⟨w.heap.size, o, none⟩ := (by intro o ho; rw [hgrow.cell_far _ (by simp; omega) hne, World.cell?_alloc_past _ _ _ (by simp; omega), World.cell?_alloc_past _ _ _ (by omega)]))
           go_loud (have f5 : w2.frozen? ⟨w.heap.size, 3, none⟩ = false := (by rw [hgrow.frozen_far _ (by simp; omega) hne, World.frozen?_alloc_past _ _ _ (by simp; omega), World.frozen?_alloc_past _ _ _ (by omega), frozen_of_row w1 _ 3 _ _ HX.out.1]))
           have HP := hid (pq (T := 62) HM.out HH.out HV.out.1 HV.out.2.2.2.1 hbel hgrow hown2 hat))
        | (refine wpList_store_row rfl 62 (.tmp 6) (.tmp 49) rfl rfl (w.heap.size + 1) rfl _ rfl 62 #[.int .i64 0, .int .u64 0, .int .u64 0, .slice none 0 0] HP.out.2.2.2 (by kernel_rfl) rfl (by simp [Value.oneCell']) ?_))
       refine bodyPost_ret (v := .tuple #[.agg #[.int .i64 k, .int .u64 0, .int .u64 0, .slice (some ⟨gg, 0, none⟩) (es.length + 1) gcap], .string (r.extract 1 r.size), .bool false])
        (aC rfl _ _ (w.heap.size + 1) 62 _ _ _ _ _ rfl (setRow_heap _ _ _ _ _ _ HP.out.2.2.2) Tryz.underlying62 rfl (by kernel_rfl) rfl rfl) rfl ?_
       refine ⟨.mk k 0 0 (es ++ [t]), _, _, _, rfl, dN HP.out.1 (fun b hb hbl => setRow_other _ _ _ _ (by omega)) (fun b hb => by omega) hk1 hk2, (fun h => by cases h), fun _ => ?_, by simp; omega, below_setRow HP.out.2.1 _ _ (by omega)⟩
       rw [hq.out, ← af, hloop.out, HRF.out]
       simp [hp41.out, hp44.out, HB.out, HB4.out]
    ·have hre : r.data.toList = [] := List.eq_nil_of_length_eq_zero (by rw [af]; omega)
     have hrt : r.toList = [] := by rw [ByteArray.toList_eq]; exact hre
     have HRE := hid hre
     have HY := hid ((ai w1 (.cells #[.int .i64 q0, .int .u64 q1, .int .u64 q2, .slice q3 q4 q5] 62) _ (by omega)).trans HX.out.2)
     clear hre
     go_wp2_with (refine wpList_store_row rfl 62 (.tmp 6) (.tmp 31) rfl rfl (w.heap.size + 1) rfl _ rfl 62 #[.int .i64 0, .int .u64 0, .int .u64 0, .slice none 0 0] HY.out (by kernel_rfl) rfl (by simp [Value.oneCell']) ?_)
     refine bodyPost_ret (v := .tuple #[.agg #[.int .i64 k, .int .u64 0, .int .u64 0, .slice sa es.length sc], .string s', .bool false])
      (aC rfl _ _ (w.heap.size + 1) 62 _ _ _ _ _ rfl (setRow_heap _ _ _ _ _ _ HY.out) Tryz.underlying62 rfl (by kernel_rfl) rfl rfl) rfl ?_
     obtain ⟨hv, hok1, hok2, hb1, hB1⟩ := HV.out
     refine ⟨.mk k 0 0 es, _, _, _, rfl, dN (W := wr) ⟨ys, HM.out.1, HM.out.2⟩ (fun b hb hbl => ?_) (fun b hb => by omega) hk1 hk2, (fun h => by cases h), fun _ => ?_, by omega, below_setRow (hB1.alloc (by omega) _) _ _ (by omega)⟩
     ·rw [setRow_other _ _ _ _ (by omega), ai _ _ _ (by omega), hb1.block _ hbl]
     ·rw [hq.out, ← af, hloop.out, HRF.out, HRE.out]; rfl
theorem bO {W : World} {S : Nat → Prop} {k : Int} {a b : Nat} (hk1 : -9223372036854775808 ≤ k) (hk2 : k ≤ 9223372036854775807) (ha : a < 18446744073709551616) (hb : b < 18446744073709551616) : ax W S true (.mk k a b []) (.agg #[.int .i64 k, .int .u64 a, .int .u64 b, .slice none 0 0]) := by
 simp only [ax]
 exact ⟨_, [], rfl, hk1, hk2, ha, hb, Sl.nil _ _ _ _, by simp [az]⟩
theorem Bt (d : Nat) (hd : d ≤ 100) (s : ByteArray) (w : World) (hs : s.size ≤ 1000) (p1 : List.isPrefixOf [97, 108, 108] s.data.toList = true) :
  Calls Tryz.prog 93 #[.string s, .int .i64 ((d : Int) + 1)] w (eH (some (.mk 1 0 0 [], s.data.toList.drop 3)) s.size w) := by
 have hs1 : 3 ≤ s.size := by have := aL p1; rw [af] at this; simpa using this
 have t0 : (((d : Int) + 1) == 0) = false := by simp; omega
 go_enter Tryz.func93, Tryz.ntmps93
 go_wp2_with (go_at_call 134; refine (bS s _ _ (by omega) (by decide)).mono ?_; rintro e w1 ⟨rfl, rfl⟩)
 go_region
 go_wp2_with fail
 refine bodyPost_ret (v := .tuple #[.agg #[.int .i64 1, .int .u64 0, .int .u64 0, .slice none 0 0], .string (s.extract 3 s.size), .bool true])
  (aC rfl _ _ w.heap.size 62 #[.int .i64 1, .int .u64 0, .int .u64 0, .slice none 0 0] (0, 0) _ _ _ rfl (by show (w.alloc _).heap[_]? = _; exact aa _ _ _ rfl) Tryz.underlying62 rfl (by kernel_rfl) rfl rfl) rfl ?_
 refine ⟨.mk 1 0 0 [], _, _, _, rfl, bO (by omega) (by omega) (by omega) (by omega), fun _ => ?_, (fun h => by cases h), by simp, (br.alloc nl _).drew⟩
 rw [aT, List.take_of_length_le (by simp)]
theorem Ee (d : Nat) (hd : d ≤ 100) (s : ByteArray) (w : World) (hs : s.size ≤ 1000) (p1 : List.isPrefixOf [97, 108, 108] s.data.toList = false) (p2 : List.isPrefixOf [120, 60, 61] s.data.toList = true) :
  Calls Tryz.prog 93 #[.string s, .int .i64 ((d : Int) + 1)] w (eH ((rdNum (s.data.toList.drop 3)).map fun x => (.mk 2 x.1 0 [], x.2)) s.size w) := by
 have hs1 : 3 ≤ s.size := by have := aL p2; rw [af] at this; simpa using this
 have hs0 : 0 < s.size := by omega
 have hx : s[0] = 120 := by
  have h2 : pre [120] s.data.toList = true := by
   unfold pre; rw [List.isPrefixOf_iff_prefix] at p2 ⊢
   exact (show ([120] : List UInt8) <+: [120, 60, 61] from ⟨[60, 61], rfl⟩).trans p2
  rw [oI _ _ hs0] at h2; simpa using h2
 have t0 : (((d : Int) + 1) == 0) = false := by simp; omega
 have t1 : ((s[0].toNat : Int) == 120) = true := by rw [hx]; rfl
 have he : (s.extract 3 s.size).data.toList = s.data.toList.drop 3 := by rw [aT, List.take_of_length_le (by simp)]
 have hel : (s.extract 3 s.size).size ≤ s.size - 3 := by rw [← af, he]; simp
 have HE := hid he
 clear hx he
 go_enter Tryz.func93, Tryz.ntmps93
 go_wp2_with (go_at_call 134; refine (bS s _ _ (by omega) (by decide)).mono ?_; rintro e w1 ⟨rfl, rfl⟩)
 refine (kI _ _ (by omega)).mono ?_
 rintro e w1 ⟨n, r, ok, rfl, hn, hok1, hok2, hr, hb⟩
 rw [HE.out] at hok1 hok2
 have HV := hid (And.intro hok1 (And.intro hok2 hb))
 have hh := (hb.block w.heap.size (by simp)).trans (aa w _ _ rfl)
 have hrl : r.size ≤ s.size := by rw [af] at hr; omega
 have HH := hid hh
 clear hok1 hok2 hb hh hr
 go_wp2_with (first
  | (refine wpList_store_row rfl 62 (.tmp 4) (.tmp 46) rfl rfl w.heap.size rfl _ rfl 62 _ HH.out (by kernel_rfl) rfl (by simp [Value.oneCell']) ?_))
 refine bodyPost_ret (v := .tuple #[.agg #[.int .i64 2, .int .u64 n, .int .u64 0, .slice none 0 0], .string r, .bool ok])
  (aC rfl _ _ w.heap.size 62 _ _ _ _ _ rfl (setRow_heap _ _ _ _ _ _ HH.out) Tryz.underlying62 rfl (by kernel_rfl) rfl rfl) rfl ?_
 obtain ⟨hok1, hok2, hb⟩ := HV.out
 refine ⟨.mk 2 n 0 [], _, _, _, rfl, bO (by omega) (by omega) hn (by omega), fun h => by rw [hok1 h]; rfl, fun h => by rw [hok2 h]; rfl, hrl, below_setRow ((br.alloc nl _).trans (hb.mono (by simp))) _ _ nl⟩
theorem Ef (d : Nat) (hd : d ≤ 100) (s : ByteArray) (w : World) (hs : s.size ≤ 1000) (p1 : List.isPrefixOf [97, 108, 108] s.data.toList = false) (p2 : List.isPrefixOf [120, 60, 61] s.data.toList = false) (p3 : List.isPrefixOf [118, 60, 61] s.data.toList = true) :
  Calls Tryz.prog 93 #[.string s, .int .i64 ((d : Int) + 1)] w (eH ((rdNum (s.data.toList.drop 3)).map fun x => (.mk 3 x.1 0 [], x.2)) s.size w) := by
 have hs1 : 3 ≤ s.size := by have := aL p3; rw [af] at this; simpa using this
 have hs0 : 0 < s.size := by omega
 have hx : s[0] = 118 := by
  have h2 : pre [118] s.data.toList = true := by
   unfold pre; rw [List.isPrefixOf_iff_prefix] at p3 ⊢
   exact (show ([118] : List UInt8) <+: [118, 60, 61] from ⟨[60, 61], rfl⟩).trans p3
  rw [oI _ _ hs0] at h2; simpa using h2
 have t0 : (((d : Int) + 1) == 0) = false := by simp; omega
 have t1 : ((s[0].toNat : Int) == 120) = false := by rw [hx]; rfl
 have he : (s.extract 3 s.size).data.toList = s.data.toList.drop 3 := by rw [aT, List.take_of_length_le (by simp)]
 have hel : (s.extract 3 s.size).size ≤ s.size - 3 := by rw [← af, he]; simp
 have HE := hid he
 clear hx he
 go_enter Tryz.func93, Tryz.ntmps93
 go_wp2_with (go_at_call 134; refine (bS s _ _ (by omega) (by decide)).mono ?_; rintro e w1 ⟨rfl, rfl⟩)
 refine (kI _ _ (by omega)).mono ?_
 rintro e w1 ⟨n, r, ok, rfl, hn, hok1, hok2, hr, hb⟩
 rw [HE.out] at hok1 hok2
 have HV := hid (And.intro hok1 (And.intro hok2 hb))
 have hh := (hb.block w.heap.size (by simp)).trans (aa w _ _ rfl)
 have hrl : r.size ≤ s.size := by rw [af] at hr; omega
 have HH := hid hh
 clear hok1 hok2 hb hh hr
 go_wp2_with (first
  | (refine wpList_store_row rfl 62 (.tmp 4) (.tmp 50) rfl rfl w.heap.size rfl _ rfl 62 _ HH.out (by kernel_rfl) rfl (by simp [Value.oneCell']) ?_))
 refine bodyPost_ret (v := .tuple #[.agg #[.int .i64 3, .int .u64 n, .int .u64 0, .slice none 0 0], .string r, .bool ok])
  (aC rfl _ _ w.heap.size 62 _ _ _ _ _ rfl (setRow_heap _ _ _ _ _ _ HH.out) Tryz.underlying62 rfl (by kernel_rfl) rfl rfl) rfl ?_
 obtain ⟨hok1, hok2, hb⟩ := HV.out
 refine ⟨.mk 3 n 0 [], _, _, _, rfl, bO (by omega) (by omega) hn (by omega), fun h => by rw [hok1 h]; rfl, fun h => by rw [hok2 h]; rfl, hrl, below_setRow ((br.alloc nl _).trans (hb.mono (by simp))) _ _ nl⟩
def pu (l : List UInt8) : Option (Ex × List UInt8) := match rdNum (l.drop 2) with
 | none => none
 | some (a, r) => if pre [61] r then (rdNum (r.drop 1)).map (fun x => (.mk 4 a x.1 [], x.2)) else none
theorem Eg (d : Nat) (hd : d ≤ 100) (s : ByteArray) (w : World) (hs : s.size ≤ 1000) (p1 : List.isPrefixOf [97, 108, 108] s.data.toList = false) (p2 : List.isPrefixOf [120, 60, 61] s.data.toList = false) (p3 : List.isPrefixOf [118, 60, 61] s.data.toList = false) (p4 : List.isPrefixOf [118, 37] s.data.toList = true) :
  Calls Tryz.prog 93 #[.string s, .int .i64 ((d : Int) + 1)] w (eH (pu s.data.toList) s.size w) := by
 have hs1 : 2 ≤ s.size := by have := aL p4; rw [af] at this; simpa using this
 have t0 : (((d : Int) + 1) == 0) = false := by simp; omega
 have he : (s.extract 2 s.size).data.toList = s.data.toList.drop 2 := by rw [aT, List.take_of_length_le (by simp)]
 have hel : (s.extract 2 s.size).size ≤ s.size - 2 := by rw [← af, he]; simp
 have HE := hid he
 clear he
 go_enter Tryz.func93, Tryz.ntmps93
 go_wp2_with (go_at_call 134; refine (bS s _ _ (by omega) (by decide)).mono ?_; rintro e w1 ⟨rfl, rfl⟩)
 refine (kI _ _ (by omega)).mono ?_
 rintro e w1 ⟨n, r, ok, rfl, hn, hok1, hok2, hr, hb⟩
 rw [HE.out] at hok1 hok2
 have hh := (hb.block w.heap.size (by simp)).trans (aa w _ _ rfl)
 have hrl : r.size ≤ s.size := by rw [af] at hr; omega
 have hbw : Below w.heap.size w w1 := (br.alloc nl _).trans (hb.mono (by simp))
 have hsz1 : w.heap.size < w1.heap.size := by have := hb.size; simp at this; omega
 have HH := hid hh
 have HV := hid (And.intro hok1 (And.intro hok2 hbw))
 clear hok1 hok2 hb hh hr hbw
 cases ok with
 | false =>
  go_wp2_with (first
   | (refine wpList_store_row rfl 62 (.tmp 4) (.tmp 70) rfl rfl w.heap.size rfl _ rfl 62 _ HH.out (by kernel_rfl) rfl (by simp [Value.oneCell']) ?_))
  refine bodyPost_ret (v := .tuple #[.agg #[.int .i64 0, .int .u64 0, .int .u64 0, .slice none 0 0], .string s, .bool false])
   (aC rfl _ _ w.heap.size 62 _ _ _ _ _ rfl (setRow_heap _ _ _ _ _ _ HH.out) Tryz.underlying62 rfl (by kernel_rfl) rfl rfl) rfl ?_
  refine ⟨.mk 0 0 0 [], _, _, _, rfl, bO (by omega) (by omega) (by omega) (by omega), (fun h => by cases h), fun _ => ?_, Nat.le_refl _, below_setRow HV.out.2.2 _ _ nl⟩
  rw [pu, HV.out.2.1 (by trivial)]
 | true =>
  have hrd := HV.out.1 (by trivial)
  have HRD := hid hrd
  clear hrd
  by_cases hp : List.isPrefixOf [61] r.data.toList = true
  ·have hr1 : 1 ≤ r.size := by have := aL hp; rw [af] at this; simpa using this
   have hp2 := hid (show pre [61] r.data.toList = true from hp)
   have he : (r.extract 1 r.size).data.toList = r.data.toList.drop 1 := by rw [aT, List.take_of_length_le (by simp)]
   have hel2 : (r.extract 1 r.size).size ≤ r.size - 1 := by rw [← af, he]; simp
   have HE2 := hid he
   clear he
   go_wp2_with (go_at_call 134; refine (bS r _ _ (by omega) (by decide)).mono ?_; rintro e w2 ⟨rfl, rfl⟩)
   refine (kI _ _ (by omega)).mono ?_
   rintro e w3 ⟨m, q, ok, rfl, hm, hok1, hok2, hq, hb⟩
   rw [HE2.out] at hok1 hok2
   have hh := (hb.block w.heap.size hsz1).trans HH.out
   have HH3 := hid hh
   have HV3 := hid (And.intro hok1 (And.intro hok2 hb))
   have hql : q.size ≤ s.size := by rw [af] at hq; omega
   clear hok1 hok2 hb hh hq
   go_wp2_with (first
    | (refine wpList_store_row rfl 62 (.tmp 4) (.tmp 81) rfl rfl w.heap.size rfl _ rfl 62 _ HH3.out (by kernel_rfl) rfl (by simp [Value.oneCell']) ?_))
   refine bodyPost_ret (v := .tuple #[.agg #[.int .i64 4, .int .u64 n, .int .u64 m, .slice none 0 0], .string q, .bool ok])
    (aC rfl _ _ w.heap.size 62 _ _ _ _ _ rfl (setRow_heap _ _ _ _ _ _ HH3.out) Tryz.underlying62 rfl (by kernel_rfl) rfl rfl) rfl ?_
   obtain ⟨hok1, hok2, hb⟩ := HV3.out
   refine ⟨.mk 4 n m [], _, _, _, rfl, bO (by omega) (by omega) hn hm, fun h => ?_, fun h => ?_, hql, below_setRow (HV.out.2.2.trans (hb.mono (by omega))) _ _ nl⟩
   ·rw [pu, HRD.out]; simp only [hp2.out, if_true, hok1 h, Option.map_some]
   ·rw [pu, HRD.out]; simp only [hp2.out, if_true, hok2 h, Option.map_none]
  ·have hp' : List.isPrefixOf [61] r.data.toList = false := Bool.eq_false_iff.2 hp
   have hp2 := hid (show pre [61] r.data.toList = false from hp')
   clear hp
   go_wp2_with (first
    | (go_at_call 134; refine (bS r _ _ (by omega) (by decide)).mono ?_; rintro e w2 ⟨rfl, rfl⟩)
    | (refine wpList_store_row rfl 62 (.tmp 4) (.tmp 70) rfl rfl w.heap.size rfl _ rfl 62 _ HH.out (by kernel_rfl) rfl (by simp [Value.oneCell']) ?_))
   refine bodyPost_ret (v := .tuple #[.agg #[.int .i64 0, .int .u64 0, .int .u64 0, .slice none 0 0], .string s, .bool false])
    (aC rfl _ _ w.heap.size 62 _ _ _ _ _ rfl (setRow_heap _ _ _ _ _ _ HH.out) Tryz.underlying62 rfl (by kernel_rfl) rfl rfl) rfl ?_
   refine ⟨.mk 0 0 0 [], _, _, _, rfl, bO (by omega) (by omega) (by omega) (by omega), (fun h => by cases h), fun _ => ?_, Nat.le_refl _, below_setRow HV.out.2.2 _ _ nl⟩
   rw [pu, HRD.out]; simp [hp2.out]
theorem zl (w : World) (S : Nat → Prop) (c0 c1 c2 c3 : Value) (T : TypeId) (hS : S w.heap.size) : Sl (w.alloc (.cells #[c0, c1, c2, c3] T)) S true 4 1 [c0, c1, c2, c3] (.slice (some ⟨w.heap.size, 0, none⟩) 1 1) := by
 refine ⟨by simp, by omega, _, _, rfl, by omega, fun _ => ⟨_, _, rfl, hS, fun j hj => ?_⟩⟩
 have hj2 : j < 4 := by simpa using hj
 rw [cell_of_row _ _ (0 + j) _ T (0, 0) (heap_alloc_new w _), frozen_of_row _ _ (0 + j) _ T (heap_alloc_new w _)]
 have hc : j = 0 ∨ j = 1 ∨ j = 2 ∨ j = 3 := by omega
 rcases hc with rfl | rfl | rfl | rfl <;> simp
theorem Bu (d : Nat) (hd : d ≤ 100) (IH : Hid (∀ (s : ByteArray) (w : World), s.size ≤ 1000 → Calls Tryz.prog 93 #[.string s, .int .i64 d] w (eH (rfE d s.data.toList) s.size w))) (s : ByteArray) (w : World) (hs : s.size ≤ 1000) (p1 : List.isPrefixOf [97, 108, 108] s.data.toList = false) (p2 : List.isPrefixOf [120, 60, 61] s.data.toList = false) (p3 : List.isPrefixOf [118, 60, 61] s.data.toList = false) (p4 : List.isPrefixOf [118, 37] s.data.toList = false) (p5 : List.isPrefixOf [33] s.data.toList = true) :
  Calls Tryz.prog 93 #[.string s, .int .i64 ((d : Int) + 1)] w (eH ((rfE d (s.data.toList.drop 1)).map fun x => (.mk 5 0 0 [x.1], x.2)) s.size w) := by
 have hs1 : 1 ≤ s.size := by have := aL p5; rw [af] at this; simpa using this
 have t0 : (((d : Int) + 1) == 0) = false := by simp; omega
 have he : (s.extract 1 s.size).data.toList = s.data.toList.drop 1 := by rw [aT, List.take_of_length_le (by simp)]
 have hel : (s.extract 1 s.size).size ≤ s.size - 1 := by rw [← af, he]; simp
 have HE := hid he
 clear he
 go_enter Tryz.func93, Tryz.ntmps93
 go_wp2_with (go_at_call 134; refine (bS s _ _ (by omega) (by decide)).mono ?_; rintro e w1 ⟨rfl, rfl⟩)
 refine (IH.out _ _ (by omega)).mono ?_
 rintro e w1 ⟨t, v, r, ok, rfl, hv, hok1, hok2, hr, hb⟩
 rw [HE.out] at hok1 hok2
 obtain ⟨q0, q1, q2, q3, q4, q5, rfl⟩ := hv.conc
 have hbw : Below w.heap.size w w1 := (br.alloc nl _).trans (hb.mono (by simp))
 have hsz1 : w.heap.size < w1.heap.size := by have := hb.size; simp at this; omega
 have hh := (hb.block w.heap.size (by simp)).trans (aa w _ _ rfl)
 have HH := hid (((ai _ (.cells #[.int .i64 q0, .int .u64 q1, .int .u64 q2, .slice q3 q4 q5] 62) _ (by simp; omega)).trans ((ai w1 (.cells #[.int .i64 q0, .int .u64 q1, .int .u64 q2, .slice q3 q4 q5] 62) _ hsz1).trans hh)))
 have HV := hid (And.intro hok1 (And.intro hok2 (And.intro hv hbw)))
 have hrl : r.size ≤ s.size := by omega
 clear hok1 hok2 hb hh hr hv hbw
 go_wp2_with (first
  | (refine wpList_store_row rfl 62 (.tmp 4) (.tmp 98) rfl rfl w.heap.size rfl _ rfl 62 _ HH.out (by kernel_rfl) rfl (by simp [Value.oneCell']) ?_))
 refine bodyPost_ret (v := .tuple #[.agg #[.int .i64 5, .int .u64 0, .int .u64 0, .slice (some ⟨w1.heap.size + 1, 0, none⟩) 1 1], .string r, .bool ok])
  (aC rfl _ _ w.heap.size 62 _ _ _ _ _ rfl (setRow_heap _ _ _ _ _ _ HH.out) Tryz.underlying62 rfl (by kernel_rfl) rfl rfl) rfl ?_
 obtain ⟨hok1, hok2, hv, hbw⟩ := HV.out
 refine ⟨.mk 5 0 0 [t], _, _, _, rfl, ?_, fun h => by rw [hok1 h]; rfl, fun h => by rw [hok2 h]; rfl, hrl, below_setRow ((hbw.alloc (by omega) _).alloc (by simp; omega) _) _ _ nl⟩
 have hK : dz (fun b => w.heap.size + 1 ≤ b) ((w1.alloc (.cells #[.int .i64 q0, .int .u64 q1, .int .u64 q2, .slice q3 q4 q5] 62)).alloc (.cells #[.int .i64 q0, .int .u64 q1, .int .u64 q2, .slice q3 q4 q5] 62))
   ((((w1.alloc (.cells #[.int .i64 q0, .int .u64 q1, .int .u64 q2, .slice q3 q4 q5] 62)).alloc (.cells #[.int .i64 q0, .int .u64 q1, .int .u64 q2, .slice q3 q4 q5] 62))).setRow w.heap.size #[.int .i64 5, .int .u64 0, .int .u64 0, .slice (some ⟨w1.heap.size + 1, 0, none⟩) 1 1]) :=
  fun b hb _ => setRow_other _ _ _ _ (by omega)
 have hsl := zl (w1.alloc (.cells #[.int .i64 q0, .int .u64 q1, .int .u64 q2, .slice q3 q4 q5] 62)) (fun b => w.heap.size + 1 ≤ b) (.int .i64 q0) (.int .u64 q1) (.int .u64 q2) (.slice q3 q4 q5) 62 (by simp; omega)
 rw [World.size_alloc] at hsl
 have hvv := (hv.below ((Below.refl w1.heap.size w1).alloc nl (.cells #[.int .i64 q0, .int .u64 q1, .int .u64 q2, .slice q3 q4 q5] 62)) nl).below (br.alloc nl (.cells #[.int .i64 q0, .int .u64 q1, .int .u64 q2, .slice q3 q4 q5] 62)) nl
 simp only [ax]
 refine ⟨_, _, rfl, by omega, by omega, by omega, by omega, hsl.keep (by omega) hK (fun b _ h => by omega), az.keep hK (fun b _ h => by omega) (az.one (hvv.wider (fun b _ h => by simp at h; omega)))⟩
theorem zR (d : Nat) (hd : d ≤ 100) (IH : Hid (∀ (s : ByteArray) (w : World), s.size ≤ 1000 → Calls Tryz.prog 93 #[.string s, .int .i64 d] w (eH (rfE d s.data.toList) s.size w))) (s : ByteArray) (w : World) (hs : s.size ≤ 1000) (p1 : List.isPrefixOf [97, 108, 108] s.data.toList = false) (p2 : List.isPrefixOf [120, 60, 61] s.data.toList = false) (p3 : List.isPrefixOf [118, 60, 61] s.data.toList = false) (p4 : List.isPrefixOf [118, 37] s.data.toList = false) (p5 : List.isPrefixOf [33] s.data.toList = false) (p6 : List.isPrefixOf [38, 40] s.data.toList = true) :
  Calls Tryz.prog 93 #[.string s, .int .i64 ((d : Int) + 1)] w (eH ((bq (rfE d) (s.data.toList.drop 2)).map fun x => (.mk 6 0 0 x.1, x.2)) s.size w) := by
 have hs1 : 2 ≤ s.size := by have := aL p6; rw [af] at this; simpa using this
 have t0 : (((d : Int) + 1) == 0) = false := by simp; omega
 have he : (s.extract 2 s.size).data.toList = s.data.toList.drop 2 := by rw [aT, List.take_of_length_le (by simp)]
 have hel : (s.extract 2 s.size).size ≤ s.size - 2 := by rw [← af, he]; simp
 have HE := hid he
 clear he
 go_enter Tryz.func93, Tryz.ntmps93
 go_wp2_with (go_at_call 134; refine (bS s _ _ (by omega) (by decide)).mono ?_; rintro e w1 ⟨rfl, rfl⟩)
 refine (row_of d hd IH 6 (by omega) (by omega) _ _ (by omega)).mono ?_
 rintro e w1 ⟨t, v, r, ok, rfl, hv, hok1, hok2, hr, hb⟩
 rw [HE.out] at hok1 hok2
 obtain ⟨q0, q1, q2, q3, q4, q5, rfl⟩ := hv.conc
 have hbw : Below w.heap.size w w1 := (br.alloc nl _).trans (hb.mono (by simp))
 have hsz1 : w.heap.size < w1.heap.size := by have := hb.size; simp at this; omega
 have HH := hid ((hb.block w.heap.size (by simp)).trans (aa w _ _ rfl))
 have HV := hid (And.intro hok1 (And.intro hok2 (And.intro hv hbw)))
 have hrl : r.size ≤ s.size := by omega
 clear hok1 hok2 hb hr hv hbw
 go_wp2_with (first
  | (refine wpList_store_row rfl 62 (.tmp 4) (.tmp 109) rfl rfl w.heap.size rfl _ rfl 62 _ HH.out (by kernel_rfl) rfl (by simp [Value.oneCell']) ?_))
 refine bodyPost_ret (v := .tuple #[.agg #[.int .i64 q0, .int .u64 q1, .int .u64 q2, .slice q3 q4 q5], .string r, .bool ok])
  (aC rfl _ _ w.heap.size 62 _ _ _ _ _ rfl (setRow_heap _ _ _ _ _ _ HH.out) Tryz.underlying62 rfl (by kernel_rfl) rfl rfl) rfl ?_
 obtain ⟨hok1, hok2, hv, hbw⟩ := HV.out
 refine ⟨t, _, _, _, rfl, ax.keep (w := w1) (S := fun b => w.heap.size + 1 ≤ b) (fun b hb _ => setRow_other _ _ _ _ (by omega)) (fun b _ h => by omega) (hv.wider (fun b _ h => by simp at h; omega)), hok1, hok2, hrl, below_setRow hbw _ _ nl⟩
theorem zU (d : Nat) (hd : d ≤ 100) (IH : Hid (∀ (s : ByteArray) (w : World), s.size ≤ 1000 → Calls Tryz.prog 93 #[.string s, .int .i64 d] w (eH (rfE d s.data.toList) s.size w))) (s : ByteArray) (w : World) (hs : s.size ≤ 1000) (p1 : List.isPrefixOf [97, 108, 108] s.data.toList = false) (p2 : List.isPrefixOf [120, 60, 61] s.data.toList = false) (p3 : List.isPrefixOf [118, 60, 61] s.data.toList = false) (p4 : List.isPrefixOf [118, 37] s.data.toList = false) (p5 : List.isPrefixOf [33] s.data.toList = false) (p6 : List.isPrefixOf [38, 40] s.data.toList = false) (p7 : List.isPrefixOf [124, 40] s.data.toList = true) :
  Calls Tryz.prog 93 #[.string s, .int .i64 ((d : Int) + 1)] w (eH ((bq (rfE d) (s.data.toList.drop 2)).map fun x => (.mk 7 0 0 x.1, x.2)) s.size w) := by
 have hs1 : 2 ≤ s.size := by have := aL p7; rw [af] at this; simpa using this
 have t0 : (((d : Int) + 1) == 0) = false := by simp; omega
 have he : (s.extract 2 s.size).data.toList = s.data.toList.drop 2 := by rw [aT, List.take_of_length_le (by simp)]
 have hel : (s.extract 2 s.size).size ≤ s.size - 2 := by rw [← af, he]; simp
 have HE := hid he
 clear he
 go_enter Tryz.func93, Tryz.ntmps93
 go_wp2_with (go_at_call 134; refine (bS s _ _ (by omega) (by decide)).mono ?_; rintro e w1 ⟨rfl, rfl⟩)
 refine (row_of d hd IH 7 (by omega) (by omega) _ _ (by omega)).mono ?_
 rintro e w1 ⟨t, v, r, ok, rfl, hv, hok1, hok2, hr, hb⟩
 rw [HE.out] at hok1 hok2
 obtain ⟨q0, q1, q2, q3, q4, q5, rfl⟩ := hv.conc
 have hbw : Below w.heap.size w w1 := (br.alloc nl _).trans (hb.mono (by simp))
 have hsz1 : w.heap.size < w1.heap.size := by have := hb.size; simp at this; omega
 have HH := hid ((hb.block w.heap.size (by simp)).trans (aa w _ _ rfl))
 have HV := hid (And.intro hok1 (And.intro hok2 (And.intro hv hbw)))
 have hrl : r.size ≤ s.size := by omega
 clear hok1 hok2 hb hr hv hbw
 go_wp2_with (first
  | (refine wpList_store_row rfl 62 (.tmp 4) (.tmp 120) rfl rfl w.heap.size rfl _ rfl 62 _ HH.out (by kernel_rfl) rfl (by simp [Value.oneCell']) ?_))
 refine bodyPost_ret (v := .tuple #[.agg #[.int .i64 q0, .int .u64 q1, .int .u64 q2, .slice q3 q4 q5], .string r, .bool ok])
  (aC rfl _ _ w.heap.size 62 _ _ _ _ _ rfl (setRow_heap _ _ _ _ _ _ HH.out) Tryz.underlying62 rfl (by kernel_rfl) rfl rfl) rfl ?_
 obtain ⟨hok1, hok2, hv, hbw⟩ := HV.out
 refine ⟨t, _, _, _, rfl, ax.keep (w := w1) (S := fun b => w.heap.size + 1 ≤ b) (fun b hb _ => setRow_other _ _ _ _ (by omega)) (fun b _ h => by omega) (hv.wider (fun b _ h => by simp at h; omega)), hok1, hok2, hrl, below_setRow hbw _ _ nl⟩
theorem zY (d : Nat) (hd : d ≤ 100) (s : ByteArray) (w : World) (hs : s.size ≤ 1000) (p1 : List.isPrefixOf [97, 108, 108] s.data.toList = false) (p2 : List.isPrefixOf [120, 60, 61] s.data.toList = false) (p3 : List.isPrefixOf [118, 60, 61] s.data.toList = false) (p4 : List.isPrefixOf [118, 37] s.data.toList = false) (p5 : List.isPrefixOf [33] s.data.toList = false)
  (p6 : List.isPrefixOf [38, 40] s.data.toList = false) (p7 : List.isPrefixOf [124, 40] s.data.toList = false) :
  Calls Tryz.prog 93 #[.string s, .int .i64 ((d : Int) + 1)] w (eH none s.size w) := by
 have t0 : (((d : Int) + 1) == 0) = false := by simp; omega
 go_enter Tryz.func93, Tryz.ntmps93
 go_wp2_with (go_at_call 134; refine (bS s _ _ (by omega) (by decide)).mono ?_; rintro e w1 ⟨rfl, rfl⟩)
 refine bodyPost_ret (v := .tuple #[.agg #[.int .i64 0, .int .u64 0, .int .u64 0, .slice none 0 0], .string s, .bool false])
  (aC rfl _ _ w.heap.size 62 #[.int .i64 0, .int .u64 0, .int .u64 0, .slice none 0 0] (0, 0) _ _ _ rfl (by show (w.alloc _).heap[_]? = _; exact aa _ _ _ rfl) Tryz.underlying62 rfl (by kernel_rfl) rfl rfl) rfl ?_
 exact ⟨.mk 0 0 0 [], _, _, _, rfl, bO (by omega) (by omega) (by omega) (by omega), (fun h => by cases h), fun _ => rfl, Nat.le_refl _, br.alloc nl _⟩
theorem zZ (s : ByteArray) (w : World) :
  Calls Tryz.prog 93 #[.string s, .int .i64 0] w (eH none s.size w) := by
 go_enter Tryz.func93, Tryz.ntmps93
 go_wp2_with fail
 refine bodyPost_ret (v := .tuple #[.agg #[.int .i64 0, .int .u64 0, .int .u64 0, .slice none 0 0], .string s, .bool false])
  (aC rfl _ _ w.heap.size 62 #[.int .i64 0, .int .u64 0, .int .u64 0, .slice none 0 0] (0, 0) _ _ _ rfl (by show (w.alloc _).heap[_]? = _; exact aa _ _ _ rfl) Tryz.underlying62 rfl (by kernel_rfl) rfl rfl) rfl ?_
 exact ⟨.mk 0 0 0 [], _, _, _, rfl, bO (by omega) (by omega) (by omega) (by omega), (fun h => by cases h), fun _ => rfl, Nat.le_refl _, br.alloc nl _⟩
theorem Bv (d : Nat) : ∀ (s : ByteArray) (w : World), d ≤ 100 → s.size ≤ 1000 → Calls Tryz.prog 93 #[.string s, .int .i64 d] w (eH (rfE d s.data.toList) s.size w) := by
 induction d with
 | zero => intro s w _ hs; exact zZ s w
 | succ d ih =>
  intro s w hd hs
  have IH : Hid (∀ (s : ByteArray) (w : World), s.size ≤ 1000 → Calls Tryz.prog 93 #[.string s, .int .i64 d] w (eH (rfE d s.data.toList) s.size w)) := hid fun s w h => ih s w (by omega) h
  have e : (((d + 1 : Nat) : Int)) = (d : Int) + 1 := by omega
  rw [e, rfE]
  by_cases p1 : pre [97, 108, 108] s.data.toList = true
  ·rw [if_pos p1]; exact Bt d (by omega) s w hs p1
  rw [if_neg p1]
  have p1' := Bool.eq_false_iff.2 p1
  by_cases p2 : pre [120, 60, 61] s.data.toList = true
  ·rw [if_pos p2]; exact Ee d (by omega) s w hs p1' p2
  rw [if_neg p2]
  have p2' := Bool.eq_false_iff.2 p2
  by_cases p3 : pre [118, 60, 61] s.data.toList = true
  ·rw [if_pos p3]; exact Ef d (by omega) s w hs p1' p2' p3
  rw [if_neg p3]
  have p3' := Bool.eq_false_iff.2 p3
  by_cases p4 : pre [118, 37] s.data.toList = true
  ·rw [if_pos p4]; exact Eg d (by omega) s w hs p1' p2' p3' p4
  rw [if_neg p4]
  have p4' := Bool.eq_false_iff.2 p4
  by_cases p5 : pre [33] s.data.toList = true
  ·rw [if_pos p5]; exact Bu d (by omega) IH s w hs p1' p2' p3' p4' p5
  rw [if_neg p5]
  have p5' := Bool.eq_false_iff.2 p5
  by_cases p6 : pre [38, 40] s.data.toList = true
  ·rw [if_pos p6]; exact zR d (by omega) IH s w hs p1' p2' p3' p4' p5' p6
  rw [if_neg p6]
  have p6' := Bool.eq_false_iff.2 p6
  by_cases p7 : pre [124, 40] s.data.toList = true
  ·rw [if_pos p7]; exact zU d (by omega) IH s w hs p1' p2' p3' p4' p5' p6' p7
  rw [if_neg p7]
  exact zY d (by omega) s w hs p1' p2' p3' p4' p5' p6' (Bool.eq_false_iff.2 p7)
def lX (o : Option Ex) (w : World) (e : Ending) (w' : World) : Prop :=
 ∃ v, e = .returned (.tuple #[v, .int .i64 (code o)]) ∧ ax w' (fun b => w.heap.size ≤ b) true (o.getD .zero) v ∧ Below w.heap.size w w'
theorem gB {w w' : World} {o : Option Ex} (h : o = none) (hb : Below w.heap.size w w') : lX o w (.returned (.tuple #[.agg #[.int .i64 0, .int .u64 0, .int .u64 0, .slice none 0 0], .int .i64 40])) w' := by
 subst h
 exact ⟨_, rfl, bO (by omega) (by omega) (by omega) (by omega), hb⟩
theorem vM (s : ByteArray) (w : World) (hs : s.size ≤ 800) : Calls Tryz.prog 55 #[.string s] w (lX (bU s.data.toList) w) := by
 go_enter Tryz.func55, Tryz.ntmps55
 go_wp2_with fail
 refine (Bv 8 s _ (by omega) (by omega)).mono ?_
 rintro e w1 ⟨t, v, r, ok, rfl, hv, hok1, hok2, hr, hb⟩
 obtain ⟨q0, q1, q2, q3, q4, q5, rfl⟩ := hv.conc
 have hbw : Below w.heap.size w w1 := (br.alloc nl _).trans (hb.mono (by simp))
 have hsz1 : w.heap.size < w1.heap.size := by have := hb.size; simp at this; omega
 have hh := (hb.block w.heap.size (by simp)).trans (aa w _ _ rfl)
 have HH := hid ((ai w1 (.cells #[.int .i64 q0, .int .u64 q1, .int .u64 q2, .slice q3 q4 q5] 62) _ hsz1).trans hh)
 have HV := hid (And.intro hok1 (And.intro hok2 (And.intro hv hbw)))
 clear hok1 hok2 hb hh hr hv hbw
 cases ok with
 | false =>
  have hn := nP (HV.out.2.1 (by trivial))
  have HN := hid hn
  clear hn
  go_wp2_with (first
   | (refine wpList_store_row rfl 62 (.tmp 2) (.tmp 24) rfl rfl w.heap.size rfl _ rfl 62 _ HH.out (by kernel_rfl) rfl (by simp [Value.oneCell']) ?_))
  refine bodyPost_ret (v := .tuple #[.agg #[.int .i64 0, .int .u64 0, .int .u64 0, .slice none 0 0], .int .i64 40])
   (ag rfl _ _ w.heap.size 62 _ _ _ _ rfl (setRow_heap _ _ _ _ _ _ HH.out) Tryz.underlying62 rfl (by kernel_rfl) rfl) rfl ?_
  exact gB HN.out (below_setRow (HV.out.2.2.2.alloc (by omega) _) _ _ nl)
 | true =>
  have hrf := HV.out.1 (by trivial)
  have hsz := Br _ _ _ _ hrf
  rw [af, af] at hsz
  have HN := hid (kJ hrf)
  clear hrf
  by_cases hr0 : r.data.toList = []
  ·have hrt : r.toList = [] := by rw [ByteArray.toList_eq]; exact hr0
   have HR0 := hid hr0
   clear hr0
   go_wp2_with fail
   have hbq : Below w1.heap.size w1 (w1.alloc (.cells #[.int .i64 q0, .int .u64 q1, .int .u64 q2, .slice q3 q4 q5] 62)) := br.alloc nl _
   refine (fJ _ _ t _ _ (by omega) (HV.out.2.2.1.below hbq nl)).mono ?_
   rintro e2 w2 ⟨rfl, hb2⟩
   have hbw2 : Below w.heap.size w w2 := (HV.out.2.2.2.alloc (by omega) _).trans (hb2.mono (by simp; omega))
   have hbox : ∀ o, w2.cell? ⟨w1.heap.size, o, none⟩ = (w1.alloc (.cells #[.int .i64 q0, .int .u64 q1, .int .u64 q2, .slice q3 q4 q5] 62)).cell? ⟨w1.heap.size, o, none⟩ := fun o => hb2.cell (by simp)
   have hsz2 : w1.heap.size < w2.heap.size := by have := hb2.size; simp at this; omega
   have HH2 := hid ((hb2.block w.heap.size (by simp; omega)).trans HH.out)
   have HV2 := hid (And.intro ((HV.out.2.2.1.below hbq nl).below hb2 nl) hbw2)
   clear hb2 hbq hbw2
   cases hrt2 : t.right with
   | false =>
    have HT := hid hrt2
    clear hrt2
    go_wp2_with (first
     | (refine wpList_store_row rfl 62 (.tmp 2) (.tmp 24) rfl rfl w.heap.size rfl _ rfl 62 _ HH2.out (by kernel_rfl) rfl (by simp [Value.oneCell']) ?_))
    refine bodyPost_ret (v := .tuple #[.agg #[.int .i64 0, .int .u64 0, .int .u64 0, .slice none 0 0], .int .i64 40])
     (ag rfl _ _ w.heap.size 62 _ _ _ _ rfl (setRow_heap _ _ _ _ _ _ HH2.out) Tryz.underlying62 rfl (by kernel_rfl) rfl) rfl ?_
    exact gB (by rw [HN.out]; simp [HT.out]) (below_setRow HV2.out.2 _ _ nl)
   | true =>
    have HT := hid hrt2
    clear hrt2
    go_wp2_with (first
     | (refine wpList_store_row rfl 62 (.tmp 2) (.tmp 25) rfl rfl w.heap.size rfl _ rfl 62 _ HH2.out (by kernel_rfl) rfl (by simp [Value.oneCell']) ?_))
    refine bodyPost_ret (v := .tuple #[.agg #[.int .i64 q0, .int .u64 q1, .int .u64 q2, .slice q3 q4 q5], .int .i64 0])
     (ag rfl _ _ w.heap.size 62 _ _ _ _ rfl (setRow_heap _ _ _ _ _ _ HH2.out) Tryz.underlying62 rfl (by kernel_rfl) rfl) rfl ?_
    rw [HN.out]
    simp only [HR0.out, HT.out, and_self, if_true]
    exact ⟨_, rfl, ax.keep (w := w2) (S := fun b => w.heap.size + 1 ≤ b) (fun b hb _ => setRow_other _ _ _ _ (by omega)) (fun b _ h => by omega) (HV2.out.1.wider (fun b _ h => by simp at h; omega)), below_setRow HV2.out.2 _ _ nl⟩
  ·have hrt : ¬ r.toList = [] := by rw [ByteArray.toList_eq]; exact hr0
   have HR0 := hid hr0
   clear hr0
   go_wp2_with (first
    | (refine wpList_store_row rfl 62 (.tmp 2) (.tmp 24) rfl rfl w.heap.size rfl _ rfl 62 _ HH.out (by kernel_rfl) rfl (by simp [Value.oneCell']) ?_))
   refine bodyPost_ret (v := .tuple #[.agg #[.int .i64 0, .int .u64 0, .int .u64 0, .slice none 0 0], .int .i64 40])
    (ag rfl _ _ w.heap.size 62 _ _ _ _ rfl (setRow_heap _ _ _ _ _ _ HH.out) Tryz.underlying62 rfl (by kernel_rfl) rfl) rfl ?_
   exact gB (by rw [HN.out]; simp [HR0.out]) (below_setRow (HV.out.2.2.2.alloc (by omega) _) _ _ nl)
structure Lv (B : Nat) (w : World) : Prop where
 tab : Lib.TabIs Tryz.prog w "internal/strconv.uint64pow10" .u64 Lib.pow10Tab
 syn : ∃ tp p, w.var? Tryz.prog "strconv.ErrSyntax" = some #[.iface tp p]
 rng : ∃ tp p, w.var? Tryz.prog "strconv.ErrRange" = some #[.iface tp p]
 lo : 3 < B ∧ 1 < B ∧ 2 < B
theorem Eh : Tryz.prog.globalNamed "internal/strconv.uint64pow10" = some 3 := by kernel_rfl
theorem Ei : Tryz.prog.globalNamed "strconv.ErrSyntax" = some 1 := by kernel_rfl
theorem Ej : Tryz.prog.globalNamed "strconv.ErrRange" = some 2 := by kernel_rfl
theorem Lv.below {B : Nat} {w w' : World} (h : Lv B w) (hb : Below B w w') : Lv B w' := by
 obtain ⟨h1, ⟨a, b, h2⟩, ⟨c, d, h3⟩, h4⟩ := h
 exact ⟨var?_below hb Eh h4.1 h1, ⟨a, b, var?_below hb Ei h4.2.1 h2⟩, ⟨c, d, var?_below hb Ej h4.2.2 h3⟩, h4⟩
theorem Lv.mono {B B' : Nat} {w : World} (h : Lv B w) (hB : B ≤ B') : Lv B' w := ⟨h.tab, h.syn, h.rng, by have := h.lo; omega⟩
def Rd (w : World) (rb : Nat) (s : ByteArray) (n : Int) (bad : Bool) : Prop := w.heap[rb]? = some (.cells #[.string s, .int .i64 n, .bool bad] 294 (0, 0))
structure Rg (rb : Nat) (w w' : World) : Prop where
 os : w'.os = w.os
 tape : w'.tape = w.tape
 output : w'.output = w.output
 size : w.heap.size ≤ w'.heap.size
 keep : ∀ b, b < w.heap.size → b ≠ rb → w'.heap[b]? = w.heap[b]?
theorem Rg.refl (rb : Nat) (w : World) : Rg rb w w := ⟨rfl, rfl, rfl, Nat.le_refl _, fun _ _ _ => rfl⟩
theorem Rg.trans {rb : Nat} {a b c : World} (h : Rg rb a b) (k : Rg rb b c) : Rg rb a c :=
 ⟨k.os.trans h.os, k.tape.trans h.tape, k.output.trans h.output, Nat.le_trans h.size k.size, fun i hi hn => (k.keep i (by have := h.size; omega) hn).trans (h.keep i hi hn)⟩
theorem Rg.of_below {rb : Nat} {w w' : World} (h : Below w.heap.size w w') : Rg rb w w' := ⟨h.os, h.tape, h.output, h.size, fun b hb _ => h.block b hb⟩
theorem Rg.setCell {rb : Nat} {w w' : World} (h : Rg rb w w') (o : Nat) (v : Value) : Rg rb w (w'.setCell ⟨rb, o, none⟩ v) :=
 h.trans ⟨rfl, rfl, rfl, by simp, fun b _ hn => Below.heap_setCell _ _ _ _ (by simpa using hn)⟩
theorem Rg.below {rb : Nat} {w w' : World} (h : Rg rb w w') (hr : rb ≤ w.heap.size) : Below rb w w' := ⟨h.os, h.tape, h.output, h.size, fun b hb => h.keep b (by omega) (by omega)⟩
theorem Rd.lt {w : World} {rb : Nat} {s : ByteArray} {n : Int} {bad : Bool} (h : Rd w rb s n bad) : rb < w.heap.size := (Array.getElem?_eq_some_iff.1 h).1
theorem Rd.cells {w : World} {rb : Nat} {s : ByteArray} {n : Int} {bad : Bool} (h : Rd w rb s n bad) : w.cell? ⟨rb, 0, none⟩ = some (.string s) ∧ w.cell? ⟨rb, 1, none⟩ = some (.int .i64 n) ∧ w.cell? ⟨rb, 2, none⟩ = some (.bool bad) ∧ (∀ o, w.frozen? ⟨rb, o, none⟩ = false) :=
 ⟨by rw [cell_of_row w _ 0 _ _ _ h]; rfl, by rw [cell_of_row w _ 1 _ _ _ h]; rfl, by rw [cell_of_row w _ 2 _ _ _ h]; rfl, fun o => by rw [frozen_of_row w _ o _ _ h]⟩
theorem Rd.below {w w' : World} {rb : Nat} {s : ByteArray} {n : Int} {bad : Bool} (h : Rd w rb s n bad) (hb : Below w.heap.size w w') : Rd w' rb s n bad := (hb.block _ h.lt).trans h
def cut (t l : List UInt8) : List UInt8 := if pre t l then l.drop t.length else l
def Bw (rb : Nat) (t l : List UInt8) (n : Int) (bad : Bool) (w : World) (e : Ending) (w' : World) : Prop :=
 ∃ s' : ByteArray, e = .returned (.bool (pre t l)) ∧ Rd w' rb s' n bad ∧ s'.data.toList = cut t l ∧ Rg rb w w' ∧ w'.heap.size = w.heap.size
theorem Bz (rb : Nat) (s t : ByteArray) (n : Int) (bad : Bool) (w : World) (hr : Rd w rb s n bad) :
  Calls Tryz.prog 225 #[.pointer (some ⟨rb, 0, none⟩), .string t] w (Bw rb t.data.toList s.data.toList n bad w) := by
 obtain ⟨c0, c1, c2, f⟩ := hr.cells
 have f0 := f 0
 have hlt := hr.lt
 have HR := hid hr
 clear hr f
 cases hp : pre t.data.toList s.data.toList with
 | true =>
  have h1 : Lib.hasPrefix s.data.toList t.data.toList = true := hp
  have HP := hid hp
  clear hp
  go_enter Tryz.func225, Tryz.ntmps225
  go_wp2_with (go_at_call 251; refine (Tryz.strings_CutPrefix s t _).mono ?_; rintro e w1 ⟨rfl, rfl⟩)
  go_ret
  refine ⟨⟨(Lib.trimPrefix s.data.toList t.data.toList).toArray⟩, ah HP.out.symm, ae HR.out (by simp), ?_, (Rg.refl _ _).setCell _ _, by simp⟩
  simp [cut, HP.out, Lib.trimPrefix, h1]
 | false =>
  have h1 : Lib.hasPrefix s.data.toList t.data.toList = false := hp
  have HP := hid hp
  clear hp
  go_enter Tryz.func225, Tryz.ntmps225
  go_wp2_with (go_at_call 251; refine (Tryz.strings_CutPrefix s t _).mono ?_; rintro e w1 ⟨rfl, rfl⟩)
  go_ret
  exact ⟨s, ah HP.out.symm, HR.out, by simp [cut, HP.out], Rg.refl _ _, rfl⟩
theorem xH (s : ByteArray) (w : World) : Calls Tryz.prog 252 #[.string s, .string ⟨#[48, 49, 50, 51, 52, 53, 54, 55, 56, 57]⟩] w fun e w' => e = .returned (.string ⟨(s.data.toList.dropWhile isD).toArray⟩) ∧ Below w.heap.size w w' := by
 have h := Any.strings_TrimLeft_laid Tryz.lays161 (by kernel_rfl) s ⟨#[48, 49, 50, 51, 52, 53, 54, 55, 56, 57]⟩ w (by decide) (by
  intro j b hb
  have hb2 : b ∈ ([48, 49, 50, 51, 52, 53, 54, 55, 56, 57] : List UInt8) := List.mem_of_getElem? hb
  simp only [List.mem_cons, List.not_mem_nil, or_false] at hb2
  rcases hb2 with rfl | rfl | rfl | rfl | rfl | rfl | rfl | rfl | rfl | rfl <;> decide)
 rw [show (ByteArray.mk #[48, 49, 50, 51, 52, 53, 54, 55, 56, 57]).data.toList = [48, 49, 50, 51, 52, 53, 54, 55, 56, 57] from rfl, ou] at h
 exact h
def DR (rb : Nat) (l : List UInt8) (n : Int) (bad : Bool) (w : World) (e : Ending) (w' : World) : Prop :=
 ∃ (v : Nat) (s' : ByteArray), e = .returned (.int .u64 v) ∧ v < 18446744073709551616 ∧ Rd w' rb s' n (bad || (rdNum l).isNone) ∧ (∀ v' r, rdNum l = some (v', r) → v = v' ∧ s'.data.toList = r) ∧ Rg rb w w' ∧ s'.size ≤ l.length
theorem Aa (ds : ByteArray) (w : World) (hL : Lv w.heap.size w) (hsz : ds.size ≤ 1000000) (hd : ∀ c ∈ ds.data.toList, isD c = true) :
  Calls Tryz.prog 108 #[.string ds, .int .i64 10, .int .i64 64] w fun e w' => ∃ (v : Nat) (er : Value), e = .returned (.tuple #[.int .u64 v, er]) ∧ v < 18446744073709551616 ∧
   ((ds.data.toList ≠ [] ∧ numOf ds.data.toList < 18446744073709551616 ∧ v = numOf ds.data.toList ∧ er = .nilIface) ∨ (¬ (ds.data.toList ≠ [] ∧ numOf ds.data.toList < 18446744073709551616) ∧ ∃ te pe, er = .iface te (.pointer (some pe)))) ∧ Below w.heap.size w w' := by
 have hp := fV ds.data.toList hd
 by_cases h0 : ds.data.toList = []
 ·rw [if_pos h0] at hp
  obtain ⟨tp, p, hs⟩ := hL.syn
  refine (Tryz.strconv_ParseUint_10_at64_syntax_var ds (by omega) hp tp p w hs).mono ?_
  rintro e w' ⟨N, rfl, _, _, hb⟩
  exact ⟨0, _, rfl, by omega, .inr ⟨fun h => h.1 h0, _, _, rfl⟩, hb⟩
 ·rw [if_neg h0] at hp
  by_cases h1 : numOf ds.data.toList < 18446744073709551616
  ·rw [if_pos h1] at hp
   refine (Tryz.strconv_ParseUint_10_at64_ok ds (by omega) _ hp w).mono ?_
   rintro e w' ⟨rfl, hw⟩
   refine ⟨_, _, rfl, h1, .inl ⟨h0, h1, rfl, rfl⟩, ?_⟩
   rcases hw with rfl | rfl
   ·exact br
   ·exact Lib.bytesWorld_below _ _ _
  ·rw [if_neg h1] at hp
   obtain ⟨tp, p, hs⟩ := hL.rng
   refine (Tryz.strconv_ParseUint_10_at64_range_var ds (by omega) hp tp p w hs).mono ?_
   rintro e w' ⟨N, rfl, _, _, hb⟩
   exact ⟨18446744073709551615, _, rfl, by omega, .inr ⟨fun h => h1 h.2, _, _, rfl⟩, hb⟩
end Go.Proofs.YtlpgokcapdjgjaaGreatDoor
