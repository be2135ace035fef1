/- Walks: the reference's predicate in a text: read, Read. Ahead of it: Walks: the reference's predicate in a text. Walks: the reference's predicate in a text: read. -/
import Derived.Test.YtjedgiiplebofaaGreatDoorQ38
import Derived.Test.YtjedgiiplebofaaGreatDoorQ13
import Derived.Test.YtjedgiiplebofaaGreatDoorQ18
import Derived.Test.YtjedgiiplebofaaGreatDoorQ37
namespace Go.Proofs.YtjedgiiplebofaaGreatDoor
open Go.RowKit Go
set_option linter.unusedVariables false
set_option linter.unusedSimpArgs false
/-- What the reference's read answers. -/
def RfEnds (o : Option (Ex × List UInt8)) (n : Nat) (w : World) (e : Ending) (w' : World) : Prop :=
  ∃ (t : Ex) (v : Value) (r : ByteArray) (ok : Bool), e = .returned (.tuple #[v, .string r, .bool ok]) ∧ RepE w' (fun b => w.heap.size ≤ b) true t v ∧ (ok = true → o = some (t, r.data.toList)) ∧ (ok = false → o = none) ∧ r.size ≤ n ∧ Below w.heap.size w w'
theorem pre_one (c : UInt8) (r : ByteArray) (h : 0 < r.size) : pre [c] r.data.toList = decide (r[0] = c) := by
  obtain ⟨⟨l⟩⟩ := r
  cases l with
  | nil => exact absurd h (by decide)
  | cons d l =>
    have e : (ByteArray.mk (d :: l).toArray)[0] = d := rfl
    rw [e]
    simp only [pre, List.isPrefixOf, Bool.and_true]
    by_cases hc : d = c
    · subst hc; simp
    · simp [hc, Ne.symm hc]
theorem rep_of_making {W W' : World} {base : Nat} {T : TypeId} {sv : Value} {es : List Ex} {S : Nat → Prop} {k : Int} (hm : Making W base T sv es) (hK : Keeps (fun b => base ≤ b) W W') (hS : ∀ b, base ≤ b → S b)
    (hk1 : -9223372036854775808 ≤ k) (hk2 : k ≤ 9223372036854775807) : RepE W' S true (.mk k 0 0 es) (.agg #[.int .i64 k, .int .u64 0, .int .u64 0, sv]) := by
  obtain ⟨zs, h1, h2⟩ := hm.sl
  simp only [RepE]
  exact ⟨_, zs, rfl, hk1, hk2, by omega, by omega, h1.keep (by omega) hK (fun b _ h => hS b h), RepEs.keep hK (fun b _ h => hS b h) h2⟩
/-- p.Parts = append(p.Parts, q) in row: behind it. -/
theorem row_push {w wr w1 w2 : World} {T : TypeId} {sa : Option Addr} {sc gg gcap : Nat} {es : List Ex} {t : Ex} {k : Int} {q0 : Int} {q1 q2 : Nat} {q3 : Option Addr} {q4 q5 : Nat} {o o' : Obj} {ys : List Value} {zs : Array Value}
    (hm : wr.ownsRow (w.heap.size + 2) T 4 (.slice sa es.length sc) es.length ys ∧ RepEs wr (fun b => w.heap.size + 2 ≤ b ∧ (Value.slice sa es.length sc).ownBlock ≠ some b) true es ys)
    (hh : wr.heap[w.heap.size]? = some (.cells #[.int .i64 k, .int .u64 0, .int .u64 0, .slice sa es.length sc] T (0, 0)) ∧ wr.heap[w.heap.size + 1]? = some (.cells zs T (0, 0)))
    (hv : RepE w1 (fun b => wr.heap.size ≤ b) true t (.agg #[.int .i64 q0, .int .u64 q1, .int .u64 q2, .slice q3 q4 q5])) (hb1 : Below wr.heap.size wr w1) (hbel : Below w.heap.size w wr)
    (hgrow : ((w1.alloc o).alloc o').grownBy w2 (Value.slice sa es.length sc).ownBlock)
    (hown2 : w2.ownsRow (w.heap.size + 2) T 4 (.slice (some ⟨gg, 0, none⟩) (es.length + 1) gcap) (es.length + 1) (ys ++ [.int .i64 q0, .int .u64 q1, .int .u64 q2, .slice q3 q4 q5]))
    (hat : (Value.slice sa es.length sc).ownBlock = some gg ∨ gg = w1.heap.size + 1 + 1) :
    Making (w2.setCell ⟨w.heap.size, 3, none⟩ (.slice (some ⟨gg, 0, none⟩) (es.length + 1) gcap)) (w.heap.size + 2) T (.slice (some ⟨gg, 0, none⟩) (es.length + 1) gcap) (es ++ [t]) ∧
    Below w.heap.size w (w2.setCell ⟨w.heap.size, 3, none⟩ (.slice (some ⟨gg, 0, none⟩) (es.length + 1) gcap)) ∧
    (w2.setCell ⟨w.heap.size, 3, none⟩ (.slice (some ⟨gg, 0, none⟩) (es.length + 1) gcap)).heap[w.heap.size]? = some (.cells #[.int .i64 k, .int .u64 0, .int .u64 0, .slice (some ⟨gg, 0, none⟩) (es.length + 1) gcap] T (0, 0)) ∧
    (w2.setCell ⟨w.heap.size, 3, none⟩ (.slice (some ⟨gg, 0, none⟩) (es.length + 1) gcap)).heap[w.heap.size + 1]? = some (.cells zs T (0, 0)) := by
  have hs2 : w.heap.size + 1 < wr.heap.size := (Array.getElem?_eq_some_iff.1 hh.2).1
  have hob := hm.1.lt
  have hba : Below wr.heap.size wr (w1.alloc o) := hb1.alloc (by have := hb1.size; omega) _
  have hvv : RepE (w1.alloc o) (fun b => wr.heap.size ≤ b) true t (.agg #[.int .i64 q0, .int .u64 q1, .int .u64 q2, .slice q3 q4 q5]) := hv.below ((Below.refl w1.heap.size w1).alloc (Nat.le_refl _) _) (Nat.le_refl _)
  have hs1 := hb1.size
  have far : ∀ b, b < wr.heap.size → b < w.heap.size + 2 → w2.heap[b]? = wr.heap[b]? := fun b hb hb2 => heap_far hba hb hb hgrow (fun e => by have := (hob _ e.symm).1; omega)
  refine ⟨(Making.push hm.1 hm.2 (by omega) hba (Nat.le_refl _) hvv hgrow hown2 (by simpa using hat)).setCell _ (by simp) _, ?_, ?_, ?_⟩
  · exact (Below.grown' (base := w.heap.size + 2) (hbel.trans (hba.mono (by omega))) hgrow (fun k hk => ⟨(hob k hk).1, by have := (hob k hk).2; simp; omega⟩) (by simp; omega) (by omega)).setCell (by simp) _
  · exact heap_set_at ((far _ (by omega) (by omega)).trans hh.1) (by simp)
  · rw [Below.heap_setCell _ _ _ _ (by simp)]; exact (far _ (by omega) (by omega)).trans hh.2
set_option maxHeartbeats 4000000 in
set_option maxRecDepth 100000 in
theorem row_of (d : Nat) (hd : d ≤ 100) (IH : Hid (∀ (s : ByteArray) (w : World), s.size ≤ 1000 → Calls Tryz.prog 164 #[.string s, .int .i64 d] w (RfEnds (rfE d s.data.toList) s.size w)))
    (k : Int) (hk1 : -9223372036854775808 ≤ k) (hk2 : k ≤ 9223372036854775807) (s : ByteArray) (w : World) (hs : s.size ≤ 1000) :
    Calls Tryz.prog 248 #[.agg #[.int .i64 k, .int .u64 0, .int .u64 0, .slice none 0 0], .string s, .int .i64 ((d : Int) + 1)] w (RfEnds ((rfParts (rfE d) s.data.toList).map fun x => (.mk k 0 0 x.1, x.2)) s.size w) := by
  obtain ⟨i0, hi0, hz0, hz1, hz2⟩ := info_parts infoRef
  have hsl := ba_size s
  by_cases h0 : pre [41] s.data.toList = true
  · have H0 := Lib.hid h0
    clear h0
    go_enter Tryz.func248, Tryz.ntmps248
    go_wp2_with fail
    refine (begins_any s _ _ (by omega) (by decide)).mono ?_
    rintro e w1 ⟨rfl, rfl⟩
    have h0 := H0.out
    unfold pre at h0
    rw [h0]
    clear h0
    have hs1 : 1 ≤ s.size := by have := pre_length H0.out; simp at this; omega
    go_wp2_with fail
    go_region
    go_wp2_with fail
    refine bodyPost_ret (v := .tuple #[.agg #[.int .i64 k, .int .u64 0, .int .u64 0, .slice none 0 0], .string (s.extract 1 s.size), .bool true])
      (results_row3 rfl _ _ (w.heap.size + 1) 38 #[.int .i64 k, .int .u64 0, .int .u64 0, .slice none 0 0] (0, 0) _ _ _ rfl (by show ((w.alloc _).alloc _).heap[_]? = _; exact heap_alloc_at _ _ _ (by simp)) Tryz.underlying38 rfl (by kernel_rfl) rfl rfl) rfl ?_
    refine ⟨.mk k 0 0 [], _, _, _, rfl, ?_, fun _ => ?_, (fun h => by cases h), by simp, (((Below.refl _ _).alloc (Nat.le_refl _) _).alloc (by simp) _).drew⟩
    · simp only [RepE]
      exact ⟨_, [], rfl, hk1, hk2, by omega, by omega, Sl.nil _ _ _ _, by simp [RepEs]⟩
    · rw [rfParts, if_pos H0.out, ba_extract]
      simp only [Option.map_some, Option.some.injEq, Prod.mk.injEq, true_and]
      rw [List.take_of_length_le (by simp)]
  · have hnp : pre [41] s.data.toList = false := by simpa using h0
    have HQ0 : Hid (rfParts (rfE d) s.data.toList = rfLoop (rfE d) (s.size + 1) s.data.toList) := Lib.hid (by rw [rfParts, if_neg (by rw [hnp]; simp), ba_size])
    have H0 := Lib.hid hnp
    clear h0 hnp
    go_enter Tryz.func248, Tryz.ntmps248
    go_wp2_with fail
    refine (begins_any s _ _ (by omega) (by decide)).mono ?_
    rintro e w1 ⟨rfl, hw1⟩
    have h0 := H0.out
    unfold pre at h0
    rw [h0]
    clear h0
    go_wp2_with fail
    subst hw1
    go_loopw [1] (fun sv1 wr => ∃ (s' : ByteArray) (es : List Ex) (sv : Value), sv1 = .string s' ∧ es.length + s'.size ≤ s.size ∧
        Hid (rfParts (rfE d) s.data.toList = (rfLoop (rfE d) (s'.size + 1) s'.data.toList).map fun x => (es ++ x.1, x.2)) ∧ Below w.heap.size w wr ∧
        wr.heap[w.heap.size]? = some (.cells #[.int .i64 k, .int .u64 0, .int .u64 0, sv] 38 (0, 0)) ∧
        wr.heap[w.heap.size + 1]? = some (.cells #[.int .i64 0, .int .u64 0, .int .u64 0, .slice none 0 0] 38 (0, 0)) ∧
        Making wr (w.heap.size + 2) 38 sv es) (fun sv1 _ => (match sv1 with | .string s' => s'.size | _ => 0))
    case atStart =>
      refine ⟨s, [], .slice none 0 0, rfl, by simp, Lib.hid (by rw [HQ0.out]; simp), (((Below.refl _ _).alloc (Nat.le_refl _) _).alloc (by simp) _), ?_, heap_alloc_at _ _ _ (by simp), Making.nil _ _ _⟩
      rw [heap_alloc_lt _ _ _ (by simp)]; exact heap_alloc_at _ _ _ rfl
    case round =>
      obtain ⟨s', es, sv, rfl, hlen, hq, hbel, hh0, hh1, ys, hown, hey⟩ := hrel
      obtain ⟨sa, sc, rfl⟩ := owns_slice hown
      have hob := hown.lt
      have hs2 : w.heap.size + 1 < wr.heap.size := (Array.getElem?_eq_some_iff.1 hh1).1
      have HM := Lib.hid (And.intro hown hey)
      have HH := Lib.hid (And.intro hh0 hh1)
      clear hh0 hh1 hown hey
      go_wp2_with fail
      refine (IH.out s' _ (by omega)).mono ?_
      rintro e w1 ⟨t, v, r, ok, rfl, hv, hok1, hok2, hrs, hb1⟩
      obtain ⟨q0, q1, q2, q3, q4, q5, rfl⟩ := hv.conc
      have hsz1 := hb1.size
      have hB1 : Below w.heap.size w w1 := hbel.trans (hb1.mono (by omega))
      have hx0 : w1.heap[w.heap.size]? = some (.cells #[.int .i64 k, .int .u64 0, .int .u64 0, .slice sa es.length sc] 38 (0, 0)) := (hb1.block _ (by omega)).trans HH.out.1
      have hx1 : w1.heap[w.heap.size + 1]? = some (.cells #[.int .i64 0, .int .u64 0, .int .u64 0, .slice none 0 0] 38 (0, 0)) := (hb1.block _ (by omega)).trans HH.out.2
      have c0 : ∀ o, w1.cell? ⟨w.heap.size, o, none⟩ = #[.int .i64 k, .int .u64 0, .int .u64 0, .slice sa es.length sc][o]? := fun o => cell_of_row w1 _ o _ _ _ hx0
      have HX := Lib.hid (And.intro hx0 hx1)
      clear hx0 hx1
      have HV := Lib.hid (And.intro hv (And.intro hok1 (And.intro hok2 (And.intro hb1 hB1))))
      clear hv hok1 hok2 hb1 hB1
      have hloop := Lib.hid (rfLoop_step (rfE d) (rfE_len d) s'.data.toList)
      cases ok with
      | false =>
        have l1 : w.heap.size < w1.heap.size := by omega
        have HY := Lib.hid ((heap_alloc_lt w1 (.cells #[.int .i64 q0, .int .u64 q1, .int .u64 q2, .slice q3 q4 q5] 38) _ (by omega)).trans HX.out.2)
        go_wp2_with (refine wpList_store_row rfl 38 (.tmp 6) (.tmp 31) rfl rfl (w.heap.size + 1) rfl _ rfl 38 #[.int .i64 0, .int .u64 0, .int .u64 0, .slice none 0 0] HY.out (by kernel_rfl) rfl (by simp [Value.oneCell']) ?_)
        refine bodyPost_ret (v := .tuple #[.agg #[.int .i64 k, .int .u64 0, .int .u64 0, .slice sa es.length sc], .string s', .bool false])
          (results_row3 rfl _ _ (w.heap.size + 1) 38 _ _ _ _ _ rfl (setRow_heap _ _ _ _ _ _ HY.out) Tryz.underlying38 rfl (by kernel_rfl) rfl rfl) rfl ?_
        obtain ⟨hv, hok1, hok2, hb1, hB1⟩ := HV.out
        refine ⟨.mk k 0 0 es, _, _, _, rfl, rep_of_making (W := wr) ⟨ys, HM.out.1, HM.out.2⟩ (fun b hb hbl => ?_) (fun b hb => by omega) hk1 hk2, (fun h => by cases h), fun _ => ?_, by omega, below_setRow (hB1.alloc (by omega) _) _ _ (by omega)⟩
        · rw [setRow_other _ _ _ _ (by omega), heap_alloc_lt _ _ _ (by omega), hb1.block _ hbl]
        · rw [hq.out, ← ba_size, hloop.out, hok2 (by trivial)]; rfl
      | true =>
        obtain ⟨hv, hok1, hok2, hb1, hB1⟩ := HV.out
        have hrf := hok1 rfl
        have hrl := rfE_len _ _ _ _ hrf
        rw [ba_size, ba_size] at hrl
        have HRF := Lib.hid hrf
        clear hv hok1 hok2 hb1 hB1 hrf
        have l1 : w.heap.size < w1.heap.size := by omega
        by_cases hr0 : 0 < r.size
        · have hrt : r.toList.isEmpty = false := by
            rw [ByteArray.toList_eq]
            cases h : r.data.toList with
            | nil => have := ba_size r; rw [h] at this; simp at this; omega
            | cons _ _ => rfl
          have hrt2 : ¬ r.toList = [] := by
            intro h; rw [h] at hrt; cases hrt
          have hp41 := Lib.hid (pre_one 41 r hr0)
          have hp44 := Lib.hid (pre_one 44 r hr0)
          have hxt : (r.extract 1 r.size).data.toList = r.data.toList.drop 1 := by rw [ba_extract, List.take_of_length_le (by simp)]
          have HXT := Lib.hid hxt
          have hes : es.length + 1 ≤ 1001 := by omega
          clear hxt hrt2
          by_cases b41 : r[0] = 41
          · have t41 : ((r[0].toNat : Int) == 41) = true := by rw [b41]; rfl
            have HB := Lib.hid b41
            clear b41
            go_wp2_with (first
              | (at_builtin; go_loud (refine wpList_append_lies _ rfl (.tmp 34) (.tmp 36) 36 rfl (w.heap.size + 2) 38 i0 _ 4 48 Tryz.underlying36 hi0 hz0 hz1 hz2 rfl (by omega) (.slice sa es.length sc) es.length ys rfl (((ownsRow_below HM.out.1 HV.out.2.2.2.1 (Nat.le_refl _)).alloc _).alloc _) ⟨w1.heap.size + 1, 0, none⟩ 1 1 [.int .i64 q0, .int .u64 q1, .int .u64 q2, .slice q3 q4 q5] rfl rfl (World.news_of_block (cs := #[.int .i64 q0, .int .u64 q1, .int .u64 q2, .slice q3 q4 q5]) (t := 38) (fr := (0, 0)) (heap_alloc_at _ _ _ (by simp))) (by simp [Value.oneCell']) (by omega) (by unfold maxLen; omega) (by omega) (by simp; omega) (w1.heap.size + 1 + 1) (by simp) ?_); intro gg gcap w2 hown2 hgrow hat hlt2
                 go_loud (have hne : some w.heap.size ≠ (Value.slice sa es.length sc).ownBlock := fun e => (by have := hob _ e.symm; omega))
                 go_loud (have c5 : w2.cell? ⟨w.heap.size, 3, none⟩ = some (.slice sa es.length sc) := (by rw [hgrow.cell_far _ (by simp; omega) hne, World.cell?_alloc_past _ _ _ (by simp; omega), World.cell?_alloc_past _ _ _ (by omega)]; exact c0 3))
                 go_loud (have c6 : ∀ o, o < 3 → w2.cell? ⟨w.heap.size, o, none⟩ = w1.cell? ⟨w.heap.size, o, none⟩ := (by intro o ho; rw [hgrow.cell_far _ (by simp; omega) hne, World.cell?_alloc_past _ _ _ (by simp; omega), World.cell?_alloc_past _ _ _ (by omega)]))
                 go_loud (have f5 : w2.frozen? ⟨w.heap.size, 3, none⟩ = false := (by rw [hgrow.frozen_far _ (by simp; omega) hne, World.frozen?_alloc_past _ _ _ (by simp; omega), World.frozen?_alloc_past _ _ _ (by omega), frozen_of_row w1 _ 3 _ _ HX.out.1]))
                 have HP := Lib.hid (row_push (T := 38) HM.out HH.out HV.out.1 HV.out.2.2.2.1 hbel hgrow hown2 hat))
              | (refine wpList_store_row rfl 38 (.tmp 6) (.tmp 44) rfl rfl (w.heap.size + 1) rfl _ rfl 38 #[.int .i64 0, .int .u64 0, .int .u64 0, .slice none 0 0] HP.out.2.2.2 (by kernel_rfl) rfl (by simp [Value.oneCell']) ?_))
            refine bodyPost_ret (v := .tuple #[.agg #[.int .i64 k, .int .u64 0, .int .u64 0, .slice (some ⟨gg, 0, none⟩) (es.length + 1) gcap], .string (r.extract 1 r.size), .bool true])
              (results_row3 rfl _ _ (w.heap.size + 1) 38 _ _ _ _ _ rfl (setRow_heap _ _ _ _ _ _ HP.out.2.2.2) Tryz.underlying38 rfl (by kernel_rfl) rfl rfl) rfl ?_
            refine ⟨.mk k 0 0 (es ++ [t]), _, _, _, rfl, rep_of_making HP.out.1 (fun b hb hbl => setRow_other _ _ _ _ (by omega)) (fun b hb => by omega) hk1 hk2, fun _ => ?_, (fun h => by cases h), by simp; omega, below_setRow HP.out.2.1 _ _ (by omega)⟩
            rw [hq.out, ← ba_size, hloop.out, HRF.out]
            simp only [hp41.out, HB.out, decide_true, if_true, Option.map_some, HXT.out]
          · have t41 : ((r[0].toNat : Int) == 41) = false := by simp; intro h; exact b41 (UInt8.toNat_inj.1 (by simp; omega))
            have HB := Lib.hid b41
            clear b41
            by_cases b44 : r[0] = 44
            · have t44 : ((r[0].toNat : Int) != 44) = false := by rw [b44]; rfl
              have HB4 := Lib.hid b44
              clear b44
              go_wp2_with (first
                | (at_builtin; go_loud (refine wpList_append_lies _ rfl (.tmp 34) (.tmp 36) 36 rfl (w.heap.size + 2) 38 i0 _ 4 48 Tryz.underlying36 hi0 hz0 hz1 hz2 rfl (by omega) (.slice sa es.length sc) es.length ys rfl (((ownsRow_below HM.out.1 HV.out.2.2.2.1 (Nat.le_refl _)).alloc _).alloc _) ⟨w1.heap.size + 1, 0, none⟩ 1 1 [.int .i64 q0, .int .u64 q1, .int .u64 q2, .slice q3 q4 q5] rfl rfl (World.news_of_block (cs := #[.int .i64 q0, .int .u64 q1, .int .u64 q2, .slice q3 q4 q5]) (t := 38) (fr := (0, 0)) (heap_alloc_at _ _ _ (by simp))) (by simp [Value.oneCell']) (by omega) (by unfold maxLen; omega) (by omega) (by simp; omega) (w1.heap.size + 1 + 1) (by simp) ?_); intro gg gcap w2 hown2 hgrow hat hlt2
                   go_loud (have hne : some w.heap.size ≠ (Value.slice sa es.length sc).ownBlock := fun e => (by have := hob _ e.symm; omega))
                   go_loud (have c5 : w2.cell? ⟨w.heap.size, 3, none⟩ = some (.slice sa es.length sc) := (by rw [hgrow.cell_far _ (by simp; omega) hne, World.cell?_alloc_past _ _ _ (by simp; omega), World.cell?_alloc_past _ _ _ (by omega)]; exact c0 3))
                   go_loud (have c6 : ∀ o, o < 3 → w2.cell? ⟨w.heap.size, o, none⟩ = w1.cell? ⟨w.heap.size, o, none⟩ := (by intro o ho; rw [hgrow.cell_far _ (by simp; omega) hne, World.cell?_alloc_past _ _ _ (by simp; omega), World.cell?_alloc_past _ _ _ (by omega)]))
                   go_loud (have f5 : w2.frozen? ⟨w.heap.size, 3, none⟩ = false := (by rw [hgrow.frozen_far _ (by simp; omega) hne, World.frozen?_alloc_past _ _ _ (by simp; omega), World.frozen?_alloc_past _ _ _ (by omega), frozen_of_row w1 _ 3 _ _ HX.out.1]))
                   have HP := Lib.hid (row_push (T := 38) HM.out HH.out HV.out.1 HV.out.2.2.2.1 hbel hgrow hown2 hat)))
              go_roundw
              case rel =>
                refine ⟨r.extract 1 r.size, es ++ [t], _, rfl, by simp; omega, Lib.hid ?_, HP.out.2.1, HP.out.2.2.1, HP.out.2.2.2, by simpa [Making] using HP.out.1⟩
                rw [hq.out, ← ba_size, hloop.out, HRF.out]
                simp only [hp41.out, hp44.out, HB4.out, show decide ((44 : UInt8) = 41) = false from by decide, decide_true, decide_false, if_true, if_false, Bool.false_eq_true, Option.map_map]
                rw [← HXT.out, ba_size]
                congr 1
                funext x
                simp
              case measure => simp; omega
            · have t44 : ((r[0].toNat : Int) != 44) = true := by simp; intro h; exact b44 (UInt8.toNat_inj.1 (by simp; omega))
              have HB4 := Lib.hid b44
              clear b44
              go_wp2_with (first
                | (at_builtin; go_loud (refine wpList_append_lies _ rfl (.tmp 34) (.tmp 36) 36 rfl (w.heap.size + 2) 38 i0 _ 4 48 Tryz.underlying36 hi0 hz0 hz1 hz2 rfl (by omega) (.slice sa es.length sc) es.length ys rfl (((ownsRow_below HM.out.1 HV.out.2.2.2.1 (Nat.le_refl _)).alloc _).alloc _) ⟨w1.heap.size + 1, 0, none⟩ 1 1 [.int .i64 q0, .int .u64 q1, .int .u64 q2, .slice q3 q4 q5] rfl rfl (World.news_of_block (cs := #[.int .i64 q0, .int .u64 q1, .int .u64 q2, .slice q3 q4 q5]) (t := 38) (fr := (0, 0)) (heap_alloc_at _ _ _ (by simp))) (by simp [Value.oneCell']) (by omega) (by unfold maxLen; omega) (by omega) (by simp; omega) (w1.heap.size + 1 + 1) (by simp) ?_); intro gg gcap w2 hown2 hgrow hat hlt2
                   go_loud (have hne : some w.heap.size ≠ (Value.slice sa es.length sc).ownBlock := fun e => (by have := hob _ e.symm; omega))
                   go_loud (have c5 : w2.cell? ⟨w.heap.size, 3, none⟩ = some (.slice sa es.length sc) := (by rw [hgrow.cell_far _ (by simp; omega) hne, World.cell?_alloc_past _ _ _ (by simp; omega), World.cell?_alloc_past _ _ _ (by omega)]; exact c0 3))
                   go_loud (have c6 : ∀ o, o < 3 → w2.cell? ⟨w.heap.size, o, none⟩ = w1.cell? ⟨w.heap.size, o, none⟩ := (by intro o ho; rw [hgrow.cell_far _ (by simp; omega) hne, World.cell?_alloc_past _ _ _ (by simp; omega), World.cell?_alloc_past _ _ _ (by omega)]))
                   go_loud (have f5 : w2.frozen? ⟨w.heap.size, 3, none⟩ = false := (by rw [hgrow.frozen_far _ (by simp; omega) hne, World.frozen?_alloc_past _ _ _ (by simp; omega), World.frozen?_alloc_past _ _ _ (by omega), frozen_of_row w1 _ 3 _ _ HX.out.1]))
                   have HP := Lib.hid (row_push (T := 38) HM.out HH.out HV.out.1 HV.out.2.2.2.1 hbel hgrow hown2 hat))
                | (refine wpList_store_row rfl 38 (.tmp 6) (.tmp 49) rfl rfl (w.heap.size + 1) rfl _ rfl 38 #[.int .i64 0, .int .u64 0, .int .u64 0, .slice none 0 0] HP.out.2.2.2 (by kernel_rfl) rfl (by simp [Value.oneCell']) ?_))
              refine bodyPost_ret (v := .tuple #[.agg #[.int .i64 k, .int .u64 0, .int .u64 0, .slice (some ⟨gg, 0, none⟩) (es.length + 1) gcap], .string (r.extract 1 r.size), .bool false])
                (results_row3 rfl _ _ (w.heap.size + 1) 38 _ _ _ _ _ rfl (setRow_heap _ _ _ _ _ _ HP.out.2.2.2) Tryz.underlying38 rfl (by kernel_rfl) rfl rfl) rfl ?_
              refine ⟨.mk k 0 0 (es ++ [t]), _, _, _, rfl, rep_of_making HP.out.1 (fun b hb hbl => setRow_other _ _ _ _ (by omega)) (fun b hb => by omega) hk1 hk2, (fun h => by cases h), fun _ => ?_, by simp; omega, below_setRow HP.out.2.1 _ _ (by omega)⟩
              rw [hq.out, ← ba_size, hloop.out, HRF.out]
              simp [hp41.out, hp44.out, HB.out, HB4.out]
        · have hre : r.data.toList = [] := List.eq_nil_of_length_eq_zero (by rw [ba_size]; omega)
          have hrt : r.toList = [] := by rw [ByteArray.toList_eq]; exact hre
          have HRE := Lib.hid hre
          have HY := Lib.hid ((heap_alloc_lt w1 (.cells #[.int .i64 q0, .int .u64 q1, .int .u64 q2, .slice q3 q4 q5] 38) _ (by omega)).trans HX.out.2)
          clear hre
          go_wp2_with (refine wpList_store_row rfl 38 (.tmp 6) (.tmp 31) rfl rfl (w.heap.size + 1) rfl _ rfl 38 #[.int .i64 0, .int .u64 0, .int .u64 0, .slice none 0 0] HY.out (by kernel_rfl) rfl (by simp [Value.oneCell']) ?_)
          refine bodyPost_ret (v := .tuple #[.agg #[.int .i64 k, .int .u64 0, .int .u64 0, .slice sa es.length sc], .string s', .bool false])
            (results_row3 rfl _ _ (w.heap.size + 1) 38 _ _ _ _ _ rfl (setRow_heap _ _ _ _ _ _ HY.out) Tryz.underlying38 rfl (by kernel_rfl) rfl rfl) rfl ?_
          obtain ⟨hv, hok1, hok2, hb1, hB1⟩ := HV.out
          refine ⟨.mk k 0 0 es, _, _, _, rfl, rep_of_making (W := wr) ⟨ys, HM.out.1, HM.out.2⟩ (fun b hb hbl => ?_) (fun b hb => by omega) hk1 hk2, (fun h => by cases h), fun _ => ?_, by omega, below_setRow (hB1.alloc (by omega) _) _ _ (by omega)⟩
          · rw [setRow_other _ _ _ _ (by omega), heap_alloc_lt _ _ _ (by omega), hb1.block _ hbl]
          · rw [hq.out, ← ba_size, hloop.out, HRF.out, HRE.out]; rfl
end Go.Proofs.YtjedgiiplebofaaGreatDoor
namespace Go.Proofs.YtjedgiiplebofaaGreatDoor
open Go.RowKit Go
set_option linter.unusedVariables false
set_option linter.unusedSimpArgs false
theorem rep_leaf {W : World} {S : Nat → Prop} {k : Int} {a b : Nat} (hk1 : -9223372036854775808 ≤ k) (hk2 : k ≤ 9223372036854775807) (ha : a < 18446744073709551616) (hb : b < 18446744073709551616) : RepE W S true (.mk k a b []) (.agg #[.int .i64 k, .int .u64 a, .int .u64 b, .slice none 0 0]) := by
  simp only [RepE]
  exact ⟨_, [], rfl, hk1, hk2, ha, hb, Sl.nil _ _ _ _, by simp [RepEs]⟩
set_option maxHeartbeats 1000000 in
set_option maxRecDepth 100000 in
theorem read_all (d : Nat) (hd : d ≤ 100) (s : ByteArray) (w : World) (hs : s.size ≤ 1000) (p1 : List.isPrefixOf [97, 108, 108] s.data.toList = true) :
    Calls Tryz.prog 164 #[.string s, .int .i64 ((d : Int) + 1)] w (RfEnds (some (.mk 1 0 0 [], s.data.toList.drop 3)) s.size w) := by
  have hs1 : 3 ≤ s.size := by have := pre_length p1; rw [ba_size] at this; simpa using this
  have t0 : (((d : Int) + 1) == 0) = false := by simp; omega
  go_enter Tryz.func164, Tryz.ntmps164
  go_wp2_with (go_at_call 246; refine (begins_any s _ _ (by omega) (by decide)).mono ?_; rintro e w1 ⟨rfl, rfl⟩)
  go_region
  go_wp2_with fail
  refine bodyPost_ret (v := .tuple #[.agg #[.int .i64 1, .int .u64 0, .int .u64 0, .slice none 0 0], .string (s.extract 3 s.size), .bool true])
    (results_row3 rfl _ _ w.heap.size 38 #[.int .i64 1, .int .u64 0, .int .u64 0, .slice none 0 0] (0, 0) _ _ _ rfl (by show (w.alloc _).heap[_]? = _; exact heap_alloc_at _ _ _ rfl) Tryz.underlying38 rfl (by kernel_rfl) rfl rfl) rfl ?_
  refine ⟨.mk 1 0 0 [], _, _, _, rfl, rep_leaf (by omega) (by omega) (by omega) (by omega), fun _ => ?_, (fun h => by cases h), by simp, ((Below.refl _ _).alloc (Nat.le_refl _) _).drew⟩
  rw [ba_extract, List.take_of_length_le (by simp)]
set_option maxHeartbeats 1000000 in
set_option maxRecDepth 100000 in
theorem read_x (d : Nat) (hd : d ≤ 100) (s : ByteArray) (w : World) (hs : s.size ≤ 1000) (p1 : List.isPrefixOf [97, 108, 108] s.data.toList = false) (p2 : List.isPrefixOf [120, 60, 61] s.data.toList = true) :
    Calls Tryz.prog 164 #[.string s, .int .i64 ((d : Int) + 1)] w (RfEnds ((rdNum (s.data.toList.drop 3)).map fun x => (.mk 2 x.1 0 [], x.2)) s.size w) := by
  have hs1 : 3 ≤ s.size := by have := pre_length p2; rw [ba_size] at this; simpa using this
  have hs0 : 0 < s.size := by omega
  have hx : s[0] = 120 := by
    have h2 : pre [120] s.data.toList = true := by
      unfold pre; rw [List.isPrefixOf_iff_prefix] at p2 ⊢
      exact (show ([120] : List UInt8) <+: [120, 60, 61] from ⟨[60, 61], rfl⟩).trans p2
    rw [pre_one _ _ hs0] at h2; simpa using h2
  have t0 : (((d : Int) + 1) == 0) = false := by simp; omega
  have t1 : ((s[0].toNat : Int) == 120) = true := by rw [hx]; rfl
  have he : (s.extract 3 s.size).data.toList = s.data.toList.drop 3 := by rw [ba_extract, List.take_of_length_le (by simp)]
  have hel : (s.extract 3 s.size).size ≤ s.size - 3 := by rw [← ba_size, he]; simp
  have HE := Lib.hid he
  clear hx he
  go_enter Tryz.func164, Tryz.ntmps164
  go_wp2_with (go_at_call 246; refine (begins_any s _ _ (by omega) (by decide)).mono ?_; rintro e w1 ⟨rfl, rfl⟩)
  refine (value_any _ _ (by omega)).mono ?_
  rintro e w1 ⟨n, r, ok, rfl, hn, hok1, hok2, hr, hb⟩
  rw [HE.out] at hok1 hok2
  have HV := Lib.hid (And.intro hok1 (And.intro hok2 hb))
  have hh := (hb.block w.heap.size (by simp)).trans (heap_alloc_at w _ _ rfl)
  have hrl : r.size ≤ s.size := by rw [ba_size] at hr; omega
  have HH := Lib.hid hh
  clear hok1 hok2 hb hh hr
  go_wp2_with (first
    | (refine wpList_store_row rfl 38 (.tmp 4) (.tmp 46) rfl rfl w.heap.size rfl _ rfl 38 _ HH.out (by kernel_rfl) rfl (by simp [Value.oneCell']) ?_))
  refine bodyPost_ret (v := .tuple #[.agg #[.int .i64 2, .int .u64 n, .int .u64 0, .slice none 0 0], .string r, .bool ok])
    (results_row3 rfl _ _ w.heap.size 38 _ _ _ _ _ rfl (setRow_heap _ _ _ _ _ _ HH.out) Tryz.underlying38 rfl (by kernel_rfl) rfl rfl) rfl ?_
  obtain ⟨hok1, hok2, hb⟩ := HV.out
  refine ⟨.mk 2 n 0 [], _, _, _, rfl, rep_leaf (by omega) (by omega) hn (by omega), fun h => by rw [hok1 h]; rfl, fun h => by rw [hok2 h]; rfl, hrl, below_setRow (((Below.refl _ _).alloc (Nat.le_refl _) _).trans (hb.mono (by simp))) _ _ (Nat.le_refl _)⟩
set_option maxHeartbeats 1000000 in
set_option maxRecDepth 100000 in
theorem read_v (d : Nat) (hd : d ≤ 100) (s : ByteArray) (w : World) (hs : s.size ≤ 1000) (p1 : List.isPrefixOf [97, 108, 108] s.data.toList = false) (p2 : List.isPrefixOf [120, 60, 61] s.data.toList = false) (p3 : List.isPrefixOf [118, 60, 61] s.data.toList = true) :
    Calls Tryz.prog 164 #[.string s, .int .i64 ((d : Int) + 1)] w (RfEnds ((rdNum (s.data.toList.drop 3)).map fun x => (.mk 3 x.1 0 [], x.2)) s.size w) := by
  have hs1 : 3 ≤ s.size := by have := pre_length p3; rw [ba_size] at this; simpa using this
  have hs0 : 0 < s.size := by omega
  have hx : s[0] = 118 := by
    have h2 : pre [118] s.data.toList = true := by
      unfold pre; rw [List.isPrefixOf_iff_prefix] at p3 ⊢
      exact (show ([118] : List UInt8) <+: [118, 60, 61] from ⟨[60, 61], rfl⟩).trans p3
    rw [pre_one _ _ hs0] at h2; simpa using h2
  have t0 : (((d : Int) + 1) == 0) = false := by simp; omega
  have t1 : ((s[0].toNat : Int) == 120) = false := by rw [hx]; rfl
  have he : (s.extract 3 s.size).data.toList = s.data.toList.drop 3 := by rw [ba_extract, List.take_of_length_le (by simp)]
  have hel : (s.extract 3 s.size).size ≤ s.size - 3 := by rw [← ba_size, he]; simp
  have HE := Lib.hid he
  clear hx he
  go_enter Tryz.func164, Tryz.ntmps164
  go_wp2_with (go_at_call 246; refine (begins_any s _ _ (by omega) (by decide)).mono ?_; rintro e w1 ⟨rfl, rfl⟩)
  refine (value_any _ _ (by omega)).mono ?_
  rintro e w1 ⟨n, r, ok, rfl, hn, hok1, hok2, hr, hb⟩
  rw [HE.out] at hok1 hok2
  have HV := Lib.hid (And.intro hok1 (And.intro hok2 hb))
  have hh := (hb.block w.heap.size (by simp)).trans (heap_alloc_at w _ _ rfl)
  have hrl : r.size ≤ s.size := by rw [ba_size] at hr; omega
  have HH := Lib.hid hh
  clear hok1 hok2 hb hh hr
  go_wp2_with (first
    | (refine wpList_store_row rfl 38 (.tmp 4) (.tmp 50) rfl rfl w.heap.size rfl _ rfl 38 _ HH.out (by kernel_rfl) rfl (by simp [Value.oneCell']) ?_))
  refine bodyPost_ret (v := .tuple #[.agg #[.int .i64 3, .int .u64 n, .int .u64 0, .slice none 0 0], .string r, .bool ok])
    (results_row3 rfl _ _ w.heap.size 38 _ _ _ _ _ rfl (setRow_heap _ _ _ _ _ _ HH.out) Tryz.underlying38 rfl (by kernel_rfl) rfl rfl) rfl ?_
  obtain ⟨hok1, hok2, hb⟩ := HV.out
  refine ⟨.mk 3 n 0 [], _, _, _, rfl, rep_leaf (by omega) (by omega) hn (by omega), fun h => by rw [hok1 h]; rfl, fun h => by rw [hok2 h]; rfl, hrl, below_setRow (((Below.refl _ _).alloc (Nat.le_refl _) _).trans (hb.mono (by simp))) _ _ (Nat.le_refl _)⟩
def rfMod (l : List UInt8) : Option (Ex × List UInt8) := match rdNum (l.drop 2) with
  | none => none
  | some (a, r) => if pre [61] r then (rdNum (r.drop 1)).map (fun x => (.mk 4 a x.1 [], x.2)) else none
set_option maxHeartbeats 2000000 in
set_option maxRecDepth 100000 in
theorem read_m (d : Nat) (hd : d ≤ 100) (s : ByteArray) (w : World) (hs : s.size ≤ 1000) (p1 : List.isPrefixOf [97, 108, 108] s.data.toList = false) (p2 : List.isPrefixOf [120, 60, 61] s.data.toList = false) (p3 : List.isPrefixOf [118, 60, 61] s.data.toList = false) (p4 : List.isPrefixOf [118, 37] s.data.toList = true) :
    Calls Tryz.prog 164 #[.string s, .int .i64 ((d : Int) + 1)] w (RfEnds (rfMod s.data.toList) s.size w) := by
  have hs1 : 2 ≤ s.size := by have := pre_length p4; rw [ba_size] at this; simpa using this
  have t0 : (((d : Int) + 1) == 0) = false := by simp; omega
  have he : (s.extract 2 s.size).data.toList = s.data.toList.drop 2 := by rw [ba_extract, List.take_of_length_le (by simp)]
  have hel : (s.extract 2 s.size).size ≤ s.size - 2 := by rw [← ba_size, he]; simp
  have HE := Lib.hid he
  clear he
  go_enter Tryz.func164, Tryz.ntmps164
  go_wp2_with (go_at_call 246; refine (begins_any s _ _ (by omega) (by decide)).mono ?_; rintro e w1 ⟨rfl, rfl⟩)
  refine (value_any _ _ (by omega)).mono ?_
  rintro e w1 ⟨n, r, ok, rfl, hn, hok1, hok2, hr, hb⟩
  rw [HE.out] at hok1 hok2
  have hh := (hb.block w.heap.size (by simp)).trans (heap_alloc_at w _ _ rfl)
  have hrl : r.size ≤ s.size := by rw [ba_size] at hr; omega
  have hbw : Below w.heap.size w w1 := ((Below.refl _ _).alloc (Nat.le_refl _) _).trans (hb.mono (by simp))
  have hsz1 : w.heap.size < w1.heap.size := by have := hb.size; simp at this; omega
  have HH := Lib.hid hh
  have HV := Lib.hid (And.intro hok1 (And.intro hok2 hbw))
  clear hok1 hok2 hb hh hr hbw
  cases ok with
  | false =>
    go_wp2_with (first
      | (refine wpList_store_row rfl 38 (.tmp 4) (.tmp 70) rfl rfl w.heap.size rfl _ rfl 38 _ HH.out (by kernel_rfl) rfl (by simp [Value.oneCell']) ?_))
    refine bodyPost_ret (v := .tuple #[.agg #[.int .i64 0, .int .u64 0, .int .u64 0, .slice none 0 0], .string s, .bool false])
      (results_row3 rfl _ _ w.heap.size 38 _ _ _ _ _ rfl (setRow_heap _ _ _ _ _ _ HH.out) Tryz.underlying38 rfl (by kernel_rfl) rfl rfl) rfl ?_
    refine ⟨.mk 0 0 0 [], _, _, _, rfl, rep_leaf (by omega) (by omega) (by omega) (by omega), (fun h => by cases h), fun _ => ?_, Nat.le_refl _, below_setRow HV.out.2.2 _ _ (Nat.le_refl _)⟩
    rw [rfMod, HV.out.2.1 (by trivial)]
  | true =>
    have hrd := HV.out.1 (by trivial)
    have HRD := Lib.hid hrd
    clear hrd
    by_cases hp : List.isPrefixOf [61] r.data.toList = true
    · have hr1 : 1 ≤ r.size := by have := pre_length hp; rw [ba_size] at this; simpa using this
      have hp2 := Lib.hid (show pre [61] r.data.toList = true from hp)
      have he : (r.extract 1 r.size).data.toList = r.data.toList.drop 1 := by rw [ba_extract, List.take_of_length_le (by simp)]
      have hel2 : (r.extract 1 r.size).size ≤ r.size - 1 := by rw [← ba_size, he]; simp
      have HE2 := Lib.hid he
      clear he
      go_wp2_with (go_at_call 246; refine (begins_any r _ _ (by omega) (by decide)).mono ?_; rintro e w2 ⟨rfl, rfl⟩)
      refine (value_any _ _ (by omega)).mono ?_
      rintro e w3 ⟨m, q, ok, rfl, hm, hok1, hok2, hq, hb⟩
      rw [HE2.out] at hok1 hok2
      have hh := (hb.block w.heap.size hsz1).trans HH.out
      have HH3 := Lib.hid hh
      have HV3 := Lib.hid (And.intro hok1 (And.intro hok2 hb))
      have hql : q.size ≤ s.size := by rw [ba_size] at hq; omega
      clear hok1 hok2 hb hh hq
      go_wp2_with (first
        | (refine wpList_store_row rfl 38 (.tmp 4) (.tmp 81) rfl rfl w.heap.size rfl _ rfl 38 _ HH3.out (by kernel_rfl) rfl (by simp [Value.oneCell']) ?_))
      refine bodyPost_ret (v := .tuple #[.agg #[.int .i64 4, .int .u64 n, .int .u64 m, .slice none 0 0], .string q, .bool ok])
        (results_row3 rfl _ _ w.heap.size 38 _ _ _ _ _ rfl (setRow_heap _ _ _ _ _ _ HH3.out) Tryz.underlying38 rfl (by kernel_rfl) rfl rfl) rfl ?_
      obtain ⟨hok1, hok2, hb⟩ := HV3.out
      refine ⟨.mk 4 n m [], _, _, _, rfl, rep_leaf (by omega) (by omega) hn hm, fun h => ?_, fun h => ?_, hql, below_setRow (HV.out.2.2.trans (hb.mono (by omega))) _ _ (Nat.le_refl _)⟩
      · rw [rfMod, HRD.out]; simp only [hp2.out, if_true, hok1 h, Option.map_some]
      · rw [rfMod, HRD.out]; simp only [hp2.out, if_true, hok2 h, Option.map_none]
    · have hp' : List.isPrefixOf [61] r.data.toList = false := Bool.eq_false_iff.2 hp
      have hp2 := Lib.hid (show pre [61] r.data.toList = false from hp')
      clear hp
      go_wp2_with (first
        | (go_at_call 246; refine (begins_any r _ _ (by omega) (by decide)).mono ?_; rintro e w2 ⟨rfl, rfl⟩)
        | (refine wpList_store_row rfl 38 (.tmp 4) (.tmp 70) rfl rfl w.heap.size rfl _ rfl 38 _ HH.out (by kernel_rfl) rfl (by simp [Value.oneCell']) ?_))
      refine bodyPost_ret (v := .tuple #[.agg #[.int .i64 0, .int .u64 0, .int .u64 0, .slice none 0 0], .string s, .bool false])
        (results_row3 rfl _ _ w.heap.size 38 _ _ _ _ _ rfl (setRow_heap _ _ _ _ _ _ HH.out) Tryz.underlying38 rfl (by kernel_rfl) rfl rfl) rfl ?_
      refine ⟨.mk 0 0 0 [], _, _, _, rfl, rep_leaf (by omega) (by omega) (by omega) (by omega), (fun h => by cases h), fun _ => ?_, Nat.le_refl _, below_setRow HV.out.2.2 _ _ (Nat.le_refl _)⟩
      rw [rfMod, HRD.out]; simp [hp2.out]
end Go.Proofs.YtjedgiiplebofaaGreatDoor
namespace Go.Proofs.YtjedgiiplebofaaGreatDoor
open Go.RowKit Go
set_option linter.unusedVariables false
set_option linter.unusedSimpArgs false
theorem sl4_lit (w : World) (S : Nat → Prop) (c0 c1 c2 c3 : Value) (T : TypeId) (hS : S w.heap.size) : Sl (w.alloc (.cells #[c0, c1, c2, c3] T)) S true 4 1 [c0, c1, c2, c3] (.slice (some ⟨w.heap.size, 0, none⟩) 1 1) := by
  refine ⟨by simp, by omega, _, _, rfl, by omega, fun _ => ⟨_, _, rfl, hS, fun j hj => ?_⟩⟩
  have hj2 : j < 4 := by simpa using hj
  rw [cell_of_row _ _ (0 + j) _ T (0, 0) (heap_alloc_new w _), frozen_of_row _ _ (0 + j) _ T (heap_alloc_new w _)]
  have hc : j = 0 ∨ j = 1 ∨ j = 2 ∨ j = 3 := by omega
  rcases hc with rfl | rfl | rfl | rfl <;> simp
set_option maxHeartbeats 1000000 in
set_option maxRecDepth 100000 in
theorem read_not (d : Nat) (hd : d ≤ 100) (IH : Hid (∀ (s : ByteArray) (w : World), s.size ≤ 1000 → Calls Tryz.prog 164 #[.string s, .int .i64 d] w (RfEnds (rfE d s.data.toList) s.size w))) (s : ByteArray) (w : World) (hs : s.size ≤ 1000) (p1 : List.isPrefixOf [97, 108, 108] s.data.toList = false) (p2 : List.isPrefixOf [120, 60, 61] s.data.toList = false) (p3 : List.isPrefixOf [118, 60, 61] s.data.toList = false) (p4 : List.isPrefixOf [118, 37] s.data.toList = false) (p5 : List.isPrefixOf [33] s.data.toList = true) :
    Calls Tryz.prog 164 #[.string s, .int .i64 ((d : Int) + 1)] w (RfEnds ((rfE d (s.data.toList.drop 1)).map fun x => (.mk 5 0 0 [x.1], x.2)) s.size w) := by
  have hs1 : 1 ≤ s.size := by have := pre_length p5; rw [ba_size] at this; simpa using this
  have t0 : (((d : Int) + 1) == 0) = false := by simp; omega
  have he : (s.extract 1 s.size).data.toList = s.data.toList.drop 1 := by rw [ba_extract, List.take_of_length_le (by simp)]
  have hel : (s.extract 1 s.size).size ≤ s.size - 1 := by rw [← ba_size, he]; simp
  have HE := Lib.hid he
  clear he
  go_enter Tryz.func164, Tryz.ntmps164
  go_wp2_with (go_at_call 246; refine (begins_any s _ _ (by omega) (by decide)).mono ?_; rintro e w1 ⟨rfl, rfl⟩)
  refine (IH.out _ _ (by omega)).mono ?_
  rintro e w1 ⟨t, v, r, ok, rfl, hv, hok1, hok2, hr, hb⟩
  rw [HE.out] at hok1 hok2
  obtain ⟨q0, q1, q2, q3, q4, q5, rfl⟩ := hv.conc
  have hbw : Below w.heap.size w w1 := ((Below.refl _ _).alloc (Nat.le_refl _) _).trans (hb.mono (by simp))
  have hsz1 : w.heap.size < w1.heap.size := by have := hb.size; simp at this; omega
  have hh := (hb.block w.heap.size (by simp)).trans (heap_alloc_at w _ _ rfl)
  have HH := Lib.hid (((heap_alloc_lt _ (.cells #[.int .i64 q0, .int .u64 q1, .int .u64 q2, .slice q3 q4 q5] 38) _ (by simp; omega)).trans ((heap_alloc_lt w1 (.cells #[.int .i64 q0, .int .u64 q1, .int .u64 q2, .slice q3 q4 q5] 38) _ hsz1).trans hh)))
  have HV := Lib.hid (And.intro hok1 (And.intro hok2 (And.intro hv hbw)))
  have hrl : r.size ≤ s.size := by omega
  clear hok1 hok2 hb hh hr hv hbw
  go_wp2_with (first
    | (refine wpList_store_row rfl 38 (.tmp 4) (.tmp 98) rfl rfl w.heap.size rfl _ rfl 38 _ HH.out (by kernel_rfl) rfl (by simp [Value.oneCell']) ?_))
  refine bodyPost_ret (v := .tuple #[.agg #[.int .i64 5, .int .u64 0, .int .u64 0, .slice (some ⟨w1.heap.size + 1, 0, none⟩) 1 1], .string r, .bool ok])
    (results_row3 rfl _ _ w.heap.size 38 _ _ _ _ _ rfl (setRow_heap _ _ _ _ _ _ HH.out) Tryz.underlying38 rfl (by kernel_rfl) rfl rfl) rfl ?_
  obtain ⟨hok1, hok2, hv, hbw⟩ := HV.out
  refine ⟨.mk 5 0 0 [t], _, _, _, rfl, ?_, fun h => by rw [hok1 h]; rfl, fun h => by rw [hok2 h]; rfl, hrl, below_setRow ((hbw.alloc (by omega) _).alloc (by simp; omega) _) _ _ (Nat.le_refl _)⟩
  have hK : Keeps (fun b => w.heap.size + 1 ≤ b) ((w1.alloc (.cells #[.int .i64 q0, .int .u64 q1, .int .u64 q2, .slice q3 q4 q5] 38)).alloc (.cells #[.int .i64 q0, .int .u64 q1, .int .u64 q2, .slice q3 q4 q5] 38))
      ((((w1.alloc (.cells #[.int .i64 q0, .int .u64 q1, .int .u64 q2, .slice q3 q4 q5] 38)).alloc (.cells #[.int .i64 q0, .int .u64 q1, .int .u64 q2, .slice q3 q4 q5] 38))).setRow w.heap.size #[.int .i64 5, .int .u64 0, .int .u64 0, .slice (some ⟨w1.heap.size + 1, 0, none⟩) 1 1]) :=
    fun b hb _ => setRow_other _ _ _ _ (by omega)
  have hsl := sl4_lit (w1.alloc (.cells #[.int .i64 q0, .int .u64 q1, .int .u64 q2, .slice q3 q4 q5] 38)) (fun b => w.heap.size + 1 ≤ b) (.int .i64 q0) (.int .u64 q1) (.int .u64 q2) (.slice q3 q4 q5) 38 (by simp; omega)
  rw [World.size_alloc] at hsl
  have hvv := (hv.below ((Below.refl w1.heap.size w1).alloc (Nat.le_refl _) (.cells #[.int .i64 q0, .int .u64 q1, .int .u64 q2, .slice q3 q4 q5] 38)) (Nat.le_refl _)).below ((Below.refl _ _).alloc (Nat.le_refl _) (.cells #[.int .i64 q0, .int .u64 q1, .int .u64 q2, .slice q3 q4 q5] 38)) (Nat.le_refl _)
  simp only [RepE]
  refine ⟨_, _, rfl, by omega, by omega, by omega, by omega, hsl.keep (by omega) hK (fun b _ h => by omega), RepEs.keep hK (fun b _ h => by omega) (RepEs.one (hvv.wider (fun b _ h => by simp at h; omega)))⟩
set_option maxHeartbeats 1000000 in
set_option maxRecDepth 100000 in
theorem read_row6 (d : Nat) (hd : d ≤ 100) (IH : Hid (∀ (s : ByteArray) (w : World), s.size ≤ 1000 → Calls Tryz.prog 164 #[.string s, .int .i64 d] w (RfEnds (rfE d s.data.toList) s.size w))) (s : ByteArray) (w : World) (hs : s.size ≤ 1000) (p1 : List.isPrefixOf [97, 108, 108] s.data.toList = false) (p2 : List.isPrefixOf [120, 60, 61] s.data.toList = false) (p3 : List.isPrefixOf [118, 60, 61] s.data.toList = false) (p4 : List.isPrefixOf [118, 37] s.data.toList = false) (p5 : List.isPrefixOf [33] s.data.toList = false) (p6 : List.isPrefixOf [38, 40] s.data.toList = true) :
    Calls Tryz.prog 164 #[.string s, .int .i64 ((d : Int) + 1)] w (RfEnds ((rfParts (rfE d) (s.data.toList.drop 2)).map fun x => (.mk 6 0 0 x.1, x.2)) s.size w) := by
  have hs1 : 2 ≤ s.size := by have := pre_length p6; rw [ba_size] at this; simpa using this
  have t0 : (((d : Int) + 1) == 0) = false := by simp; omega
  have he : (s.extract 2 s.size).data.toList = s.data.toList.drop 2 := by rw [ba_extract, List.take_of_length_le (by simp)]
  have hel : (s.extract 2 s.size).size ≤ s.size - 2 := by rw [← ba_size, he]; simp
  have HE := Lib.hid he
  clear he
  go_enter Tryz.func164, Tryz.ntmps164
  go_wp2_with (go_at_call 246; refine (begins_any s _ _ (by omega) (by decide)).mono ?_; rintro e w1 ⟨rfl, rfl⟩)
  refine (row_of d hd IH 6 (by omega) (by omega) _ _ (by omega)).mono ?_
  rintro e w1 ⟨t, v, r, ok, rfl, hv, hok1, hok2, hr, hb⟩
  rw [HE.out] at hok1 hok2
  obtain ⟨q0, q1, q2, q3, q4, q5, rfl⟩ := hv.conc
  have hbw : Below w.heap.size w w1 := ((Below.refl _ _).alloc (Nat.le_refl _) _).trans (hb.mono (by simp))
  have hsz1 : w.heap.size < w1.heap.size := by have := hb.size; simp at this; omega
  have HH := Lib.hid ((hb.block w.heap.size (by simp)).trans (heap_alloc_at w _ _ rfl))
  have HV := Lib.hid (And.intro hok1 (And.intro hok2 (And.intro hv hbw)))
  have hrl : r.size ≤ s.size := by omega
  clear hok1 hok2 hb hr hv hbw
  go_wp2_with (first
    | (refine wpList_store_row rfl 38 (.tmp 4) (.tmp 109) rfl rfl w.heap.size rfl _ rfl 38 _ HH.out (by kernel_rfl) rfl (by simp [Value.oneCell']) ?_))
  refine bodyPost_ret (v := .tuple #[.agg #[.int .i64 q0, .int .u64 q1, .int .u64 q2, .slice q3 q4 q5], .string r, .bool ok])
    (results_row3 rfl _ _ w.heap.size 38 _ _ _ _ _ rfl (setRow_heap _ _ _ _ _ _ HH.out) Tryz.underlying38 rfl (by kernel_rfl) rfl rfl) rfl ?_
  obtain ⟨hok1, hok2, hv, hbw⟩ := HV.out
  refine ⟨t, _, _, _, rfl, RepE.keep (w := w1) (S := fun b => w.heap.size + 1 ≤ b) (fun b hb _ => setRow_other _ _ _ _ (by omega)) (fun b _ h => by omega) (hv.wider (fun b _ h => by simp at h; omega)), hok1, hok2, hrl, below_setRow hbw _ _ (Nat.le_refl _)⟩
set_option maxHeartbeats 1000000 in
set_option maxRecDepth 100000 in
theorem read_row7 (d : Nat) (hd : d ≤ 100) (IH : Hid (∀ (s : ByteArray) (w : World), s.size ≤ 1000 → Calls Tryz.prog 164 #[.string s, .int .i64 d] w (RfEnds (rfE d s.data.toList) s.size w))) (s : ByteArray) (w : World) (hs : s.size ≤ 1000) (p1 : List.isPrefixOf [97, 108, 108] s.data.toList = false) (p2 : List.isPrefixOf [120, 60, 61] s.data.toList = false) (p3 : List.isPrefixOf [118, 60, 61] s.data.toList = false) (p4 : List.isPrefixOf [118, 37] s.data.toList = false) (p5 : List.isPrefixOf [33] s.data.toList = false) (p6 : List.isPrefixOf [38, 40] s.data.toList = false) (p7 : List.isPrefixOf [124, 40] s.data.toList = true) :
    Calls Tryz.prog 164 #[.string s, .int .i64 ((d : Int) + 1)] w (RfEnds ((rfParts (rfE d) (s.data.toList.drop 2)).map fun x => (.mk 7 0 0 x.1, x.2)) s.size w) := by
  have hs1 : 2 ≤ s.size := by have := pre_length p7; rw [ba_size] at this; simpa using this
  have t0 : (((d : Int) + 1) == 0) = false := by simp; omega
  have he : (s.extract 2 s.size).data.toList = s.data.toList.drop 2 := by rw [ba_extract, List.take_of_length_le (by simp)]
  have hel : (s.extract 2 s.size).size ≤ s.size - 2 := by rw [← ba_size, he]; simp
  have HE := Lib.hid he
  clear he
  go_enter Tryz.func164, Tryz.ntmps164
  go_wp2_with (go_at_call 246; refine (begins_any s _ _ (by omega) (by decide)).mono ?_; rintro e w1 ⟨rfl, rfl⟩)
  refine (row_of d hd IH 7 (by omega) (by omega) _ _ (by omega)).mono ?_
  rintro e w1 ⟨t, v, r, ok, rfl, hv, hok1, hok2, hr, hb⟩
  rw [HE.out] at hok1 hok2
  obtain ⟨q0, q1, q2, q3, q4, q5, rfl⟩ := hv.conc
  have hbw : Below w.heap.size w w1 := ((Below.refl _ _).alloc (Nat.le_refl _) _).trans (hb.mono (by simp))
  have hsz1 : w.heap.size < w1.heap.size := by have := hb.size; simp at this; omega
  have HH := Lib.hid ((hb.block w.heap.size (by simp)).trans (heap_alloc_at w _ _ rfl))
  have HV := Lib.hid (And.intro hok1 (And.intro hok2 (And.intro hv hbw)))
  have hrl : r.size ≤ s.size := by omega
  clear hok1 hok2 hb hr hv hbw
  go_wp2_with (first
    | (refine wpList_store_row rfl 38 (.tmp 4) (.tmp 120) rfl rfl w.heap.size rfl _ rfl 38 _ HH.out (by kernel_rfl) rfl (by simp [Value.oneCell']) ?_))
  refine bodyPost_ret (v := .tuple #[.agg #[.int .i64 q0, .int .u64 q1, .int .u64 q2, .slice q3 q4 q5], .string r, .bool ok])
    (results_row3 rfl _ _ w.heap.size 38 _ _ _ _ _ rfl (setRow_heap _ _ _ _ _ _ HH.out) Tryz.underlying38 rfl (by kernel_rfl) rfl rfl) rfl ?_
  obtain ⟨hok1, hok2, hv, hbw⟩ := HV.out
  refine ⟨t, _, _, _, rfl, RepE.keep (w := w1) (S := fun b => w.heap.size + 1 ≤ b) (fun b hb _ => setRow_other _ _ _ _ (by omega)) (fun b _ h => by omega) (hv.wider (fun b _ h => by simp at h; omega)), hok1, hok2, hrl, below_setRow hbw _ _ (Nat.le_refl _)⟩
set_option maxHeartbeats 1000000 in
set_option maxRecDepth 100000 in
theorem read_none (d : Nat) (hd : d ≤ 100) (s : ByteArray) (w : World) (hs : s.size ≤ 1000) (p1 : List.isPrefixOf [97, 108, 108] s.data.toList = false) (p2 : List.isPrefixOf [120, 60, 61] s.data.toList = false) (p3 : List.isPrefixOf [118, 60, 61] s.data.toList = false) (p4 : List.isPrefixOf [118, 37] s.data.toList = false) (p5 : List.isPrefixOf [33] s.data.toList = false)
    (p6 : List.isPrefixOf [38, 40] s.data.toList = false) (p7 : List.isPrefixOf [124, 40] s.data.toList = false) :
    Calls Tryz.prog 164 #[.string s, .int .i64 ((d : Int) + 1)] w (RfEnds none s.size w) := by
  have t0 : (((d : Int) + 1) == 0) = false := by simp; omega
  go_enter Tryz.func164, Tryz.ntmps164
  go_wp2_with (go_at_call 246; refine (begins_any s _ _ (by omega) (by decide)).mono ?_; rintro e w1 ⟨rfl, rfl⟩)
  refine bodyPost_ret (v := .tuple #[.agg #[.int .i64 0, .int .u64 0, .int .u64 0, .slice none 0 0], .string s, .bool false])
    (results_row3 rfl _ _ w.heap.size 38 #[.int .i64 0, .int .u64 0, .int .u64 0, .slice none 0 0] (0, 0) _ _ _ rfl (by show (w.alloc _).heap[_]? = _; exact heap_alloc_at _ _ _ rfl) Tryz.underlying38 rfl (by kernel_rfl) rfl rfl) rfl ?_
  exact ⟨.mk 0 0 0 [], _, _, _, rfl, rep_leaf (by omega) (by omega) (by omega) (by omega), (fun h => by cases h), fun _ => rfl, Nat.le_refl _, (Below.refl _ _).alloc (Nat.le_refl _) _⟩
set_option maxRecDepth 100000 in
theorem read_zero (s : ByteArray) (w : World) :
    Calls Tryz.prog 164 #[.string s, .int .i64 0] w (RfEnds none s.size w) := by
  go_enter Tryz.func164, Tryz.ntmps164
  go_wp2_with fail
  refine bodyPost_ret (v := .tuple #[.agg #[.int .i64 0, .int .u64 0, .int .u64 0, .slice none 0 0], .string s, .bool false])
    (results_row3 rfl _ _ w.heap.size 38 #[.int .i64 0, .int .u64 0, .int .u64 0, .slice none 0 0] (0, 0) _ _ _ rfl (by show (w.alloc _).heap[_]? = _; exact heap_alloc_at _ _ _ rfl) Tryz.underlying38 rfl (by kernel_rfl) rfl rfl) rfl ?_
  exact ⟨.mk 0 0 0 [], _, _, _, rfl, rep_leaf (by omega) (by omega) (by omega) (by omega), (fun h => by cases h), fun _ => rfl, Nat.le_refl _, (Below.refl _ _).alloc (Nat.le_refl _) _⟩
theorem read_any (d : Nat) : ∀ (s : ByteArray) (w : World), d ≤ 100 → s.size ≤ 1000 → Calls Tryz.prog 164 #[.string s, .int .i64 d] w (RfEnds (rfE d s.data.toList) s.size w) := by
  induction d with
  | zero => intro s w _ hs; exact read_zero s w
  | succ d ih =>
    intro s w hd hs
    have IH : Hid (∀ (s : ByteArray) (w : World), s.size ≤ 1000 → Calls Tryz.prog 164 #[.string s, .int .i64 d] w (RfEnds (rfE d s.data.toList) s.size w)) := Lib.hid fun s w h => ih s w (by omega) h
    have e : (((d + 1 : Nat) : Int)) = (d : Int) + 1 := by omega
    rw [e, rfE]
    by_cases p1 : pre [97, 108, 108] s.data.toList = true
    · rw [if_pos p1]; exact read_all d (by omega) s w hs p1
    rw [if_neg p1]
    have p1' := Bool.eq_false_iff.2 p1
    by_cases p2 : pre [120, 60, 61] s.data.toList = true
    · rw [if_pos p2]; exact read_x d (by omega) s w hs p1' p2
    rw [if_neg p2]
    have p2' := Bool.eq_false_iff.2 p2
    by_cases p3 : pre [118, 60, 61] s.data.toList = true
    · rw [if_pos p3]; exact read_v d (by omega) s w hs p1' p2' p3
    rw [if_neg p3]
    have p3' := Bool.eq_false_iff.2 p3
    by_cases p4 : pre [118, 37] s.data.toList = true
    · rw [if_pos p4]; exact read_m d (by omega) s w hs p1' p2' p3' p4
    rw [if_neg p4]
    have p4' := Bool.eq_false_iff.2 p4
    by_cases p5 : pre [33] s.data.toList = true
    · rw [if_pos p5]; exact read_not d (by omega) IH s w hs p1' p2' p3' p4' p5
    rw [if_neg p5]
    have p5' := Bool.eq_false_iff.2 p5
    by_cases p6 : pre [38, 40] s.data.toList = true
    · rw [if_pos p6]; exact read_row6 d (by omega) IH s w hs p1' p2' p3' p4' p5' p6
    rw [if_neg p6]
    have p6' := Bool.eq_false_iff.2 p6
    by_cases p7 : pre [124, 40] s.data.toList = true
    · rw [if_pos p7]; exact read_row7 d (by omega) IH s w hs p1' p2' p3' p4' p5' p6' p7
    rw [if_neg p7]
    exact read_none d (by omega) s w hs p1' p2' p3' p4' p5' p6' (Bool.eq_false_iff.2 p7)
end Go.Proofs.YtjedgiiplebofaaGreatDoor
