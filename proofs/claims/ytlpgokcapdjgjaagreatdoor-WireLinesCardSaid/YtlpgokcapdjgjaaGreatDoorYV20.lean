/- Walks. -/
import Derived.Test.YtlpgokcapdjgjaaGreatDoorY48
import Derived.IntWalk
set_option maxHeartbeats 1000000
set_option maxRecDepth 100000
namespace Go.Proofs.YtlpgokcapdjgjaaGreatDoor
open Go.RowKit Go
set_option linter.unusedVariables false
set_option linter.unusedSimpArgs false
theorem Ar (l : List UInt8) (k : Nat) (h : k < l.length) : aj (l.take (k + 1)) = (aj (l.take k) * 10 + (l[k].toNat + 208) % 256) % 18446744073709551616 := by
 rw [List.take_succ_eq_append_getElem h, kL]
theorem Dk (V c n : Nat) (hc : c < 256) (h : n = (V * 10 + (c + 208) % 256) % 18446744073709551616) : Value.int .u64 (IntKind.u64.wrap (IntKind.u64.wrap ((V : Int) * 10) + IntKind.u8.wrap ((c : Int) - 48))) = .int .u64 (n : Int) := by
 subst h
 congr 1
 simp only [IntKind.wrap, IntKind.signed, IntKind.bits]
 simp
 omega
theorem dm (s : ByteArray) (w : World) (hs : s.size ≤ 1000000) : Calls Tryz.prog 53 #[.string s] w fun e w' => e = .returned (.int .u64 (aj s.data.toList : Nat)) ∧ w' = w := by
 have hz : s.data.toList.length = s.size := af s
 go_enter Tryz.func53, Tryz.ntmps53
 go_wp2_with fail
 go_loop [3, 4] (fun n i => ∃ j : Nat, j ≤ s.size ∧ i = .int .i64 j ∧ n = .int .u64 (aj (s.data.toList.take j) : Nat)) (fun _ i => s.size - (intOf i).toNat)
 case atStart => exact ⟨0, by omega, rfl, rfl⟩
 case round =>
  obtain ⟨j, hj, rfl, rfl⟩ := hrel
  by_cases hlt : j < s.size
  ·have hv := cK (s.data.toList.take j)
   have HV := hid (Ar s.data.toList j (by omega))
   go_wp2_with fail
   go_round
   case rel => exact ⟨j + 1, by omega, by go_num, by rw [HV.out]; exact Dk _ _ _ (UInt8.toNat_lt _) rfl⟩
   case measure => simp [intOf]; omega
  ·have hj2 : j = s.size := by omega
   subst hj2
   go_wp2_with fail
   go_ret
   exact ⟨by rw [List.take_of_length_le (by omega)]; rfl, rfl⟩
theorem Au {w : World} {base : Nat} {e : TypeId} {g cap : Nat} {x v : Value} {xs : List Value} (h : w.ownsRow base e 1 (.slice (some ⟨g, 0, none⟩) (xs.length + 1) cap) (xs.length + 1) (xs ++ [x])) :
  (w.setCell ⟨g, xs.length, none⟩ v).ownsRow base e 1 (.slice (some ⟨g, 0, none⟩) (xs.length + 1) cap) (xs.length + 1) (xs ++ [v]) := by
 obtain ⟨hl, h⟩ := h
 rcases h with ⟨h, _⟩ | ⟨g', cap', cur, hv, hb, hg, hn, hm, hs, ht⟩
 ·simp at h
 ·simp only [Value.slice.injEq, Option.some.injEq, Addr.mk.injEq, and_true, true_and] at hv
  obtain ⟨rfl, rfl⟩ := hv
  refine ⟨by simp, .inr ⟨g, cap, cur.setIfInBounds xs.length v, rfl, hb, ae hg rfl, hn, hm, by simpa using hs, ?_⟩⟩
  rw [Array.toList_setIfInBounds, List.take_set, ht]
  simp
theorem Av {c : UInt8} {l : List UInt8} {j : Nat} (h : j < l.length) : (l[j] = c → cuts c (l.take (j + 1)) = cuts c (l.take j) ++ [[]]) ∧ (l[j] ≠ c → ∀ x r, cuts c (l.take j) = r ++ [x] → cuts c (l.take (j + 1)) = r ++ [x ++ [l[j]]]) := by
 rw [List.take_succ_eq_append_getElem h]
 constructor
 ·intro e; rw [e]; exact pI c _
 ·intro e x r hx; exact oC e _ hx
theorem zI {α : Type} {l : List α} (h : l ≠ []) : ∃ r x, l = r ++ [x] := ⟨l.dropLast, l.getLast h, (List.dropLast_concat_getLast h).symm⟩
theorem bJ (c : UInt8) (l : List UInt8) : (cuts c l).length ≤ l.length + 1 := by
 induction l with
 | nil => simp [cuts]
 | cons b l ih =>
  simp only [cuts]
  split
  ·simp; omega
  ·split <;> rename_i h <;> rw [h] at ih <;> simp at ih ⊢ <;> omega
theorem aV (c : UInt8) (l : List UInt8) : ∀ x ∈ cuts c l, x.length ≤ l.length := by
 induction l with
 | nil => simp [cuts]
 | cons b l ih =>
  simp only [cuts]
  split
  ·intro x hx
   rcases List.mem_cons.1 hx with rfl | hx
   ·simp
   ·have := ih x hx; simp; omega
  ·split
   ·rename_i h; exact absurd h (dR _ _)
   ·rename_i y r h
    rw [h] at ih
    intro x hx
    rcases List.mem_cons.1 hx with rfl | hx
    ·have := ih y (by simp); simp; omega
    ·have := ih x (by simp [hx]); simp; omega
theorem Dl {w : World} {base : Nat} {e : TypeId} {v x : Value} {xs : List Value} {n : Nat} (hn : n = xs.length + 1) (h : w.ownsRow base e 1 v n (xs ++ [x])) :
  ∃ g cap, v = .slice (some ⟨g, 0, none⟩) n cap ∧ base ≤ g ∧ g < w.heap.size ∧ w.cell? ⟨g, xs.length, none⟩ = some x ∧ w.frozen? ⟨g, xs.length, none⟩ = false := by
 obtain ⟨hl, h⟩ := h
 rcases h with ⟨h, h2⟩ | ⟨g, cap, cur, hv, hb, hg, hn2, hm, hs, ht⟩
 ·omega
 ·refine ⟨g, cap, hv, hb, (Array.getElem?_eq_some_iff.1 hg).1, ?_, ?_⟩
  ·rw [cell_of_row w _ _ _ _ _ hg]
   have h1 : (cur.toList.take (n * 1))[xs.length]? = some x := by rw [ht]; simp
   rw [List.getElem?_take, if_pos (by omega)] at h1
   simpa using h1
  ·rw [frozen_of_row w _ _ _ _ hg]
def ED (T : TypeId) (l : List (List UInt8)) (w : World) (e : Ending) (w' : World) : Prop := ∃ v, e = .returned v ∧ w'.ownsRow w.heap.size T 1 v l.length (strs l) ∧ Below w.heap.size w w'
theorem dn (c : UInt8) (s : ByteArray) (w : World) (hs : s.size ≤ 100000) : Calls Tryz.prog 28 #[.string s, .int .u8 c.toNat] w (ED 9 (cuts c s.data.toList) w) := by
 obtain ⟨i0, hi0, hz0, hz1, hz2⟩ := info_parts CV
 have HI := hid (And.intro hi0 (And.intro hz0 (And.intro hz1 hz2)))
 clear hi0 hz0 hz1 hz2
 have hz : s.data.toList.length = s.size := af s
 have hcl := c.toNat_lt
 go_enter Tryz.func28, Tryz.ntmps28
 go_wp2_with fail
 go_loopw [5, 6] (fun out i wr => ∃ j : Nat, j ≤ s.size ∧ i = .int .i64 j ∧ wr.ownsRow w.heap.size 9 1 out (cuts c (s.data.toList.take j)).length (strs (cuts c (s.data.toList.take j))) ∧ Below w.heap.size w wr) (fun _ i _ => s.size - (intOf i).toNat)
 case atStart =>
  refine ⟨0, by omega, rfl, ?_, br.alloc nl _⟩
  exact ownsRow_lit w w.heap.size #[.string ⟨#[]⟩] 9 nl (by simp)
 case round =>
  obtain ⟨j, hj, rfl, hown, hbel⟩ := hrel
  have hbz := hbel.size
  by_cases hlt : j < s.size
  ·have hcs := Av (c := c) (l := s.data.toList) (j := j) (by omega)
   have hne := dR c (s.data.toList.take j)
   have hcl2 := bJ c (s.data.toList.take j)
   have hcl3 : (s.data.toList.take j).length ≤ j := by simp; omega
   obtain ⟨L, hL⟩ : ∃ L, L = cuts c (s.data.toList.take j) := ⟨_, rfl⟩
   rw [← hL] at hown hcs hne hcl2
   obtain ⟨sa, sc, rfl⟩ := au hown
   have hob := hown.lt
   have hgj : s.data.toList[j]'(by omega) = s[j] := Bq s j hlt
   rw [hgj] at hcs
   by_cases hc : s[j] = c
   ·have t1 : ((s[j].toNat : Int) == (c.toNat : Int)) = true := by rw [hc]; simp
    have HC := hid (hcs.1 hc)
    have HO := hid hown
    have HB := hid hbel
    clear hcs hown hbel hL hne hc hgj
    go_wp2_with (at_builtin; go_loud (refine wpList_append_lies _ rfl (.tmp 19) (.tmp 20) 79 rfl w.heap.size 9 i0 _ 1 16 Tryz.underlying79 HI.out.1 HI.out.2.1 HI.out.2.2.1 HI.out.2.2.2 rfl (by omega) (.slice sa L.length sc) L.length (strs L) rfl (HO.out.alloc _) ⟨wr.heap.size, 0, none⟩ 1 1 [.string ⟨#[]⟩] rfl rfl (World.news_of_block (cs := #[.string ⟨#[]⟩]) (t := 9) (fr := (0, 0)) (aa _ _ _ rfl)) (by simp [Value.oneCell']) (by omega) (by unfold maxLen; omega) (by omega) (by simp; omega) (wr.heap.size + 1) (by simp) ?_); intro gg gcap w3 hown2 hgrow hat hlt2)
    have HR := hid (And.intro hown2 (Below.grown' (base := w.heap.size) HB.out hgrow (fun k hk => by have := hob k hk; omega) (by omega) (by omega)))
    clear hown2 hgrow hat
    go_roundw
    case rel =>
     refine ⟨j + 1, by omega, by go_num, ?_, HR.out.2⟩
     rw [HC.out, jN, List.length_append]; exact HR.out.1
    case measure => simp [intOf]; omega
   ·have t1 : ((s[j].toNat : Int) == (c.toNat : Int)) = false := by
     rw [beq_eq_false_iff_ne]; intro e; exact hc (UInt8.toNat.inj (by omega))
    obtain ⟨r, x, hrx⟩ := zI hne
    have HC := hid (hcs.2 hc x r hrx)
    have hll : L.length = r.length + 1 := by rw [hrx]; simp
    have hxl : x.length ≤ 100001 := by
     have := aV c (s.data.toList.take j) x (by rw [← hL, hrx]; simp)
     omega
    rw [hll] at hown hob ⊢
    rw [hrx, jN] at hown
    obtain ⟨gg, cap, hv, hg1, hg2, c0, f0⟩ := Dl (by rw [dh]) hown
    rw [hv] at hown ⊢
    rw [dh] at c0 f0
    have HO := hid hown
    have HB := hid hbel
    have hxs : (ByteArray.mk x.toArray).size = x.length := by rw [← af]
    obtain ⟨X, hX⟩ : ∃ X, X = ByteArray.mk x.toArray := ⟨_, rfl⟩
    have c0' : wr.cell? ⟨gg, r.length, none⟩ = some (.string X) := by rw [hX]; exact c0
    rw [← hX] at hxs
    have HX := hid hX
    obtain ⟨m, hm⟩ : ∃ m, m = r.length := ⟨_, rfl⟩
    rw [← hm] at HO hob f0 c0' hll ⊢
    have HM := hid hm
    clear hcs hown hbel hL hne hc hgj hv hrx hX c0 hm
    go_wp2_with fail
    have q1 : IntKind.i64.wrap (m : Int) = m := IntWalk.i64_in _ (by omega)
    have q2 : IntKind.i64.wrap ((j : Int) + 1) = j + 1 := IntWalk.i64_in _ (by omega)
    have q3 : ((j : Int) + 1).toNat = j + 1 := by omega
    have q4 : (0 : Int) ≤ (j : Int) + 1 := by omega
    have q5 : (m : Int) < (m : Int) + 1 := by omega
    have q6 : (j : Int) + 1 ≤ (s.size : Int) := by omega
    have q7 : (j : Int) ≤ (j : Int) + 1 := by omega
    have q8 : ¬ 9223372036854775807 < x.length + (min (j + 1) s.size - j) := by omega
    go_region_law (fail)
    have HF := hid (Au (v := .string (X ++ s.extract j (j + 1))) (xs := strs r) (x := .string ⟨x.toArray⟩) (by rw [dh, ← HM.out]; exact ownsRow_below HO.out (Below.refl wr.heap.size wr).drew nl))
    go_wp2_with fail
    go_roundw
    case rel =>
     refine ⟨j + 1, by omega, by go_num, ?_, (HB.out.drew).setCell (by simp; omega) _⟩
     have h1 := HF.out
     rw [dh, ← HM.out] at h1
     rw [HC.out, jN, show (r ++ [x ++ [s[j]]]).length = m + 1 from by simp [HM.out]]
     have h2 : strs [x ++ [s[j]]] = [.string (X ++ s.extract j (j + 1))] := by
      rw [HX.out]
      simp only [strs, List.map_cons, List.map_nil]
      congr 2
      apply Bp
      have h3 : (s.extract j (j + 1)).data.toList = [s[j]] := by
       rw [aT, show j + 1 - j = 1 from by omega, List.drop_eq_getElem_cons (by omega), List.take_succ_cons, List.take_zero]; rfl
      rw [ByteArray.data_append, Array.toList_append, h3]
     rw [h2]; exact h1
    case measure => simp [intOf]; omega
  ·have hj2 : j = s.size := by omega
   subst hj2
   rw [List.take_of_length_le (by omega)] at hown
   have HO := hid hown
   clear hown
   go_wp2_with fail
   go_ret
   exact ⟨_, rfl, HO.out, hbel⟩
end Go.Proofs.YtlpgokcapdjgjaaGreatDoor
