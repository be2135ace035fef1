/- Walks. -/
import Derived.Test.YtagnalfkmdjajaaGreatDoorY11
import Derived.Test.YtagnalfkmdjajaaGreatDoorY26
import Derived.Test.YtagnalfkmdjajaaGreatDoorY16
set_option maxHeartbeats 2000000
set_option maxRecDepth 100000
namespace Go.Proofs.YtagnalfkmdjajaaGreatDoor
open Go.RowKit Go
set_option linter.unusedVariables false
set_option linter.unusedSimpArgs false
def aj (n : Nat) : Int := if 9223372036854775807 < n then -2 else n
theorem eX (n : Nat) : i64 (aj n) := by unfold aj i64; split <;> omega
theorem dh (n : Nat) (w : World) (h : n < 18446744073709551616) : Calls Tryz.prog 113 #[.int .u64 n] w fun e w' => e = .returned (.int .i64 (aj n)) ∧ w' = w := by
 by_cases hn : 9223372036854775807 < n
 ·have HW : Hid (aj n = -2) := hid (if_pos hn)
  go_enter Tryz.func113, Tryz.ntmps113
  go_wp2_with fail
  go_ret
  exact ⟨by rw [HW.out]; rfl, rfl⟩
 ·have HW : Hid (aj n = (n : Int)) := hid (if_neg hn)
  have hw : IntKind.i64.wrap (n : Int) = (n : Int) := by rw [IntKind.wrap_i64]; omega
  go_enter Tryz.func113, Tryz.ntmps113
  go_wp2_with fail
  go_ret
  exact ⟨by rw [HW.out]; rfl, rfl⟩
def bI (l : List UInt8) : Int := if l.length ≤ 19 ∧ Lib.decDigits (fC l) = l then aj (fC l) else -2
theorem rF (l : List UInt8) : i64 (bI l) := by
 unfold bI
 split
 ·exact eX _
 ·unfold i64; omega
theorem iN (s : ByteArray) (w : World) (hs : s.size ≤ 1000000) : Calls Tryz.prog 90 #[.string s] w fun e w' => e = .returned (.int .i64 (bI s.data.toList)) ∧ w' = w := by
 have hz : s.data.toList.length = s.size := ay s
 have HV := hid (dJ s w hs)
 have h64 := mh s.data.toList
 have HD := hid (fH (fC s.data.toList) w h64)
 go_enter Tryz.func90, Tryz.ntmps90
 go_wp2_with fail
 go_loop [3] (fun i => ∃ j : Nat, j ≤ s.size ∧ i = .int .i64 j) (fun i => s.size - (intOf i).toNat)
 case atStart => exact ⟨0, by omega, rfl⟩
 case round =>
  obtain ⟨j, hj, rfl⟩ := hrel
  by_cases hlt : j < s.size
  ·have hc : (s[j]'hlt) = s.data.toList[j]'(by omega) := by rw [Array.getElem_toList]; rfl
   have hbad : ((s[j]'hlt).toNat < 48 ∨ 57 < (s[j]'hlt).toNat) → bI s.data.toList = -2 := fun hb => by
    unfold bI
    rw [if_neg]
    rintro ⟨_, e⟩
    have hm : s.data.toList[j]'(by omega) ∈ Lib.decDigits (fC s.data.toList) := by rw [e]; exact List.getElem_mem _
    have := di _ _ hm
    simp only [isD, Bool.and_eq_true, decide_eq_true_eq] at this
    rw [hc] at hb
    omega
   have HBAD := hid hbad
   clear hbad hc
   by_cases h48 : (s[j]'hlt).toNat < 48
   ·have HF := hid (HBAD.out (.inl h48))
    go_wp2_with fail
    go_ret
    exact ⟨by rw [HF.out]; rfl, rfl⟩
   ·by_cases h57 : 57 < (s[j]'hlt).toNat
    ·have HF := hid (HBAD.out (.inr h57))
     go_wp2_with fail
     go_ret
     exact ⟨by rw [HF.out]; rfl, rfl⟩
    ·go_wp2_with fail
     go_round
     case rel => exact ⟨j + 1, by omega, by go_num⟩
     case measure => simp [intOf]; omega
  ·have hj2 : j = s.size := by omega
   subst hj2
   by_cases h0 : s.size = 0
   ·have e0 : s.data.toList = [] := List.eq_nil_of_length_eq_zero (by omega)
    have HF : Hid (bI s.data.toList = -2) := hid (by
     unfold bI
     rw [if_neg]
     rintro ⟨_, e⟩
     rw [e0] at e
     exact fe _ e)
    have t0 : s.toList.isEmpty = true := by rw [ByteArray.toList_eq, e0]; rfl
    clear e0
    go_wp2_with fail
    go_ret
    exact ⟨by rw [HF.out]; rfl, rfl⟩
   ·have t0 : s.toList.isEmpty = false := by
     rw [ByteArray.toList_eq]
     cases h : s.data.toList with
     | nil => rw [h] at hz; exact absurd hz.symm h0
     | cons _ _ => rfl
    by_cases h19 : 19 < s.size
    ·have HF : Hid (bI s.data.toList = -2) := hid (by unfold bI; rw [if_neg]; rintro ⟨e, _⟩; omega)
     go_wp2_with fail
     go_ret
     exact ⟨by rw [HF.out]; rfl, rfl⟩
    ·go_wp2_with fail
     refine HV.out.mono ?_
     rintro e w1 ⟨rfl, rfl⟩
     go_wp2_with fail
     refine HD.out.mono ?_
     rintro e w1 ⟨rfl, rfl⟩
     have HW := hid (dh (fC s.data.toList) w1 h64)
     obtain ⟨DS, hDS⟩ : ∃ DS : ByteArray, DS = ⟨(Lib.decDigits (fC s.data.toList)).toArray⟩ := ⟨_, rfl⟩
     rw [← hDS]
     by_cases hd : DS = s
     ·have HF : Hid (bI s.data.toList = aj (fC s.data.toList)) := hid (by
       unfold bI
       rw [if_pos]
       refine ⟨by omega, ?_⟩
       have := congrArg (fun x : ByteArray => x.data.toList) (hDS.symm.trans hd)
       simpa using this)
      subst hd
      clear hDS
      go_wp2_with fail
      refine HV.out.mono ?_
      rintro e w2 ⟨rfl, rfl⟩
      go_wp2_with fail
      refine HW.out.mono ?_
      rintro e w3 ⟨rfl, rfl⟩
      go_wp2_with fail
      go_ret
      exact ⟨by rw [HF.out]; rfl, rfl⟩
     ·have HF : Hid (bI s.data.toList = -2) := hid (by
       unfold bI
       rw [if_neg]
       rintro ⟨_, e⟩
       refine hd (hDS.trans (jT ?_))
       simpa using e)
      have t1 : (DS.toList == s.toList) = false := by
       rw [beq_eq_false_iff_ne]
       intro e
       rw [ByteArray.toList_eq, ByteArray.toList_eq] at e
       exact hd (jT e)
      clear hDS
      go_wp2_with fail
      go_ret
      exact ⟨by rw [HF.out]; rfl, rfl⟩
def aF (l : List UInt8) : Int := match Lib.atoiAll l with
 | .ok v => v
 | _ => -1
theorem nK (l : List UInt8) : i64 (aF l) := by
 unfold aF
 split
 ·rename_i v h; exact Lib.atoiAll_bounds h
 ·unfold i64; omega
theorem Bo (s : ByteArray) (w : World) (hs : s.size ≤ 10000) (hL : Lq w.heap.size w) : Calls Tryz.prog 77 #[.string s] w fun e w' => ∃ v ev, e = .returned (.tuple #[.int .i64 v, ev]) ∧ (ev = .nilIface ∧ v = aF s.data.toList ∨ (∃ tp p, ev = .iface tp p) ∧ aF s.data.toList = -1) ∧ Below w.heap.size w w' := by
 rcases rC s.data.toList with ⟨u, hp⟩ | hp | hp
 ·refine (Tryz.strconv_Atoi_ok s (by omega) _ hp w).mono fun e w' => ?_
  rintro ⟨rfl, hw'⟩
  refine ⟨_, _, rfl, .inl ⟨rfl, by unfold aF; rw [hp]⟩, ?_⟩
  rcases hw' with rfl | ⟨t, rfl⟩
  ·exact br
  ·exact Lib.bytesWorld_below _ _ _
 ·obtain ⟨tp, p, hs'⟩ := hL.lv.rng
  refine (Tryz.strconv_Atoi_range_var s (by omega) hp tp p w hs').mono fun e w' => ?_
  rintro ⟨N, rfl, _, _, hb⟩
  exact ⟨_, _, rfl, .inr ⟨⟨_, _, rfl⟩, by unfold aF; rw [hp]⟩, hb⟩
 ·obtain ⟨tp, p, hs'⟩ := hL.lv.syn
  refine (Tryz.strconv_Atoi_syntax_var s (by omega) hp tp p w hs').mono fun e w' => ?_
  rintro ⟨N, rfl, _, _, hb⟩
  exact ⟨_, _, rfl, .inr ⟨⟨_, _, rfl⟩, by unfold aF; rw [hp]; rfl⟩, hb⟩
theorem jG (S : Nat → Prop) (l : List (List UInt8)) (v : Value) (w : World) (hr : gV w S l v) (hl : l.length ≤ 10000) (hm : ∀ x ∈ l, x.length ≤ 10000) (hL : Lq w.heap.size w) :
  Calls Tryz.prog 42 #[v] w fun e w' => ∃ u, e = .returned u ∧ w'.ownsRow w.heap.size 3 1 u l.length (ints (l.map aF)) ∧ Below w.heap.size w w' := by
 obtain ⟨i0, hi0, hz0, hz1, hz2⟩ := info_parts kP
 obtain ⟨_, _, ad, cap, rfl, _⟩ := Sl.shape hr
 have HR := hid (And.intro hr (And.intro hL hm))
 clear hr hL hm
 go_enter Tryz.func42, Tryz.ntmps42
 go_wp2_with fail
 go_loopw [2, 9] (fun out i wr => ∃ j : Nat, j ≤ l.length ∧ i = .int .i64 j ∧ Hid (wr.ownsRow w.heap.size 3 1 out j (ints ((l.take j).map aF)) ∧ Below w.heap.size w wr)) (fun _ i _ => l.length - (intOf i).toNat)
 case atStart => exact ⟨0, by omega, rfl, hid ⟨World.ownsRow_nil _ _ _ _, br⟩⟩
 case round =>
  obtain ⟨j, hj, rfl, HQ⟩ := hrel
  obtain ⟨sa, sc, rfl⟩ := ag HQ.out.1
  have hsz := HQ.out.2.size
  by_cases hlt : j < l.length
  ·obtain ⟨bl, off, rfl, _, hcell⟩ := gV.at HR.out.1 (by omega)
   have hc := hcell j hlt
   have g := (HQ.out.2.cell (World.block_lt_of_cell? w _ hc)).trans hc
   have hx : (l[j]).length ≤ 10000 := HR.out.2.2 _ (List.getElem_mem hlt)
   have HT : Hid (ints ((l.take (j + 1)).map aF) = ints ((l.take j).map aF) ++ [.int .i64 (aF l[j])]) := hid (by rw [List.take_succ_eq_append_getElem hlt, List.map_append, fF]; rfl)
   have HA := hid (Bo ⟨l[j].toArray⟩ wr (by rw [← ay]; simpa using hx) ((HR.out.2.1.below HQ.out.2).mono hsz))
   have hde : (⟨l[j].toArray⟩ : ByteArray).data.toList = l[j] := by simp
   rw [hde] at HA
   generalize (⟨l[j].toArray⟩ : ByteArray) = XS at g HA
   obtain ⟨a0, ha0⟩ : ∃ a0, a0 = aF l[j] := ⟨_, rfl⟩
   rw [← ha0] at HA HT
   have x1 : (0 : Int) ≤ (j : Int) := by omega
   have x2 : (j : Int) < (l.length : Int) := by omega
   clear hcell hc hx hde ha0
   go_wp2_with fail
   refine HA.out.mono ?_
   rintro e w2 ⟨n, ev, rfl, hv, hb2⟩
   have hs2 := hb2.size
   have HO := hid (And.intro (ownsRow_below HQ.out.1 hb2 nl) (HQ.out.2.trans (hb2.mono hsz)))
   clear hb2
   rcases hv with ⟨rfl, rfl⟩ | ⟨⟨tp, p, rfl⟩, ha⟩
   ·go_wp2_with (at_builtin; go_loud (refine af _ rfl (.tmp 20) (.tmp 22) _ rfl w.heap.size 3 i0 _ 1 8 Tryz.underlying22 hi0 hz0 hz1 hz2 rfl (by omega) _ j (ints ((l.take j).map aF)) rfl (HO.out.1.alloc _) _ _ 1 [.int .i64 n] _ rfl (eD _ #[.int .i64 n] 3 1 rfl (by omega)) (by simp [Value.oneCell']) (by unfold maxLen; omega) (by omega) (by simp; omega) ?_); intro v' w3 hown3 hgrow hat)
    have hlo := HO.out.1.lt
    have HN3 : Hid (w3.ownsRow w.heap.size 3 1 v' (j + 1) (ints ((l.take (j + 1)).map aF)) ∧ Below w.heap.size w w3) := hid (by
     rw [HT.out]
     exact ⟨hown3, (HO.out.2.alloc (by omega) _).grown hgrow (by simp; omega) (fun k hk => (hlo k hk).1)⟩)
    clear hown3 hgrow hat hlo
    go_roundw
    case rel => exact ⟨j + 1, by omega, by go_num, HN3⟩
    case measure => simp [intOf]; omega
   ·rw [ha] at HT
    go_wp2_with (at_builtin; go_loud (refine af _ rfl (.tmp 20) (.tmp 22) _ rfl w.heap.size 3 i0 _ 1 8 Tryz.underlying22 hi0 hz0 hz1 hz2 rfl (by omega) _ j (ints ((l.take j).map aF)) rfl (HO.out.1.alloc _) _ _ 1 [.int .i64 (-1)] _ rfl (eD _ #[.int .i64 (-1)] 3 1 rfl (by omega)) (by simp [Value.oneCell']) (by unfold maxLen; omega) (by omega) (by simp; omega) ?_); intro v' w3 hown3 hgrow hat)
    have hlo := HO.out.1.lt
    have HN3 : Hid (w3.ownsRow w.heap.size 3 1 v' (j + 1) (ints ((l.take (j + 1)).map aF)) ∧ Below w.heap.size w w3) := hid (by
     rw [HT.out]
     exact ⟨hown3, (HO.out.2.alloc (by omega) _).grown hgrow (by simp; omega) (fun k hk => (hlo k hk).1)⟩)
    clear hown3 hgrow hat hlo
    go_roundw
    case rel => exact ⟨j + 1, by omega, by go_num, HN3⟩
    case measure => simp [intOf]; omega
  ·have hj2 : j = l.length := by omega
   subst hj2
   rw [List.take_length] at HQ
   go_wp2_with fail
   go_ret
   exact ⟨_, rfl, HQ.out.1, HQ.out.2⟩
end Go.Proofs.YtagnalfkmdjajaaGreatDoor
