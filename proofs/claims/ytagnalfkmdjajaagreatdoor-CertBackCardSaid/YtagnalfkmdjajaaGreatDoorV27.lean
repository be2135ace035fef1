/- Walks: cert.wholes. Ahead of it: Walks: the reference's numbers of a certificate. -/
import Derived.Test.YtagnalfkmdjajaaGreatDoorV11
import Derived.Test.YtagnalfkmdjajaaGreatDoorV26
import Derived.Test.YtagnalfkmdjajaaGreatDoorV16
namespace Go.Proofs.YtagnalfkmdjajaaGreatDoor
open Go.RowKit Go
set_option linter.unusedVariables false
set_option linter.unusedSimpArgs false
/-- A number as one that may be in a certificate; a greater one counts as -2. -/
def wholeN (n : Nat) : Int := if 9223372036854775807 < n then -2 else n
end Go.Proofs.YtagnalfkmdjajaaGreatDoor
namespace Go.Proofs.YtagnalfkmdjajaaGreatDoor
open Go.RowKit Go
set_option linter.unusedVariables false
set_option linter.unusedSimpArgs false
/-- The number of a word; -1: there is none. -/
def atoiE (l : List UInt8) : Int := match Lib.atoiAll l with
  | .ok v => v
  | _ => -1
theorem atoiE_i64 (l : List UInt8) : i64 (atoiE l) := by
  unfold atoiE
  split
  · rename_i v h; exact Lib.atoiAll_bounds h
  · unfold i64; omega
theorem atoiC_any (s : ByteArray) (w : World) (hs : s.size ≤ 10000) (hL : Lq w.heap.size w) : Calls Tryz.prog 77 #[.string s] w fun e w' => ∃ v ev, e = .returned (.tuple #[.int .i64 v, ev]) ∧ (ev = .nilIface ∧ v = atoiE s.data.toList ∨ (∃ tp p, ev = .iface tp p) ∧ atoiE s.data.toList = -1) ∧ Below w.heap.size w w' := by
  rcases atoi_three s.data.toList with ⟨u, hp⟩ | hp | hp
  · refine (Tryz.strconv_Atoi_ok s (by omega) _ hp w).mono fun e w' => ?_
    rintro ⟨rfl, hw'⟩
    refine ⟨_, _, rfl, .inl ⟨rfl, by unfold atoiE; rw [hp]⟩, ?_⟩
    rcases hw' with rfl | ⟨t, rfl⟩
    · exact Below.refl _ _
    · exact Lib.bytesWorld_below _ _ _
  · obtain ⟨tp, p, hs'⟩ := hL.lv.rng
    refine (Tryz.strconv_Atoi_range_var s (by omega) hp tp p w hs').mono fun e w' => ?_
    rintro ⟨N, rfl, _, _, hb⟩
    exact ⟨_, _, rfl, .inr ⟨⟨_, _, rfl⟩, by unfold atoiE; rw [hp]⟩, hb⟩
  · obtain ⟨tp, p, hs'⟩ := hL.lv.syn
    refine (Tryz.strconv_Atoi_syntax_var s (by omega) hp tp p w hs').mono fun e w' => ?_
    rintro ⟨N, rfl, _, _, hb⟩
    exact ⟨_, _, rfl, .inr ⟨⟨_, _, rfl⟩, by unfold atoiE; rw [hp]; rfl⟩, hb⟩
set_option maxHeartbeats 2000000 in
set_option maxRecDepth 100000 in
theorem wholes_any (S : Nat → Prop) (l : List (List UInt8)) (v : Value) (w : World) (hr : RepS w S l v) (hl : l.length ≤ 10000) (hm : ∀ x ∈ l, x.length ≤ 10000) (hL : Lq w.heap.size w) :
    Calls Tryz.prog 42 #[v] w fun e w' => ∃ u, e = .returned u ∧ w'.ownsRow w.heap.size 3 1 u l.length (ints (l.map atoiE)) ∧ Below w.heap.size w w' := by
  obtain ⟨i0, hi0, hz0, hz1, hz2⟩ := info_parts infoInt
  obtain ⟨_, _, ad, cap, rfl, _⟩ := Sl.shape hr
  have HR := Lib.hid (And.intro hr (And.intro hL hm))
  clear hr hL hm
  go_enter Tryz.func42, Tryz.ntmps42
  go_wp2_with fail
  go_loopw [2, 9] (fun out i wr => ∃ j : Nat, j ≤ l.length ∧ i = .int .i64 j ∧ Hid (wr.ownsRow w.heap.size 3 1 out j (ints ((l.take j).map atoiE)) ∧ Below w.heap.size w wr)) (fun _ i _ => l.length - (intOf i).toNat)
  case atStart => exact ⟨0, by omega, rfl, Lib.hid ⟨World.ownsRow_nil _ _ _ _, Below.refl _ _⟩⟩
  case round =>
    obtain ⟨j, hj, rfl, HQ⟩ := hrel
    obtain ⟨sa, sc, rfl⟩ := owns_slice HQ.out.1
    have hsz := HQ.out.2.size
    by_cases hlt : j < l.length
    · obtain ⟨bl, off, rfl, _, hcell⟩ := RepS.at HR.out.1 (by omega)
      have hc := hcell j hlt
      have g := (HQ.out.2.cell (World.block_lt_of_cell? w _ hc)).trans hc
      have hx : (l[j]).length ≤ 10000 := HR.out.2.2 _ (List.getElem_mem hlt)
      have HT : Hid (ints ((l.take (j + 1)).map atoiE) = ints ((l.take j).map atoiE) ++ [.int .i64 (atoiE l[j])]) := Lib.hid (by rw [List.take_succ_eq_append_getElem hlt, List.map_append, ints_append]; rfl)
      have HA := Lib.hid (atoiC_any ⟨l[j].toArray⟩ wr (by rw [← ba_size]; simpa using hx) ((HR.out.2.1.below HQ.out.2).mono hsz))
      have hde : (⟨l[j].toArray⟩ : ByteArray).data.toList = l[j] := by simp
      rw [hde] at HA
      generalize (⟨l[j].toArray⟩ : ByteArray) = XS at g HA
      obtain ⟨a0, ha0⟩ : ∃ a0, a0 = atoiE l[j] := ⟨_, rfl⟩
      rw [← ha0] at HA HT
      have x1 : (0 : Int) ≤ (j : Int) := by omega
      have x2 : (j : Int) < (l.length : Int) := by omega
      clear hcell hc hx hde ha0
      go_wp2_with fail
      refine HA.out.mono ?_
      rintro e w2 ⟨n, ev, rfl, hv, hb2⟩
      have hs2 := hb2.size
      have HO := Lib.hid (And.intro (ownsRow_below HQ.out.1 hb2 (Nat.le_refl _)) (HQ.out.2.trans (hb2.mono hsz)))
      clear hb2
      rcases hv with ⟨rfl, rfl⟩ | ⟨⟨tp, p, rfl⟩, ha⟩
      · go_wp2_with (at_builtin; go_loud (refine wpList_append_sl _ rfl (.tmp 20) (.tmp 22) _ rfl w.heap.size 3 i0 _ 1 8 Tryz.underlying22 hi0 hz0 hz1 hz2 rfl (by omega) _ j (ints ((l.take j).map atoiE)) rfl (HO.out.1.alloc _) _ _ 1 [.int .i64 n] _ rfl (sl_litF _ #[.int .i64 n] 3 1 rfl (by omega)) (by simp [Value.oneCell']) (by unfold maxLen; omega) (by omega) (by simp; omega) ?_); intro v' w3 hown3 hgrow hat)
        have hlo := HO.out.1.lt
        have HN3 : Hid (w3.ownsRow w.heap.size 3 1 v' (j + 1) (ints ((l.take (j + 1)).map atoiE)) ∧ Below w.heap.size w w3) := Lib.hid (by
          rw [HT.out]
          exact ⟨hown3, (HO.out.2.alloc (by omega) _).grown hgrow (by simp; omega) (fun k hk => (hlo k hk).1)⟩)
        clear hown3 hgrow hat hlo
        go_roundw
        case rel => exact ⟨j + 1, by omega, by go_num, HN3⟩
        case measure => simp [intOf]; omega
      · rw [ha] at HT
        go_wp2_with (at_builtin; go_loud (refine wpList_append_sl _ rfl (.tmp 20) (.tmp 22) _ rfl w.heap.size 3 i0 _ 1 8 Tryz.underlying22 hi0 hz0 hz1 hz2 rfl (by omega) _ j (ints ((l.take j).map atoiE)) rfl (HO.out.1.alloc _) _ _ 1 [.int .i64 (-1)] _ rfl (sl_litF _ #[.int .i64 (-1)] 3 1 rfl (by omega)) (by simp [Value.oneCell']) (by unfold maxLen; omega) (by omega) (by simp; omega) ?_); intro v' w3 hown3 hgrow hat)
        have hlo := HO.out.1.lt
        have HN3 : Hid (w3.ownsRow w.heap.size 3 1 v' (j + 1) (ints ((l.take (j + 1)).map atoiE)) ∧ Below w.heap.size w w3) := Lib.hid (by
          rw [HT.out]
          exact ⟨hown3, (HO.out.2.alloc (by omega) _).grown hgrow (by simp; omega) (fun k hk => (hlo k hk).1)⟩)
        clear hown3 hgrow hat hlo
        go_roundw
        case rel => exact ⟨j + 1, by omega, by go_num, HN3⟩
        case measure => simp [intOf]; omega
    · have hj2 : j = l.length := by omega
      subst hj2
      rw [List.take_length] at HQ
      go_wp2_with fail
      go_ret
      exact ⟨_, rfl, HQ.out.1, HQ.out.2⟩
end Go.Proofs.YtagnalfkmdjajaaGreatDoor
