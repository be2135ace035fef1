/- Walks. -/
import Derived.Test.YtagnalfkmdjajaaGreatDoorYC86
set_option maxHeartbeats 1000000
set_option maxRecDepth 100000
namespace Go.Proofs.YtagnalfkmdjajaaGreatDoor
open Go.RowKit Go
set_option linter.unusedVariables false
set_option linter.unusedSimpArgs false
def Bf (X : Nat) (S : Nat → Prop) (v : Value) (w : World) : Prop := ∃ g, v = .slice (some ⟨g, 0, none⟩) 1 1 ∧ S g ∧ Sl w (fun b => b = g) true 1 1 [.int .u64 (X : Int)] (.slice (some ⟨g, 0, none⟩) 1 1)
theorem uq (X : Nat) : eG (Bf X) := fun S S' v w w' hk hs hS h => by
 obtain ⟨g, h1, h2, h3⟩ := h
 have hl : g < w.heap.size := by
  obtain ⟨bl, off, e, hb, hc⟩ := Sl.cells h3 (by omega)
  injection e with e; injection e with e1 e2
  subst e1
  exact World.block_lt_of_cell? w _ (hc 0 (by simp)).1
 exact ⟨g, h1, hS g hl h2, h3.keep (by omega) (fun b hb hl => by have hb : b = g := hb; subst hb; exact hk b h2 hl) (fun _ _ h => h)⟩
theorem xg {S : Nat → Prop} {g : Nat} (hS : S g) (w : World) (X : Nat) (T : TypeId) (hg : g = w.heap.size) : Bf X S (.slice (some ⟨g, 0, none⟩) 1 1) (w.alloc (.cells #[.int .u64 (X : Int)] T)) := by
 subst hg
 refine ⟨_, rfl, hS, ?_⟩
 have h := kM w (fun b => b = w.heap.size) #[.int .u64 (X : Int)] T 1 1 (by simp) (by omega) rfl (by omega)
 simpa using h
theorem eT (wb : Nat) (sv : Value) (l : List UInt8) (nb no : Nat) (n m : Int) (X : Nat) (w : World) (hw : Wr 67 5 w wb sv l) (hn : w.cell? ⟨nb, no, none⟩ = some (.int .i64 n)) (hX : n + m = (X : Int)) (h64 : X < 18446744073709551616) (hm : m = 0 ∨ m = 1) (hi : i64 n) (hl : l.length ≤ 900000) :
  Calls Tryz.prog 171 #[.pointer (some ⟨wb, 0, none⟩), .pointer (some ⟨nb, no, none⟩), .int .i64 m] w (Wg 67 5 w wb sv (l ++ ae [X]) (.tuple #[])) := by
 have hnb : nb < w.heap.size := World.block_lt_of_cell? w ⟨nb, no, none⟩ hn
 have HN := hid hn
 have HW := hid hw
 have HX : Hid (IntKind.u64.wrap (wrap64 (n + m)) = (X : Int)) := hid (by
  unfold i64 at hi
  rw [IntKind.wrap_u64]
  simp only [wrap64]
  omega)
 clear hn hw hX hm
 go_enter Tryz.func171, Tryz.ntmps171
 go_upto_region 0 with fail
 refine ak (w0 := w) rfl [.eq (.pointer (some ⟨wb, 0, none⟩)), .eq (.pointer (some ⟨wb, 0, none⟩)), .eq (.pointer (some ⟨wb, 0, none⟩)), .eq (.pointer (some ⟨nb, no, none⟩)), .eq (.pointer (some ⟨nb, no, none⟩)), .eq (.int .i64 n), .eq (.int .i64 m), .eq (.int .i64 (wrap64 (n + m))), .eq (.int .u64 (X : Nat)), .of (Bf X), .tail] 10 [] [] (by kernel_rfl) ⟨?_, ?_, ?_, ?_, ?_, ?_, ?_, ?_, ?_, ?_, ?_, trivial⟩ trivial [fun vs w' => ∃ sv', Wr 67 5 w' wb sv' (l ++ ae [X]) ∧ Wrote wb sv sv' w w'] ⟨?_, trivial⟩ (fun vs => [(6, (.pointer (some ⟨wb, 0, none⟩))), (7, (.pointer (some ⟨wb, 0, none⟩))), (8, (.pointer (some ⟨wb, 0, none⟩))), (9, (.pointer (some ⟨nb, no, none⟩))), (10, (.pointer (some ⟨nb, no, none⟩))), (11, (.int .i64 n)), (12, (.int .i64 m)), (13, (.int .i64 (wrap64 (n + m)))), (14, (.int .u64 (X : Nat))), (15, vs 9), (16, vs 10)]) (fun _ => rfl) ?_
 ·refine rs fun S a wx K Q hR hK => ?_
  have t0 : a.tmps[0]? = some (.pointer (some ⟨wb, 0, none⟩)) := hR.o 0
  go_simp
  exact hK _ _ br rfl
 ·refine rs fun S a wx K Q hR hK => ?_
  have t6 := hR.q 0
  go_simp
  exact hK _ _ br rfl
 ·refine rs fun S a wx K Q hR hK => ?_
  have t7 := hR.q 1
  go_simp
  exact hK _ _ br rfl
 ·refine rs fun S a wx K Q hR hK => ?_
  have t1 : a.tmps[1]? = some (.pointer (some ⟨nb, no, none⟩)) := hR.o 1
  go_simp
  exact hK _ _ br rfl
 ·refine rs fun S a wx K Q hR hK => ?_
  have t9 := hR.q 3
  go_simp
  exact hK _ _ br rfl
 ·refine rs fun S a wx K Q hR hK => ?_
  have t10 := hR.q 4
  have y0 := (hR.bel.cell (p := ⟨nb, no, none⟩) hnb).trans HN.out
  go_simp
  exact hK _ _ br rfl
 ·refine rs fun S a wx K Q hR hK => ?_
  have t2 : a.tmps[2]? = some (.int .i64 m) := hR.o 2
  go_simp
  exact hK _ _ br rfl
 ·refine rs fun S a wx K Q hR hK => ?_
  have t11 := hR.q 5
  have t12 := hR.q 6
  go_simp
  (try go_ints)
  exact hK _ _ br rfl
 ·refine rs fun S a wx K Q hR hK => ?_
  have t13 := hR.q 7
  have y1 := HX.out
  go_simp
  (try go_ints)
  exact hK _ _ br rfl
 ·exact uq _
 ·refine rs fun S a wx K Q hR hK => ?_
  have t14 := hR.q 8
  go_simp
  exact hK _ _ (br.alloc nl _) (xg (hR.new _ nl) wx X _ rfl)
 ·refine ts fun vs a wx K Q hR hZ hK => ?_
  have t8 := hR.d 2 8
  rw [hR.eqs 2 _ rfl] at t8
  have t15 := hR.d 9 15
  obtain ⟨hbel2, S2, hlow, hof⟩ := hZ
  have f15 : Bf X S2 (vs 9) wx := hof 9 _ rfl
  obtain ⟨g15, e15, s15, r15⟩ := f15
  rw [e15] at t15
  have hwx := HW.out.below hbel2
  have hlt := HW.out.lt
  go_simp
  go_at_call 94
  refine (gZ true wb sv l [X] _ wx hwx (by simpa [nums] using r15.keep (by omega) (fun _ _ _ => rfl) (fun b _ hb => by have hb : b = g15 := hb; subst hb; exact ⟨by have := hlow _ s15; omega, fun e => by have := (hlt.2 _ e).2; have := hlow _ s15; omega⟩)) (by intro k hk; simp at hk; omega) (by simp; omega)).mono ?_
  rintro e w2 ⟨rfl, sv2, hw2, ht2⟩
  exact hK _ _ ⟨sv2, hw2, (Wrote.of_below hbel2).trans ht2⟩
 intro vs wN hE hZ
 have HZ := hid hZ
 simp only [aP, List.foldl_cons, List.foldl_nil]
 clear hE hZ
 generalize vs 9 = v9
 generalize vs 10 = v10
 go_simp
 (try (go_wp2_with fail))
 go_end0
 exact ⟨rfl, HZ.out⟩
theorem yN (wb : Nat) (sv : Value) (l : List UInt8) (nb no : Nat) (X : Nat) (w : World) (hw : Wr 67 5 w wb sv l) (hn : w.cell? ⟨nb, no, none⟩ = some (.int .u64 (X : Nat))) (h64 : X < 18446744073709551616) (hl : l.length ≤ 900000) :
  Calls Tryz.prog 169 #[.pointer (some ⟨wb, 0, none⟩), .pointer (some ⟨nb, no, none⟩)] w (Wg 67 5 w wb sv (l ++ ae [X]) (.tuple #[])) := by
 have hnb : nb < w.heap.size := World.block_lt_of_cell? w ⟨nb, no, none⟩ hn
 have HN := hid hn
 have HW := hid hw
 clear hn hw
 go_enter Tryz.func169, Tryz.ntmps169
 go_upto_region 0 with fail
 refine ak (w0 := w) rfl [.eq (.pointer (some ⟨wb, 0, none⟩)), .eq (.pointer (some ⟨wb, 0, none⟩)), .eq (.pointer (some ⟨wb, 0, none⟩)), .eq (.pointer (some ⟨nb, no, none⟩)), .eq (.pointer (some ⟨nb, no, none⟩)), .eq (.int .u64 (X : Nat)), .of (Bf X), .tail] 7 [] [] (by kernel_rfl) ⟨?_, ?_, ?_, ?_, ?_, ?_, ?_, ?_, trivial⟩ trivial [fun vs w' => ∃ sv', Wr 67 5 w' wb sv' (l ++ ae [X]) ∧ Wrote wb sv sv' w w'] ⟨?_, trivial⟩ (fun vs => [(4, (.pointer (some ⟨wb, 0, none⟩))), (5, (.pointer (some ⟨wb, 0, none⟩))), (6, (.pointer (some ⟨wb, 0, none⟩))), (7, (.pointer (some ⟨nb, no, none⟩))), (8, (.pointer (some ⟨nb, no, none⟩))), (9, (.int .u64 (X : Nat))), (10, vs 6), (11, vs 7)]) (fun _ => rfl) ?_
 ·refine rs fun S a wx K Q hR hK => ?_
  have t0 : a.tmps[0]? = some (.pointer (some ⟨wb, 0, none⟩)) := hR.o 0
  go_simp
  exact hK _ _ br rfl
 ·refine rs fun S a wx K Q hR hK => ?_
  have t4 := hR.q 0
  go_simp
  exact hK _ _ br rfl
 ·refine rs fun S a wx K Q hR hK => ?_
  have t5 := hR.q 1
  go_simp
  exact hK _ _ br rfl
 ·refine rs fun S a wx K Q hR hK => ?_
  have t1 : a.tmps[1]? = some (.pointer (some ⟨nb, no, none⟩)) := hR.o 1
  go_simp
  exact hK _ _ br rfl
 ·refine rs fun S a wx K Q hR hK => ?_
  have t7 := hR.q 3
  go_simp
  exact hK _ _ br rfl
 ·refine rs fun S a wx K Q hR hK => ?_
  have t8 := hR.q 4
  have y0 := (hR.bel.cell (p := ⟨nb, no, none⟩) hnb).trans HN.out
  go_simp
  exact hK _ _ br rfl
 ·exact uq _
 ·refine rs fun S a wx K Q hR hK => ?_
  have t9 := hR.q 5
  go_simp
  exact hK _ _ (br.alloc nl _) (xg (hR.new _ nl) wx X _ rfl)
 ·refine ts fun vs a wx K Q hR hZ hK => ?_
  have t6 := hR.d 2 6
  rw [hR.eqs 2 _ rfl] at t6
  have t10 := hR.d 6 10
  obtain ⟨hbel2, S2, hlow, hof⟩ := hZ
  have f10 : Bf X S2 (vs 6) wx := hof 6 _ rfl
  obtain ⟨g10, e10, s10, r10⟩ := f10
  rw [e10] at t10
  have hwx := HW.out.below hbel2
  have hlt := HW.out.lt
  go_simp
  go_at_call 94
  refine (gZ true wb sv l [X] _ wx hwx (by simpa [nums] using r10.keep (by omega) (fun _ _ _ => rfl) (fun b _ hb => by have hb : b = g10 := hb; subst hb; exact ⟨by have := hlow _ s10; omega, fun e => by have := (hlt.2 _ e).2; have := hlow _ s10; omega⟩)) (by intro k hk; simp at hk; omega) (by simp; omega)).mono ?_
  rintro e w2 ⟨rfl, sv2, hw2, ht2⟩
  exact hK _ _ ⟨sv2, hw2, (Wrote.of_below hbel2).trans ht2⟩
 intro vs wN hE hZ
 have HZ := hid hZ
 simp only [aP, List.foldl_cons, List.foldl_nil]
 clear hE hZ
 generalize vs 6 = v9
 generalize vs 7 = v10
 go_simp
 (try (go_wp2_with fail))
 go_end0
 exact ⟨rfl, HZ.out⟩
theorem qK (wb : Nat) (sv : Value) (l : List UInt8) (n : Nat) (w : World) (hw : Wr 67 5 w wb sv l) (hn : n ≤ 9223372036854775807) (hl : l.length ≤ 900000) :
  Calls Tryz.prog 170 #[.pointer (some ⟨wb, 0, none⟩), .int .i64 (n : Nat)] w (Wg 67 5 w wb sv (l ++ ae [n]) (.int .i64 (n : Nat))) := by
 have hlt := hw.lt
 have hb0 : Below w.heap.size w (w.alloc (.cells #[.int .u64 (n : Nat)] 50)) := br.alloc nl _
 have HNN := hid (gZ true wb sv l [n] (.slice (some ⟨w.heap.size, 0, none⟩) 1 1) _ (hw.below hb0) (by simpa [nums] using kM w _ #[.int .u64 (n : Nat)] 50 1 1 (by simp) (by omega) ⟨by omega, fun e => by have := (hlt.2 _ e).2; omega⟩ (by omega)) (by intro k hk; simp at hk; omega) (by simp; omega))
 have HB := hid (Wrote.of_below (wb := wb) (sv := sv) hb0)
 clear hw
 go_enter Tryz.func170, Tryz.ntmps170
 go_wp2_with fail
 refine HNN.out.mono ?_
 rintro e w2 ⟨rfl, sv2, hw2, ht2⟩
 have HZ := hid (And.intro hw2 (HB.out.trans ht2))
 clear hw2 ht2
 go_wp2_with fail
 go_ret
 exact ⟨rfl, sv2, HZ.out⟩
end Go.Proofs.YtagnalfkmdjajaaGreatDoor
