/- The law CertKnown, walked. -/
import Derived.Test.YtagnalfkmdjajaaGreatDoorYL28
import Derived.Test.YtagnalfkmdjajaaGreatDoorYL29
import Derived.Deep.CutBlock
set_option maxHeartbeats 20000000
set_option maxRecDepth 100000
namespace Go.Proofs.YtagnalfkmdjajaaGreatDoor
open Go.RowKit Go
set_option linter.unusedVariables false
set_option linter.unusedSimpArgs false
def Fp (w : World) (e : Ending) (w' : World) : Prop := ∃ c ov wv, e = .returned (.agg #[.int .i64 c.k, ov, .int .i64 c.p, .int .i64 c.q, wv]) ∧ (Crt.right c = true ∧ c.nums ∧ c.o.length ≤ 7 ∧ c.w.length ≤ 5) ∧ w'.ownsRow w.heap.size 3 1 ov c.o.length (ints c.o) ∧ w'.ownsRow w.heap.size 54 9 wv c.w.length (bD c.w) ∧ Below w.heap.size w w'
theorem si : (Tryz.prog.info? 3).map (fun i => (i.zero, i.size, i.bytes)) = some (some (.int .i64 0), 1, 8) := by kernel_rfl
theorem nk {w : World} {T : TypeId} {k : Int} {T' : TypeId} (sz : Nat) : CB T (w.heap.size + 1) (w.heap.size + 2) #[.int .i64 k, .slice none 0 0, .int .i64 0, .int .i64 0, .slice none 0 0] T' sz (.slice none 0 0) 0 [] ((w.alloc (.cells #[.int .i64 0, .slice none 0 0, .int .i64 0, .int .i64 0, .slice none 0 0] T)).alloc (.cells #[.int .i64 k, .slice none 0 0, .int .i64 0, .int .i64 0, .slice none 0 0] T)) ((w.alloc (.cells #[.int .i64 0, .slice none 0 0, .int .i64 0, .int .i64 0, .slice none 0 0] T)).alloc (.cells #[.int .i64 k, .slice none 0 0, .int .i64 0, .int .i64 0, .slice none 0 0] T)) :=
 ⟨br, by omega, by simp, az _ _ _ (by simp), World.ownsRow_nil _ _ _ _⟩
theorem kZ (w : World) (T : TypeId) (b : Obj) : ((w.alloc (.cells #[.int .i64 0, .slice none 0 0, .int .i64 0, .int .i64 0, .slice none 0 0] T)).alloc b).heap[w.heap.size]? = some (.cells #[.int .i64 0, .slice none 0 0, .int .i64 0, .int .i64 0, .slice none 0 0] T (0, 0)) := (aU _ _ _ (by simp)).trans (az _ _ _ rfl)
theorem lh (w : World) (T : TypeId) (b : Obj) : Below w.heap.size w ((w.alloc (.cells #[.int .i64 0, .slice none 0 0, .int .i64 0, .int .i64 0, .slice none 0 0] T)).alloc b) := (br.alloc nl _).alloc (by simp) _
theorem Dv {P : Program} (n : Nat) : ∃ X : Nat, X < 18446744073709551616 ∧ Op.shift BinOp.shl IntKind.u64 (IntKind.u64.wrap (n : Int)) IntKind.i64 ((n : Int).tmod 50) = pure (.int .u64 (X : Int)) := by
 have h0 : (0 : Int) ≤ (n : Int).tmod 50 := Int.tmod_nonneg _ (by omega)
 rw [shift_shl_any _ _ _ _ h0]
 generalize IntKind.u64.wrap (n : Int) * 2 ^ min ((n : Int).tmod 50).toNat IntKind.u64.bits = y
 have h1 : 0 ≤ IntKind.u64.wrap y ∧ IntKind.u64.wrap y < 18446744073709551616 := by
  simp only [IntKind.wrap, IntKind.signed, IntKind.bits]
  simp
  omega
 exact ⟨(IntKind.u64.wrap y).toNat, by omega, by rw [Int.toNat_of_nonneg h1.1]⟩
theorem i64_in {n : Int} (h : -9223372036854775808 ≤ n ∧ n ≤ 9223372036854775807) : IntKind.i64.wrap n = n := by
 simp only [IntKind.wrap, IntKind.signed, IntKind.bits]
 simp
 omega
theorem u64_in {n : Int} (h : 0 ≤ n ∧ n < 18446744073709551616) : IntKind.u64.wrap n = n := by
 simp only [IntKind.wrap, IntKind.signed, IntKind.bits]
 simp
 omega
theorem Es (n j X : Nat) (hn : n < 160) (hj : j < 5) (hX : X < 18446744073709551616) : ∃ E : Ed, E.ok ∧ E.nums ∧ E.vals = [.int .i64 (j : Int), .int .i64 ((IntKind.i64.wrap ((j : Int) + 1)).tmod 4), .int .i64 (IntKind.i64.wrap (1 + (n : Int).tmod 5)), .int .u64 (X : Int), .int .u64 (IntKind.u64.wrap (j : Int)), .int .u64 1, .int .u64 (IntKind.u64.wrap ((n : Int).tmod 300)), .int .u64 (IntKind.u64.wrap (j : Int)), .int .i64 (IntKind.i64.wrap ((n : Int).tmod 40 - 1))] := by
 have m4 : ((j : Int) + 1).tmod 4 = ((j : Int) + 1) % 4 := Int.tmod_eq_emod_of_nonneg (by omega)
 have m5 : (n : Int).tmod 5 = (n : Int) % 5 := Int.tmod_eq_emod_of_nonneg (by omega)
 have m3 : (n : Int).tmod 300 = (n : Int) % 300 := Int.tmod_eq_emod_of_nonneg (by omega)
 have m40 : (n : Int).tmod 40 = (n : Int) % 40 := Int.tmod_eq_emod_of_nonneg (by omega)
 rw [i64_in (n := (j : Int) + 1) (by omega), m4, m5, m3, m40, i64_in (n := 1 + (n : Int) % 5) (by omega), i64_in (n := (n : Int) % 40 - 1) (by omega), u64_in (n := (j : Int)) (by omega), u64_in (n := (n : Int) % 300) (by omega)]
 refine ⟨⟨(j : Int), ((j : Int) + 1) % 4, 1 + (n : Int) % 5, X, j, 1, n % 300, j, (n : Int) % 40 - 1⟩, ?_, ?_, ?_⟩
 ·unfold Ed.ok; simp only; omega
 ·unfold Ed.nums i64; simp only; omega
 ·simp [Ed.vals]
theorem yh (n : Nat) (hn : n < 160) (w : World) : Calls Tryz.prog 16 #[.int .i64 n] w (Fp w) := by
 have hr : n % 4 = 0 ∨ n % 4 = 1 ∨ n % 4 = 2 ∨ n % 4 = 3 := by omega
 have t2 : (0 : Int) ≤ (n : Int) := by omega
 rcases hr with h | h | h | h
 ·obtain ⟨i0, hi0, hz0, hz1, hz2⟩ := info_parts si
  have t1 : (n : Int) % 4 = 0 := by omega
  have HN := hid (And.intro hn h)
  have HB0 := hid (And.intro (nk (w := w) (T := 25) (k := 1) (T' := 3) 1) (And.intro (kZ w 25 (.cells #[.int .i64 1, .slice none 0 0, .int .i64 0, .int .i64 0, .slice none 0 0] 25)) (lh w 25 (.cells #[.int .i64 1, .slice none 0 0, .int .i64 0, .int .i64 0, .slice none 0 0] 25))))
  clear h
  go_enter Tryz.func16, Tryz.ntmps16
  go_upto_region 2 with fail
  generalize ((w.alloc (.cells #[.int .i64 0, .slice none 0 0, .int .i64 0, .int .i64 0, .slice none 0 0] 25)).alloc (.cells #[.int .i64 1, .slice none 0 0, .int .i64 0, .int .i64 0, .slice none 0 0] 25)) = w1 at HB0 ⊢
  clear t1
  obtain ⟨c0, _⟩ := HB0.out.1.cells
  go_wp2_with fail
  go_loopw [4] (fun i wr => ∃ (o : List Int) (ov : Value), i = .int .i64 (o.length : Int) ∧ o.length ≤ n / 4 % 7 ∧ Hid ((∀ x ∈ o, 0 ≤ x ∧ x < 300) ∧ CB 25 (w.heap.size + 1) (w.heap.size + 2) #[.int .i64 1, ov, .int .i64 0, .int .i64 0, .slice none 0 0] 3 1 ov o.length (ints o) w1 wr)) (fun i _ => 7 - (intOf i).toNat)
  case atStart => exact ⟨[], _, rfl, by simp, hid ⟨fun x h => absurd h (by simp), HB0.out.1⟩⟩
  case round =>
   obtain ⟨o, ov, rfl, hle, HQ⟩ := hrel
   obtain ⟨sa, sc, rfl⟩ := ag HQ.out.2.own
   obtain ⟨c0, c1, c2, c3, c4, cf⟩ := HQ.out.2.cells
   have cf1 := cf 1
   have hcl := HQ.out.2.lt
   by_cases hlt : o.length < n / 4 % 7
   ·have x1 : (o.length : Int) < (n : Int) / 4 % 7 := by omega
    have x2 : (0 : Int) ≤ (o.length : Int) := by omega
    obtain ⟨p, hp⟩ : ∃ p : Nat, p = n * o.length := ⟨_, rfl⟩
    have hp1 : p ≤ 160 * 7 := by rw [hp]; exact Nat.mul_le_mul (by omega) (by omega)
    have hp2 : (n : Int) * (o.length : Int) = (p : Int) := by rw [hp]; simp
    have hp3 : (p : Int) ≤ 1120 := by omega
    have hp4 : (0 : Int) ≤ (p : Int) := by omega
    clear hp c2 c3 c4 cf c0
    go_wp2_with (at_builtin; go_loud (refine af _ rfl (.tmp 28) (.tmp 33) _ rfl (w.heap.size + 2) 3 i0 _ 1 8 Tryz.underlying22 hi0 hz0 hz1 hz2 rfl (by omega) _ o.length (ints o) rfl (HQ.out.2.own.alloc _) _ _ 1 [.int .i64 ((p : Int) % 300)] _ rfl (eD _ #[.int .i64 ((p : Int) % 300)] 3 1 rfl (by omega)) (by simp [Value.oneCell']) (by unfold maxLen; omega) (by omega) (by simp; omega) ?_); intro v' w8 hown8 hgrow hat; obtain ⟨va, vc, rfl⟩ := ag hown8; have hco8 := HQ.out.2.append (br.alloc nl _) hgrow hown8; obtain ⟨_, s1, _, _, _, sf⟩ := hco8.cells; have sf1 := sf 1; have HM := hid hco8; clear hco8 hown8 hgrow hat sf)
    have HM2 : Hid ((∀ x ∈ o ++ [(p : Int) % 300], 0 ≤ x ∧ x < 300) ∧ CB 25 (w.heap.size + 1) (w.heap.size + 2) #[.int .i64 1, .slice va (o.length + 1) vc, .int .i64 0, .int .i64 0, .slice none 0 0] 3 1 (.slice va (o.length + 1) vc) (o ++ [(p : Int) % 300]).length (ints (o ++ [(p : Int) % 300])) w1 (w8.setCell ⟨w.heap.size + 1, 1, none⟩ (.slice va (o.length + 1) vc))) := hid (by
     refine ⟨fun x hx => ?_, ?_⟩
     ·rcases List.mem_append.1 hx with hx | hx
      ·exact HQ.out.1 x hx
      ·simp only [List.mem_cons, List.not_mem_nil, or_false] at hx
       subst hx; omega
     ·rw [List.length_append, fF]
      exact HM.out.store 1 (.slice va (o.length + 1) vc))
    clear HM HQ
    go_roundw
    case rel => exact ⟨o ++ [(p : Int) % 300], _, by rw [List.length_append]; go_num, by rw [List.length_append]; simp; omega, HM2⟩
    case measure => simp [intOf]; omega
   ·have x1 : ¬ (o.length : Int) < (n : Int) / 4 % 7 := by omega
    have g0 : wr.heap[w.heap.size]? = some (.cells #[.int .i64 0, .slice none 0 0, .int .i64 0, .int .i64 0, .slice none 0 0] 25 (0, 0)) := (HQ.out.2.old.block _ (by omega)).trans HB0.out.2.1
    go_wp2_with (refine wpList_store_row rfl 25 (.tmp 2) (.tmp 75) rfl rfl w.heap.size rfl _ rfl 25 _ g0 (by kernel_rfl) rfl (by simp [Value.oneCell']) ?_)
    refine bodyPost_ret (v := .agg #[.int .i64 1, .slice sa o.length sc, .int .i64 0, .int .i64 0, .slice none 0 0]) (results_cell_row rfl _ _ w.heap.size 25 _ _ _ rfl (setRow_heap _ _ _ _ _ _ g0) Tryz.underlying25 rfl (by kernel_rfl)) rfl ?_
    have h1 : ∀ x ∈ o, 0 ≤ x ∧ x < 300 := HQ.out.1
    have hbw : Below w.heap.size w wr := HB0.out.2.2.trans (HQ.out.2.old.mono (by omega))
    refine ⟨⟨1, o, 0, 0, []⟩, _, _, rfl, ⟨?_, ?_, by show o.length ≤ 7; omega, by simp⟩, bZ (bH HQ.out.2.own (by omega)) (fun g hg => setRow_other _ _ _ _ (by have := (HQ.out.2.own.lt g hg).1; omega)), World.ownsRow_nil _ _ _ _, below_setRow hbw _ _ nl⟩
    ·have h2 : o.all (fun n => decide (0 ≤ n)) = true := List.all_eq_true.2 (fun x hx => decide_eq_true (h1 x hx).1)
     simp [Crt.right, h2]
     omega
    ·have z : i64 0 := by unfold i64; omega
     exact ⟨by show i64 1; unfold i64; omega, z, z, fun x hx => by have := h1 x hx; unfold i64; omega, fun e he => absurd he (by simp)⟩
 ·have t1 : (n : Int) % 4 = 1 := by omega
  have HN := hid (And.intro hn h)
  have HB0 := hid (And.intro (nk (w := w) (T := 25) (k := 2) (T' := 3) 1) (And.intro (kZ w 25 (.cells #[.int .i64 2, .slice none 0 0, .int .i64 0, .int .i64 0, .slice none 0 0] 25)) (lh w 25 (.cells #[.int .i64 2, .slice none 0 0, .int .i64 0, .int .i64 0, .slice none 0 0] 25))))
  clear h
  go_enter Tryz.func16, Tryz.ntmps16
  go_upto_region 2 with fail
  generalize ((w.alloc (.cells #[.int .i64 0, .slice none 0 0, .int .i64 0, .int .i64 0, .slice none 0 0] 25)).alloc (.cells #[.int .i64 2, .slice none 0 0, .int .i64 0, .int .i64 0, .slice none 0 0] 25)) = w1 at HB0 ⊢
  clear t1
  obtain ⟨c0, c1, c2, c3, c4, cf⟩ := HB0.out.1.cells
  have f2 := cf 2
  have f3 := cf 3
  have hlt := HB0.out.1.lt
  have x3 : (n : Int) < 160 := by omega
  have g0 : ((w1.setCell ⟨w.heap.size + 1, 2, none⟩ (.int .i64 ((n : Int) * 3))).setCell ⟨w.heap.size + 1, 3, none⟩ (.int .i64 ((n : Int) % 5))).heap[w.heap.size]? = some (.cells #[.int .i64 0, .slice none 0 0, .int .i64 0, .int .i64 0, .slice none 0 0] 25 (0, 0)) := by
   rw [Below.heap_setCell _ _ _ _ (by simp), Below.heap_setCell _ _ _ _ (by simp)]; exact HB0.out.2.1
  clear cf
  go_wp2_with (refine wpList_store_row rfl 25 (.tmp 2) (.tmp 75) rfl rfl w.heap.size rfl _ rfl 25 _ g0 (by kernel_rfl) rfl (by simp [Value.oneCell']) ?_)
  refine bodyPost_ret (v := .agg #[.int .i64 2, .slice none 0 0, .int .i64 ((n : Int) * 3), .int .i64 ((n : Int) % 5), .slice none 0 0]) (results_cell_row rfl _ _ w.heap.size 25 _ _ _ rfl (setRow_heap _ _ _ _ _ _ g0) Tryz.underlying25 rfl (by kernel_rfl)) rfl ?_
  have hbw := HB0.out.2.2
  refine ⟨⟨2, [], (n : Int) * 3, (n : Int) % 5, []⟩, _, _, rfl, ⟨?_, ?_, by simp, by simp⟩, World.ownsRow_nil _ _ _ _, World.ownsRow_nil _ _ _ _, below_setRow ((hbw.setCell (by simp) _).setCell (by simp) _) _ _ nl⟩
  ·simp [Crt.right, aR]
   omega
  ·exact ⟨by show i64 2; unfold i64; omega, by show i64 ((n : Int) * 3); unfold i64; omega, by show i64 ((n : Int) % 5); unfold i64; omega, fun x hx => absurd hx (by simp), fun e he => absurd he (by simp)⟩
 ·have t1 : (n : Int) % 4 = 2 := by omega
  have HN := hid (And.intro hn h)
  have HB0 := hid (And.intro (nk (w := w) (T := 25) (k := 3) (T' := 3) 1) (And.intro (kZ w 25 (.cells #[.int .i64 3, .slice none 0 0, .int .i64 0, .int .i64 0, .slice none 0 0] 25)) (lh w 25 (.cells #[.int .i64 3, .slice none 0 0, .int .i64 0, .int .i64 0, .slice none 0 0] 25))))
  clear h
  go_enter Tryz.func16, Tryz.ntmps16
  go_upto_region 2 with fail
  generalize ((w.alloc (.cells #[.int .i64 0, .slice none 0 0, .int .i64 0, .int .i64 0, .slice none 0 0] 25)).alloc (.cells #[.int .i64 3, .slice none 0 0, .int .i64 0, .int .i64 0, .slice none 0 0] 25)) = w1 at HB0 ⊢
  clear t1
  obtain ⟨c0, c1, c2, c3, c4, cf⟩ := HB0.out.1.cells
  have f2 := cf 2
  have f3 := cf 3
  have hlt := HB0.out.1.lt
  have x3 : (n : Int) < 160 := by omega
  have g0 : ((w1.setCell ⟨w.heap.size + 1, 2, none⟩ (.int .i64 ((n : Int) * 3))).setCell ⟨w.heap.size + 1, 3, none⟩ (.int .i64 ((n : Int) % 5))).heap[w.heap.size]? = some (.cells #[.int .i64 0, .slice none 0 0, .int .i64 0, .int .i64 0, .slice none 0 0] 25 (0, 0)) := by
   rw [Below.heap_setCell _ _ _ _ (by simp), Below.heap_setCell _ _ _ _ (by simp)]; exact HB0.out.2.1
  clear cf
  go_wp2_with (refine wpList_store_row rfl 25 (.tmp 2) (.tmp 75) rfl rfl w.heap.size rfl _ rfl 25 _ g0 (by kernel_rfl) rfl (by simp [Value.oneCell']) ?_)
  refine bodyPost_ret (v := .agg #[.int .i64 3, .slice none 0 0, .int .i64 ((n : Int) * 3), .int .i64 ((n : Int) % 5), .slice none 0 0]) (results_cell_row rfl _ _ w.heap.size 25 _ _ _ rfl (setRow_heap _ _ _ _ _ _ g0) Tryz.underlying25 rfl (by kernel_rfl)) rfl ?_
  have hbw := HB0.out.2.2
  refine ⟨⟨3, [], (n : Int) * 3, (n : Int) % 5, []⟩, _, _, rfl, ⟨?_, ?_, by simp, by simp⟩, World.ownsRow_nil _ _ _ _, World.ownsRow_nil _ _ _ _, below_setRow ((hbw.setCell (by simp) _).setCell (by simp) _) _ _ nl⟩
  ·simp [Crt.right, aR]
   omega
  ·exact ⟨by show i64 3; unfold i64; omega, by show i64 ((n : Int) * 3); unfold i64; omega, by show i64 ((n : Int) % 5); unfold i64; omega, fun x hx => absurd hx (by simp), fun e he => absurd he (by simp)⟩
 ·obtain ⟨i0, hi0, hz0, hz1, hz2⟩ := info_parts qH
  have t1 : (n : Int) % 4 = 3 := by omega
  have HN := hid (And.intro hn h)
  have HB0 := hid (And.intro (nk (w := w) (T := 25) (k := 4) (T' := 54) 9) (And.intro (kZ w 25 (.cells #[.int .i64 4, .slice none 0 0, .int .i64 0, .int .i64 0, .slice none 0 0] 25)) (lh w 25 (.cells #[.int .i64 4, .slice none 0 0, .int .i64 0, .int .i64 0, .slice none 0 0] 25))))
  clear h
  go_enter Tryz.func16, Tryz.ntmps16
  go_upto_region 2 with fail
  generalize ((w.alloc (.cells #[.int .i64 0, .slice none 0 0, .int .i64 0, .int .i64 0, .slice none 0 0] 25)).alloc (.cells #[.int .i64 4, .slice none 0 0, .int .i64 0, .int .i64 0, .slice none 0 0] 25)) = w1 at HB0 ⊢
  clear t1
  obtain ⟨c0, _⟩ := HB0.out.1.cells
  go_wp2_with fail
  go_loopw [5] (fun i wr => ∃ (o : List Ed) (ov : Value), i = .int .i64 (o.length : Int) ∧ o.length ≤ n / 4 % 5 ∧ Hid ((∀ x ∈ o, x.ok ∧ x.nums) ∧ CB 25 (w.heap.size + 1) (w.heap.size + 2) #[.int .i64 4, .slice none 0 0, .int .i64 0, .int .i64 0, ov] 54 9 ov o.length (bD o) w1 wr)) (fun i _ => 5 - (intOf i).toNat)
  case atStart => exact ⟨[], _, rfl, by simp, hid ⟨fun x h => absurd h (by simp), HB0.out.1⟩⟩
  case round =>
   obtain ⟨o, ov, rfl, hle, HQ⟩ := hrel
   obtain ⟨sa, sc, rfl⟩ := ag HQ.out.2.own
   obtain ⟨c0, c1, c2, c3, c4, cf⟩ := HQ.out.2.cells
   have cf4 := cf 4
   have hcl := HQ.out.2.lt
   by_cases hlt : o.length < n / 4 % 5
   ·have x1 : (o.length : Int) < (n : Int) / 4 % 5 := by omega
    have x2 : (0 : Int) ≤ (o.length : Int) := by omega
    have x3 : (n : Int) < 160 := by omega
    have x4 : (o.length : Int) < 5 := by omega
    clear cf c0 c1 c2 c3
    obtain ⟨X, hX, hsh⟩ := Dv (P := Tryz.prog) n
    go_upto_region 14 with fail
    go_region_law (first
     | (refine iC _ (by rfl) (.tmp 46) (.tmp 72) 23 (by rfl) (w.heap.size + 2) 54 i0 _ 9 72 Tryz.underlying23 hi0 hz0 hz1 hz2 rfl (by omega) (.slice sa o.length sc) o.length (bD o) (by rfl) ((ownsRow_below HQ.out.2.own br.drew nl).alloc _) _ _ 1 [.int .i64 (o.length : Int), .int .i64 ((IntKind.i64.wrap ((o.length : Int) + 1)).tmod 4), .int .i64 (IntKind.i64.wrap (1 + (n : Int).tmod 5)), .int .u64 (X : Int), .int .u64 (IntKind.u64.wrap (o.length : Int)), .int .u64 1, .int .u64 (IntKind.u64.wrap ((n : Int).tmod 300)), .int .u64 (IntKind.u64.wrap (o.length : Int)), .int .i64 (IntKind.i64.wrap ((n : Int).tmod 40 - 1))] _ (by rfl) (pO _ #[.int .i64 (o.length : Int), .int .i64 ((IntKind.i64.wrap ((o.length : Int) + 1)).tmod 4), .int .i64 (IntKind.i64.wrap (1 + (n : Int).tmod 5)), .int .u64 (X : Int), .int .u64 (IntKind.u64.wrap (o.length : Int)), .int .u64 1, .int .u64 (IntKind.u64.wrap ((n : Int).tmod 300)), .int .u64 (IntKind.u64.wrap (o.length : Int)), .int .i64 (IntKind.i64.wrap ((n : Int).tmod 40 - 1))] 54 9 wr.heap.size rfl (by omega) (by simp)) (by simp [Value.oneCell']) (by unfold maxLen; omega) (by omega) (by simp; omega) ?_; intro v' w8 hown8 hgrow hat
        obtain ⟨va, vc, rfl⟩ := ag hown8
        have hco8 := HQ.out.2.append (br.drew.alloc (by simp) _) hgrow hown8
        obtain ⟨_, _, _, _, s4, sf⟩ := hco8.cells
        have sf4 := sf 4
        have HM := hid hco8
        clear hco8 hown8 hgrow hat sf))
    all_goals
     obtain ⟨E, hE1, hE2, hE3⟩ := Es n o.length X (by omega) (by omega) hX
     have HM2 : Hid ((∀ x ∈ o ++ [E], x.ok ∧ x.nums) ∧ CB 25 (w.heap.size + 1) (w.heap.size + 2) #[.int .i64 4, .slice none 0 0, .int .i64 0, .int .i64 0, .slice va (o.length + 1) vc] 54 9 (.slice va (o.length + 1) vc) (o ++ [E]).length (bD (o ++ [E])) w1 (w8.setCell ⟨w.heap.size + 1, 4, none⟩ (.slice va (o.length + 1) vc))) := hid (by
      refine ⟨fun x hx => ?_, ?_⟩
      ·rcases List.mem_append.1 hx with hx | hx
       ·exact HQ.out.1 x hx
       ·simp only [List.mem_cons, List.not_mem_nil, or_false] at hx
        subst hx; exact ⟨hE1, hE2⟩
      ·rw [List.length_append, dG, show bD [E] = E.vals by simp [bD], hE3]
       exact HM.out.store 4 (.slice va (o.length + 1) vc))
     clear HM HQ
     go_wp2_with fail
     go_roundw
     case rel => exact ⟨o ++ [E], _, by rw [List.length_append]; go_num, by rw [List.length_append]; simp; omega, HM2⟩
     case measure => simp [intOf]; omega
   ·have x1 : ¬ (o.length : Int) < (n : Int) / 4 % 5 := by omega
    have g0 : wr.heap[w.heap.size]? = some (.cells #[.int .i64 0, .slice none 0 0, .int .i64 0, .int .i64 0, .slice none 0 0] 25 (0, 0)) := (HQ.out.2.old.block _ (by omega)).trans HB0.out.2.1
    go_wp2_with (refine wpList_store_row rfl 25 (.tmp 2) (.tmp 75) rfl rfl w.heap.size rfl _ rfl 25 _ g0 (by kernel_rfl) rfl (by simp [Value.oneCell']) ?_)
    refine bodyPost_ret (v := .agg #[.int .i64 4, .slice none 0 0, .int .i64 0, .int .i64 0, .slice sa o.length sc]) (results_cell_row rfl _ _ w.heap.size 25 _ _ _ rfl (setRow_heap _ _ _ _ _ _ g0) Tryz.underlying25 rfl (by kernel_rfl)) rfl ?_
    have h1 : ∀ x ∈ o, x.ok ∧ x.nums := HQ.out.1
    have hbw : Below w.heap.size w wr := HB0.out.2.2.trans (HQ.out.2.old.mono (by omega))
    refine ⟨⟨4, [], 0, 0, o⟩, _, _, rfl, ⟨?_, ?_, by simp, by show o.length ≤ 5; omega⟩, World.ownsRow_nil _ _ _ _, bZ (bH HQ.out.2.own (by omega)) (fun g hg => setRow_other _ _ _ _ (by have := (HQ.out.2.own.lt g hg).1; omega)), below_setRow hbw _ _ nl⟩
    ·have h2 : o.all (fun e => decide e.ok) = true := List.all_eq_true.2 (fun x hx => decide_eq_true (h1 x hx).1)
     simp [Crt.right, h2]
     omega
    ·have z : i64 0 := by unfold i64; omega
     exact ⟨by show i64 4; unfold i64; omega, z, z, fun x hx => absurd hx (by simp), fun e he => (h1 e he).2⟩
structure KM (w0 : World) (ga : Nat) (a b : Crt) (A B : Array Value) (oa wa : Value) (w : World) : Prop where
 pa : w.heap[ga]? = some (.cells A 25 (0, 0))
 pb : Cx 25 (ga + 1) (fun _ => True) b B w
 oa : w.ownsRow w0.heap.size 3 1 oa a.o.length (ints a.o)
 wa : w.ownsRow w0.heap.size 54 9 wa a.w.length (bD a.w)
 lq : Lq w0.heap.size w
 bel : Below w0.heap.size w0 w
theorem KM.below {w0 : World} {ga : Nat} {a b : Crt} {A B : Array Value} {oa wa : Value} {w w' : World} (h : KM w0 ga a b A B oa wa w) (hb : Below w.heap.size w w') : KM w0 ga a b A B oa wa w' :=
 ⟨(hb.block _ (Array.getElem?_eq_some_iff.1 h.pa).1).trans h.pa, h.pb.below hb nl, ownsRow_below h.oa hb nl, ownsRow_below h.wa hb nl, h.lq.below (hb.mono h.bel.size), h.bel.trans (hb.mono h.bel.size)⟩
theorem KM.lqAt {w0 : World} {ga : Nat} {a b : Crt} {A B : Array Value} {oa wa : Value} {w : World} (h : KM w0 ga a b A B oa wa w) : Lq w.heap.size w := h.lq.mono h.bel.size
theorem KM.cx {w0 : World} {ga : Nat} {a b : Crt} {B : Array Value} {oa wa : Value} {w : World} (h : KM w0 ga a b #[.int .i64 a.k, oa, .int .i64 a.p, .int .i64 a.q, wa] B oa wa w) : Cx 25 ga (fun _ => True) a #[.int .i64 a.k, oa, .int .i64 a.p, .int .i64 a.q, wa] w :=
 ⟨h.pa, ⟨oa, wa, rfl, Sl.unown (Sl.keep (bn.of_owns h.oa) (by omega) (fun _ _ _ => rfl) (fun _ _ _ => trivial)), Sl.unown (Sl.keep (aX.of_owns h.wa) (by omega) (fun _ _ _ => rfl) (fun _ _ _ => trivial))⟩⟩
theorem BO {w : World} {base : Nat} {T : TypeId} {l : List UInt8} {ad : Option Addr} {cc : Nat} (h : w.ownsRow base T 1 (.slice ad l.length cc) l.length (bytes l)) (h0 : 0 < l.length) :
  ∃ g, ad = some ⟨g, 0, none⟩ ∧ (∀ j (hj : j < l.length), w.cell? ⟨g, j, none⟩ = some (.int .u8 (l[j].toNat : Int))) ∧ ∀ j, j < l.length → w.frozen? ⟨g, j, none⟩ = false := by
 rcases h.2 with ⟨hv, hn⟩ | ⟨g, cap, cur, hv, _⟩
 ·omega
 ·simp only [Value.slice.injEq] at hv
  obtain ⟨rfl, _, rfl⟩ := hv
  obtain ⟨bl, off, e, _, hc⟩ := au.cell (au.of_owns h) h0
  simp only [Option.some.injEq, Addr.mk.injEq] at e
  obtain ⟨rfl, rfl, _⟩ := e
  exact ⟨g, rfl, fun j hj => by have := (hc j hj).1; rwa [Nat.zero_add] at this, fun j hj => by have := (hc j hj).2 rfl; rwa [Nat.zero_add] at this⟩
theorem cB {w : World} {base sz n b : Nat} {T T' : TypeId} {v : Value} {xs : List Value} {cs : Array Value} {fr : Nat × Nat} (h : w.ownsRow base T sz v n xs) (hb : w.heap[b]? = some (.cells cs T' fr)) (hT : T ≠ T') : some b ≠ v.ownBlock := by
 rcases h.2 with ⟨rfl, _⟩ | ⟨g, cap, cur, rfl, _, hg, _⟩
 ·intro e; cases e
 ·intro e
  have e' : some b = some g := e
  injection e' with e'
  subst e'
  rw [hg] at hb
  cases hb
  exact hT rfl
theorem jL {w : World} {base base' sz sz' n n' : Nat} {T T' : TypeId} {v v' : Value} {xs xs' : List Value} (h : w.ownsRow base T sz v n xs) (h' : w.ownsRow base' T' sz' v' n' xs') (hT : T ≠ T') : ∀ b, v.ownBlock = some b → some b ≠ v'.ownBlock := by
 intro b hb
 rcases h.2 with ⟨rfl, _⟩ | ⟨g, cap, cur, rfl, _, hg, _⟩
 ·cases hb
 ·have e' : some g = some b := hb
  injection e' with e'
  subst e'
  exact cB h' hg (fun e => hT e.symm)
structure KO (w0 : World) (ga go : Nat) (a : Crt) (A : Array Value) (l : List UInt8) (cv : Value) (w : World) : Prop where
 pa : Cx 25 ga (fun _ => True) a A w
 po : ∃ d D, Crt.nums d ∧ Cx 25 go (fun _ => True) d D w
 c : au w (fun _ => True) false l cv
 lq : Lq w0.heap.size w
 bel : Below w0.heap.size w0 w
theorem KO.lqAt {w0 w : World} {ga go : Nat} {a : Crt} {A : Array Value} {l : List UInt8} {cv : Value} (h : KO w0 ga go a A l cv w) : Lq w.heap.size w := h.lq.mono h.bel.size
theorem KO.below {w0 w w' : World} {ga go : Nat} {a : Crt} {A : Array Value} {l : List UInt8} {cv : Value} (h : KO w0 ga go a A l cv w) (hb : Below w.heap.size w w') : KO w0 ga go a A l cv w' := by
 obtain ⟨d, D, hd, hx⟩ := h.po
 exact ⟨h.pa.below hb nl, ⟨d, D, hd, hx.below hb nl⟩, h.c.below hb nl, h.lq.below (hb.mono h.bel.size), h.bel.trans (hb.mono h.bel.size)⟩
theorem KO.odd {w0 w : World} {ga go : Nat} {a : Crt} {A : Array Value} {l : List UInt8} {cv : Value} (h : KO w0 ga go a A l cv w) : ∃ d oda odc wda wdc, Crt.nums d ∧ Cx 25 go (fun _ => True) d #[.int .i64 d.k, .slice oda d.o.length odc, .int .i64 d.p, .int .i64 d.q, .slice wda d.w.length wdc] w := by
 obtain ⟨d, D, hd, hx⟩ := h.po
 obtain ⟨ad, cp, ad', cp', e, _⟩ := hx.r.shape
 injection e with e
 subst e
 exact ⟨d, ad, cp, ad', cp', hd, hx⟩
structure KR (w0 : World) (ga go : Nat) (a : Crt) (oa wa : Value) (l : List UInt8) (cv : Value) (w : World) : Prop where
 pa : w.heap[ga]? = some (.cells #[.int .i64 a.k, oa, .int .i64 a.p, .int .i64 a.q, wa] 25 (0, 0))
 po : w.heap[go]? = some (.cells #[.int .i64 a.k, oa, .int .i64 a.p, .int .i64 a.q, wa] 25 (0, 0))
 oa : w.ownsRow w0.heap.size 3 1 oa a.o.length (ints a.o)
 wa : w.ownsRow w0.heap.size 54 9 wa a.w.length (bD a.w)
 c : w.ownsRow w0.heap.size 5 1 cv l.length (bytes l)
 ne : ga ≠ go
 ge : w0.heap.size ≤ go
 lq : Lq w0.heap.size w0
 bel : Below w0.heap.size w0 w
section
variable {w0 w : World} {ga go : Nat} {a : Crt} {oa wa : Value} {l : List UInt8} {cv : Value}
theorem own_ne {sz n : Nat} {T : TypeId} {v : Value} {xs : List Value} {base : Nat} {cs : Array Value} {fr : Nat × Nat} (h : w.ownsRow base T sz v n xs) (hg : w.heap[go]? = some (.cells cs 25 fr)) (hT : T ≠ 25) (hsz : 0 < sz) : Sl w (fun b => b ≠ go) false sz n xs v :=
 Sl.unown (Sl.keep (Sl.of_owns h hsz) hsz (fun _ _ _ => rfl) (fun b _ hb e => cB h hg hT (by rw [← e]; exact hb.1.symm)))
theorem KO.of_set {A D : Array Value} {d : Crt} (o : Nat) (v : Value) (hpa : w.heap[ga]? = some (.cells A 25 (0, 0))) (hpo : w.heap[go]? = some (.cells A 25 (0, 0))) (hra : aL w (fun b => b ≠ go) false a (.agg A)) (hrd : aL w (fun b => b ≠ go) false d (.agg D)) (hD : A.setIfInBounds o v = D) (hd : d.nums) (hc : au w (fun b => b ≠ go) false l cv) (hne : ga ≠ go) (hge : w0.heap.size ≤ go) (hL : Lq w0.heap.size w0) (hb : Below w0.heap.size w0 w) :
  KO w0 ga go a A l cv (w.setCell ⟨go, o, none⟩ v) := by
 have hb' : Below w0.heap.size w0 (w.setCell ⟨go, o, none⟩ v) := hb.setCell (by simpa using hge) _
 have hk : eu (fun b => b ≠ go) w (w.setCell ⟨go, o, none⟩ v) := fun b hb _ => Below.heap_setCell _ _ _ _ hb
 refine ⟨⟨(Below.heap_setCell _ _ _ _ hne).trans hpa, hra.keep hk (fun _ _ _ => trivial)⟩, ⟨d, D, hd, ⟨?_, hrd.keep hk (fun _ _ _ => trivial)⟩⟩, Sl.keep hc (by omega) hk (fun _ _ _ => trivial), hL.below hb', hb'⟩
 rw [← hD]
 exact aQ hpo rfl
theorem KR.ra (h : KR w0 ga go a oa wa l cv w) : aL w (fun b => b ≠ go) false a (.agg #[.int .i64 a.k, oa, .int .i64 a.p, .int .i64 a.q, wa]) := ⟨oa, wa, rfl, own_ne h.oa h.po (by decide) (by omega), own_ne h.wa h.po (by decide) (by omega)⟩
theorem KR.rc (h : KR w0 ga go a oa wa l cv w) : au w (fun b => b ≠ go) false l cv := own_ne h.c h.po (by decide) (by omega)
theorem KR.same (h : KR w0 ga go a oa wa l cv w) (hn : a.nums) : KO w0 ga go a #[.int .i64 a.k, oa, .int .i64 a.p, .int .i64 a.q, wa] l cv w :=
 ⟨⟨h.pa, h.ra.keep (fun _ _ _ => rfl) (fun _ _ _ => trivial)⟩, ⟨a, _, hn, ⟨h.po, h.ra.keep (fun _ _ _ => rfl) (fun _ _ _ => trivial)⟩⟩, Sl.keep h.rc (by omega) (fun _ _ _ => rfl) (fun _ _ _ => trivial), h.lq.below h.bel, h.bel⟩
theorem KR.set (h : KR w0 ga go a oa wa l cv w) (o : Nat) (v : Value) (d : Crt) (ho : d.o = a.o) (hw : d.w = a.w) (hD : (#[.int .i64 a.k, oa, .int .i64 a.p, .int .i64 a.q, wa] : Array Value).setIfInBounds o v = #[.int .i64 d.k, oa, .int .i64 d.p, .int .i64 d.q, wa]) (hd : d.nums) : KO w0 ga go a #[.int .i64 a.k, oa, .int .i64 a.p, .int .i64 a.q, wa] l cv (w.setCell ⟨go, o, none⟩ v) := by
 obtain ⟨_, _, e, r1, r2⟩ := h.ra
 simp only [Value.agg.injEq, Array.mk.injEq, List.cons.injEq, and_true, true_and] at e
 obtain ⟨rfl, rfl⟩ := e
 exact KO.of_set o v h.pa h.po h.ra ⟨oa, wa, rfl, by rw [ho]; exact r1, by rw [hw]; exact r2⟩ hD hd h.rc h.ne h.ge h.lq h.bel
theorem KR.app1 {wx w2 : World} {v' : Value} {x : Int} (h : KR w0 ga go a oa wa l cv w) (hb : Below w.heap.size w wx) (hg : wx.grownBy w2 oa.ownBlock) (ho : w2.ownsRow w0.heap.size 3 1 v' (a.o.length + 1) (ints a.o ++ [.int .i64 x])) (hat : v'.ownBlock = oa.ownBlock ∨ v'.ownBlock = some wx.heap.size)
  (hk : Sl w2 (fun b => oa.ownBlock = some b) false 1 a.o.length (ints a.o) oa) (hn : a.nums) (hx : i64 x) : KO w0 ga go a #[.int .i64 a.k, oa, .int .i64 a.p, .int .i64 a.q, wa] l cv (w2.setCell ⟨go, 1, none⟩ v') := by
 have hs := hb.size
 have lga : ga < w.heap.size := (Array.getElem?_eq_some_iff.1 h.pa).1
 have lgo : go < w.heap.size := (Array.getElem?_eq_some_iff.1 h.po).1
 have na := cB h.oa h.pa (by decide)
 have no := cB h.oa h.po (by decide)
 have pa2 : w2.heap[ga]? = some (.cells #[.int .i64 a.k, oa, .int .i64 a.p, .int .i64 a.q, wa] 25 (0, 0)) := (hg.block _ (by omega) na).trans ((hb.block _ lga).trans h.pa)
 have po2 : w2.heap[go]? = some (.cells #[.int .i64 a.k, oa, .int .i64 a.p, .int .i64 a.q, wa] 25 (0, 0)) := (hg.block _ (by omega) no).trans ((hb.block _ lgo).trans h.po)
 have wa2 : w2.ownsRow w0.heap.size 54 9 wa a.w.length (bD a.w) := bZ (ownsRow_below h.wa hb nl) (fun g e => hg.block _ (((ownsRow_below h.wa hb nl).lt g e).2) (jL h.wa h.oa (by decide) g e))
 have c2 : w2.ownsRow w0.heap.size 5 1 cv l.length (bytes l) := bZ (ownsRow_below h.c hb nl) (fun g e => hg.block _ (((ownsRow_below h.c hb nl).lt g e).2) (jL h.c h.oa (by decide) g e))
 have oS : bn w2 (fun b => b ≠ go) false a.o oa := Sl.keep hk (by omega) (fun _ _ _ => rfl) (fun b _ e e' => no (by rw [e, e']))
 have dS : bn w2 (fun b => b ≠ go) false (a.o ++ [x]) v' := by
  have e1 : (a.o ++ [x]).length = a.o.length + 1 := by simp
  have e2 : ints (a.o ++ [x]) = ints a.o ++ [.int .i64 x] := by rw [fF]; rfl
  show Sl w2 _ false 1 _ _ _
  rw [e1, e2]
  exact own_ne ho po2 (by decide) (by omega)
 have hb2 : Below w0.heap.size w0 w2 := (h.bel.trans (hb.mono h.bel.size)).grown hg (Nat.le_trans h.bel.size hs) (fun k e => (h.oa.lt k e).1)
 refine KO.of_set (d := { a with o := a.o ++ [x] }) 1 v' pa2 po2 ⟨oa, wa, rfl, oS, own_ne wa2 po2 (by decide) (by omega)⟩ ⟨v', wa, rfl, dS, own_ne wa2 po2 (by decide) (by omega)⟩ rfl ⟨hn.1, hn.2.1, hn.2.2.1, fun n hm => ?_, hn.2.2.2.2⟩ (own_ne c2 po2 (by decide) (by omega)) h.ne h.ge h.lq hb2
 rcases List.mem_append.1 hm with hm | hm
 ·exact hn.2.2.2.1 n hm
 ·simp only [List.mem_cons, List.not_mem_nil, or_false] at hm; subst hm; exact hx
theorem KR.app4 {wx w2 : World} {v' : Value} {x : Ed} (h : KR w0 ga go a oa wa l cv w) (hb : Below w.heap.size w wx) (hg : wx.grownBy w2 wa.ownBlock) (ho : w2.ownsRow w0.heap.size 54 9 v' (a.w.length + 1) (bD a.w ++ x.vals)) (hat : v'.ownBlock = wa.ownBlock ∨ v'.ownBlock = some wx.heap.size)
  (hk : Sl w2 (fun b => wa.ownBlock = some b) false 9 a.w.length (bD a.w) wa) (hn : a.nums) (hx : x.nums) : KO w0 ga go a #[.int .i64 a.k, oa, .int .i64 a.p, .int .i64 a.q, wa] l cv (w2.setCell ⟨go, 4, none⟩ v') := by
 have hs := hb.size
 have lga : ga < w.heap.size := (Array.getElem?_eq_some_iff.1 h.pa).1
 have lgo : go < w.heap.size := (Array.getElem?_eq_some_iff.1 h.po).1
 have na := cB h.wa h.pa (by decide)
 have no := cB h.wa h.po (by decide)
 have pa2 : w2.heap[ga]? = some (.cells #[.int .i64 a.k, oa, .int .i64 a.p, .int .i64 a.q, wa] 25 (0, 0)) := (hg.block _ (by omega) na).trans ((hb.block _ lga).trans h.pa)
 have po2 : w2.heap[go]? = some (.cells #[.int .i64 a.k, oa, .int .i64 a.p, .int .i64 a.q, wa] 25 (0, 0)) := (hg.block _ (by omega) no).trans ((hb.block _ lgo).trans h.po)
 have oa2 : w2.ownsRow w0.heap.size 3 1 oa a.o.length (ints a.o) := bZ (ownsRow_below h.oa hb nl) (fun g e => hg.block _ (((ownsRow_below h.oa hb nl).lt g e).2) (jL h.oa h.wa (by decide) g e))
 have c2 : w2.ownsRow w0.heap.size 5 1 cv l.length (bytes l) := bZ (ownsRow_below h.c hb nl) (fun g e => hg.block _ (((ownsRow_below h.c hb nl).lt g e).2) (jL h.c h.wa (by decide) g e))
 have oS : aX w2 (fun b => b ≠ go) false a.w wa := Sl.keep hk (by omega) (fun _ _ _ => rfl) (fun b _ e e' => no (by rw [e, e']))
 have dS : aX w2 (fun b => b ≠ go) false (a.w ++ [x]) v' := by
  have e1 : (a.w ++ [x]).length = a.w.length + 1 := by simp
  have e2 : bD (a.w ++ [x]) = bD a.w ++ x.vals := by rw [dG]; simp [bD]
  show Sl w2 _ false 9 _ _ _
  rw [e1, e2]
  exact own_ne ho po2 (by decide) (by omega)
 have hb2 : Below w0.heap.size w0 w2 := (h.bel.trans (hb.mono h.bel.size)).grown hg (Nat.le_trans h.bel.size hs) (fun k e => (h.wa.lt k e).1)
 refine KO.of_set (d := { a with w := a.w ++ [x] }) 4 v' pa2 po2 ⟨oa, wa, rfl, own_ne oa2 po2 (by decide) (by omega), oS⟩ ⟨oa, v', rfl, own_ne oa2 po2 (by decide) (by omega), dS⟩ rfl ⟨hn.1, hn.2.1, hn.2.2.1, hn.2.2.2.1, fun e hm => ?_⟩ (own_ne c2 po2 (by decide) (by omega)) h.ne h.ge h.lq hb2
 rcases List.mem_append.1 hm with hm | hm
 ·exact hn.2.2.2.2 e hm
 ·simp only [List.mem_cons, List.not_mem_nil, or_false] at hm; subst hm; exact hx
end
structure BG (w0 : World) (g : Nat) (l : List Int) (ov : Value) (w : World) : Prop where
 box : w.heap[g]? = some (.cells #[.int .i64 1, ov, .int .i64 0, .int .i64 0, .slice none 0 0] 25 (0, 0))
 own : w.ownsRow w0.heap.size 3 1 ov l.length (ints l)
 ge : w0.heap.size ≤ g
 bel : Below w0.heap.size w0 w
theorem BG.below {w0 w w' : World} {g : Nat} {l : List Int} {ov : Value} (h : BG w0 g l ov w) (hb : Below w.heap.size w w') : BG w0 g l ov w' :=
 ⟨(hb.block _ (Array.getElem?_eq_some_iff.1 h.box).1).trans h.box, ownsRow_below h.own hb nl, h.ge, h.bel.trans (hb.mono h.bel.size)⟩
theorem BG.cx {w0 w : World} {g : Nat} {l : List Int} {ov : Value} (h : BG w0 g l ov w) : Cx 25 g (fun _ => True) ⟨1, l, 0, 0, []⟩ #[.int .i64 1, ov, .int .i64 0, .int .i64 0, .slice none 0 0] w :=
 ⟨h.box, ⟨ov, .slice none 0 0, rfl, Sl.unown (Sl.keep (bn.of_owns h.own) (by omega) (fun _ _ _ => rfl) (fun _ _ _ => trivial)), aX.nil _ _ _⟩⟩
theorem BG.app {w0 w wx w2 : World} {g : Nat} {l : List Int} {ov v' : Value} {x : Int} (h : BG w0 g l ov w) (hb : Below w.heap.size w wx) (hg : wx.grownBy w2 ov.ownBlock) (ho : w2.ownsRow w0.heap.size 3 1 v' (l.length + 1) (ints l ++ [.int .i64 x])) : BG w0 g (l ++ [x]) v' (w2.setCell ⟨g, 1, none⟩ v') := by
 have hs := hb.size
 have lg : g < w.heap.size := (Array.getElem?_eq_some_iff.1 h.box).1
 have no := cB h.own h.box (by decide)
 have b2 := (hg.block _ (by omega) no).trans ((hb.block _ lg).trans h.box)
 have hb2 : Below w0.heap.size w0 w2 := (h.bel.trans (hb.mono h.bel.size)).grown hg (Nat.le_trans h.bel.size hs) (fun k e => (h.own.lt k e).1)
 have hn := cB ho b2 (by decide)
 refine ⟨?_, ?_, h.ge, hb2.setCell (by simpa using h.ge) _⟩
 ·have := aQ (v := v') (o := 1) b2 rfl
  exact this
 ·have e1 : (l ++ [x]).length = l.length + 1 := by simp
  have e2 : ints (l ++ [x]) = ints l ++ [.int .i64 x] := by rw [fF]; rfl
  rw [e1, e2]
  exact bZ ho (fun k e => Below.heap_setCell _ _ _ _ (by intro e'; exact hn (by rw [e, e'])))
theorem sj (n : Nat) : (madeCells (Value.int .i64 0).cells n).toList = ints (List.replicate n 0) := by
 rw [show (Value.int .i64 0).cells = #[Value.int .i64 0] from rfl, toList_madeCells_one]
 simp [ints]
theorem zP (S : Nat → Prop) (own : Bool) (l : List Int) (v : Value) (w : World) (hr : bn w S own l v) (h47 : l.length ≤ 100000000) :
  Calls Tryz.prog 22 #[v] w fun e w' => ∃ ov, e = .returned (.agg #[.int .i64 1, ov, .int .i64 0, .int .i64 0, .slice none 0 0]) ∧ w'.ownsRow w.heap.size 3 1 ov l.length (ints l) ∧ Below w.heap.size w w' := by
 have HC := hid (iZ S own l v _ (hr.below (br.alloc nl (.cells #[.int .i64 0, .slice none 0 0, .int .i64 0, .int .i64 0, .slice none 0 0] 25)) nl) h47)
 have h0 := heap_alloc_new w (.cells #[.int .i64 0, .slice none 0 0, .int .i64 0, .int .i64 0, .slice none 0 0] 25)
 have hb0 : Below w.heap.size w (w.alloc (.cells #[.int .i64 0, .slice none 0 0, .int .i64 0, .int .i64 0, .slice none 0 0] 25)) := br.alloc nl _
 have hs0 : (w.alloc (.cells #[.int .i64 0, .slice none 0 0, .int .i64 0, .int .i64 0, .slice none 0 0] 25)).heap.size = w.heap.size + 1 := World.size_alloc _ _
 have H0 := hid (And.intro h0 (And.intro hb0 hs0))
 clear h0 hb0 hs0 hr
 go_enter Tryz.func22, Tryz.ntmps22
 go_wp2_with fail
 refine HC.out.mono ?_
 rintro e w1 ⟨v1, rfl, hown1, hb1⟩
 obtain ⟨h0, hb0, hs0⟩ := H0.out
 have g0 : w1.heap[w.heap.size]? = some (.cells #[.int .i64 0, .slice none 0 0, .int .i64 0, .int .i64 0, .slice none 0 0] 25 (0, 0)) := (hb1.block _ (by omega)).trans h0
 obtain ⟨ad, cap, rfl⟩ := ag hown1
 have H1 := hid (And.intro hown1 (hb0.trans (hb1.mono (by omega))))
 have hz1 := hb1.size
 clear hown1 hb1 hb0 h0
 go_wp2_with (refine wpList_store_row rfl 25 (.tmp 2) (.tmp 5) rfl rfl w.heap.size rfl _ rfl 25 _ g0 (by kernel_rfl) rfl (by simp [Value.oneCell']) ?_)
 refine bodyPost_ret (v := .agg #[.int .i64 1, .slice ad l.length cap, .int .i64 0, .int .i64 0, .slice none 0 0]) (results_cell_row rfl _ _ w.heap.size 25 _ _ _ rfl (setRow_heap _ _ _ _ _ _ g0) Tryz.underlying25 rfl (by kernel_rfl)) rfl ⟨_, rfl, bZ (bH H1.out.1 (by omega)) (fun g hg => setRow_other _ _ _ _ (by have := (H1.out.1.lt g hg).1; omega)), below_setRow H1.out.2 _ _ nl⟩
theorem BP (n : Nat) (h : n ≤ 65536) : (⟨1, List.replicate n 0, 0, 0, []⟩ : Crt).right = true := by
 have h2 : (List.replicate n (0 : Int)).all (fun n => decide (0 ≤ n)) = true := List.all_eq_true.2 (fun x hx => by rw [List.eq_of_mem_replicate hx]; rfl)
 simp [Crt.right, h]
theorem su (n : Nat) (l : List Int) (hl : ∀ x ∈ l, x = 0) : (⟨1, l, 0, 0, []⟩ : Crt).nums := by
 have z : i64 0 := by unfold i64; omega
 exact ⟨by show i64 1; unfold i64; omega, z, z, fun x hx => by rw [hl x hx]; exact z, fun e he => absurd he (by simp)⟩
theorem BQ (l : List Int) (h : 65536 < l.length) : (⟨1, l, 0, 0, []⟩ : Crt).right = false := by
 cases e : (⟨1, l, 0, 0, []⟩ : Crt).right with
 | false => rfl
 | true =>
  obtain ⟨_, _, _, _, _, _, _, _, _, g, _⟩ := Crt.nil_of e
  have : l.length ≤ 65536 := g
  omega
theorem tK (w : World) (hL : Lq w.heap.size w) :
  Calls Tryz.prog 4 #[] w fun e w' => e = .returned (.bool true) ∧ Below w.heap.size w w' := by
 have HL := hid hL
 clear hL
 go_enter Tryz.func4, Tryz.ntmps4
 go_wp2_with fail
 go_loopw [1] (fun t wr => ∃ j : Nat, j ≤ 160 ∧ t = .int .i64 j ∧ Hid (Below w.heap.size w wr)) (fun t _ => 160 - (intOf t).toNat)
 case atStart => exact ⟨0, by omega, rfl, hid br⟩
 case round =>
  obtain ⟨j, hj, rfl, HQ⟩ := hrel
  by_cases hlt : j < 160
  ·have HQL : Hid (Lq w.heap.size wr) := hid (HL.out.below HQ.out)
   have x1 : (0 : Int) ≤ (j : Int) := by omega
   have x2 : (j : Int) < 160 := by omega
   go_wp2_with fail
   refine (yh j hlt wr).mono ?_
   rintro e w1 ⟨ca, ov, wv, rfl, hca, ho, hw, hb1⟩
   obtain ⟨oaa, oac, rfl⟩ := ag ho
   obtain ⟨waa, wac, rfl⟩ := ag hw
   have HCA := hid hca
   have HM1 := hid (And.intro ho (And.intro hw hb1))
   clear hca ho hw hb1
   go_wp2_with fail
   have h2 := yh (j / 2) (by omega) w1
   rw [show ((j / 2 : Nat) : Int) = (j : Int) / 2 by omega] at h2
   refine h2.mono ?_
   clear h2
   rintro e w2 ⟨cb, ov, wv, rfl, hcb, ho, hw, hb2⟩
   obtain ⟨oba, obc, rfl⟩ := ag ho
   obtain ⟨wba, wbc, rfl⟩ := ag hw
   have HCB := hid hcb
   have HM2 := hid (And.intro ho (And.intro hw hb2))
   clear hcb ho hw hb2
   go_upto_region 5 with fail
   have HK3 : Hid (KM wr w2.heap.size ca cb #[.int .i64 ca.k, .slice oaa ca.o.length oac, .int .i64 ca.p, .int .i64 ca.q, .slice waa ca.w.length wac] #[.int .i64 cb.k, .slice oba cb.o.length obc, .int .i64 cb.p, .int .i64 cb.q, .slice wba cb.w.length wbc] (.slice oaa ca.o.length oac) (.slice waa ca.w.length wac) ((w2.alloc (.cells #[.int .i64 ca.k, .slice oaa ca.o.length oac, .int .i64 ca.p, .int .i64 ca.q, .slice waa ca.w.length wac] 25)).alloc (.cells #[.int .i64 cb.k, .slice oba cb.o.length obc, .int .i64 cb.p, .int .i64 cb.q, .slice wba cb.w.length wbc] 25))) := hid (by
    obtain ⟨a1, a2, a3⟩ := HM1.out
    obtain ⟨b1, b2, b3⟩ := HM2.out
    have hs1 := a3.size
    have hs2 := b3.size
    have hbB : Below w2.heap.size w2 ((w2.alloc (.cells #[.int .i64 ca.k, .slice oaa ca.o.length oac, .int .i64 ca.p, .int .i64 ca.q, .slice waa ca.w.length wac] 25)).alloc (.cells #[.int .i64 cb.k, .slice oba cb.o.length obc, .int .i64 cb.p, .int .i64 cb.q, .slice wba cb.w.length wbc] 25)) := (br.alloc nl _).alloc (by simp) _
    have hb0 := (a3.trans (b3.mono hs1)).trans (hbB.mono (by omega))
    refine ⟨?_, ⟨?_, ?_⟩, ?_, ?_, ?_, hb0⟩
    ·exact (aU _ _ _ (by simp)).trans (az _ _ _ rfl)
    ·exact az _ _ _ (by simp)
    ·exact aL.below (w := w2) ⟨_, _, rfl, Sl.unown (Sl.keep (bn.of_owns b1) (by omega) (fun _ _ _ => rfl) (fun _ _ _ => trivial)), Sl.unown (Sl.keep (aX.of_owns b2) (by omega) (fun _ _ _ => rfl) (fun _ _ _ => trivial))⟩ hbB nl
    ·exact ownsRow_below (ownsRow_below a1 b3 nl) hbB nl
    ·exact ownsRow_below (ownsRow_below a2 b3 nl) hbB nl
    ·exact (HQL.out.mono HQ.out.size).below hb0)
   generalize ((w2.alloc (.cells #[.int .i64 ca.k, .slice oaa ca.o.length oac, .int .i64 ca.p, .int .i64 ca.q, .slice waa ca.w.length wac] 25)).alloc (.cells #[.int .i64 cb.k, .slice oba cb.o.length obc, .int .i64 cb.p, .int .i64 cb.q, .slice wba cb.w.length wbc] 25)) = w3 at HK3 ⊢
   obtain ⟨ga, hga⟩ : ∃ g, g = w2.heap.size := ⟨_, rfl⟩
   rw [← hga] at HK3 ⊢
   clear HM1 HM2 hga
   have HN : Hid (ca.nums ∧ cb.nums) := hid ⟨HCA.out.2.1, HCB.out.2.1⟩
   have HW : Hid (ca.o.length ≤ 7 ∧ ca.w.length ≤ 5) := hid HCA.out.2.2
   have HRA : Hid (ca.right = true) := hid HCA.out.1
   clear HCA HCB
   obtain ⟨LA, hLA⟩ : ∃ l, l = ca.bytes := ⟨_, rfl⟩
   have n6 : 6 ≤ LA.length := by rw [hLA]; exact Crt.bytes_six ca
   have n9 : LA.length ≤ 9500 := by rw [hLA]; exact Crt.bytes_small (by have := HW.out.1; omega) (by have := HW.out.2; omega)
   obtain ⟨TA, hTA⟩ : ∃ t : ByteArray, t = ⟨ca.text.toArray⟩ := ⟨_, rfl⟩
   have m5 : 5 ≤ TA.size := by rw [hTA, ← ay]; exact Crt.text_five HRA.out
   have m9 : TA.size ≤ 9500 := by rw [hTA, ← ay]; exact Crt.text_small HN.out.1 (by have := HW.out.1; omega) (by have := HW.out.2; omega)
   have HLA := hid hLA
   have HTA := hid hTA
   clear hLA hTA
   have la := HK3.out.cx.lt
   obtain ⟨p0, p1, p2, p3, p4⟩ := HK3.out.cx.cells
   go_wp2_with fail
   refine (df _ _ ca _ _ HK3.out.cx.r HN.out.1 (by have := HW.out.1; omega) (by have := HW.out.2; omega) HK3.out.lqAt).mono ?_
   rintro e w4 ⟨vt, rfl, hvt, hb4⟩
   obtain ⟨xa, xc, xb, xd, rfl, _⟩ := hvt.shape
   have HK4 := hid (And.intro (HK3.out.below hb4) hvt)
   clear hb4 hvt HK3 p0 p1 p2 p3 p4 la
   go_wp2_with fail
   refine (iJ _ _ ca _ _ HK4.out.2 HN.out.1 (by have := HW.out.1; omega) (by have := HW.out.2; omega) HK4.out.1.lqAt).mono ?_
   rintro e w5 hput
   obtain ⟨u, rfl, hur, hb5⟩ := kw hput HRA.out
   rw [← HLA.out] at hur
   obtain ⟨_, pd, lc, rfl, hlc⟩ := hur.shape
   obtain ⟨bl, off, rfl, _, _⟩ := au.at8 hur (j := 0) (by omega)
   have HP5 : Hid (au w5 (fun _ => True) false LA (.slice (some ⟨bl, off, none⟩) LA.length lc)) := hid (Sl.unown (Sl.keep hur (by omega) (fun _ _ _ => rfl) (fun _ _ _ => trivial)))
   have HK5 := hid (HK4.out.1.below hb5)
   clear hb5 hput hur HK4
   have la := HK5.out.cx.lt
   obtain ⟨p0, p1, p2, p3, p4⟩ := HK5.out.cx.cells
   go_wp2_with fail
   refine (df _ _ ca _ _ HK5.out.cx.r HN.out.1 (by have := HW.out.1; omega) (by have := HW.out.2; omega) HK5.out.lqAt).mono ?_
   rintro e w6 ⟨vt, rfl, hvt, hb6⟩
   obtain ⟨xa, xc, xb, xd, rfl, _⟩ := hvt.shape
   have HK6 := hid (And.intro (HK5.out.below hb6) hvt)
   have HP6 := hid (HP5.out.below hb6 nl)
   clear hb6 hvt HK5 HP5 p0 p1 p2 p3 p4 la
   go_wp2_with fail
   refine (bC _ _ ca _ _ HK6.out.2 HN.out.1 (by have := HW.out.1; omega) (by have := HW.out.2; omega) HK6.out.1.lqAt).mono ?_
   rintro e w7 ⟨rfl, hb7⟩
   rw [← HTA.out]
   have HK7 := hid (HK6.out.1.below hb7)
   have HP7 := hid (HP6.out.below hb7 nl)
   clear hb7 HK6 HP6
   have la := HK7.out.cx.lt
   obtain ⟨p0, p1, p2, p3, p4⟩ := HK7.out.cx.cells
   have lb := HK7.out.pb.lt
   obtain ⟨q0, q1, q2, q3, q4⟩ := HK7.out.pb.cells
   go_wp2_with fail
   refine (lL _ _ ca cb _ _ w7 HK7.out.cx.r HK7.out.pb.r HN.out.1 HN.out.2 HK7.out.lqAt).mono ?_
   rintro e w8 ⟨rfl, hb8⟩
   have HK8 := hid (HK7.out.below hb8)
   have HP8 := hid (HP7.out.below hb8 nl)
   clear hb8 HK7 HP7 p0 p1 p2 p3 p4 la q0 q1 q2 q3 q4 lb
   have la := HK8.out.cx.lt
   obtain ⟨p0, p1, p2, p3, p4⟩ := HK8.out.cx.cells
   have lb := HK8.out.pb.lt
   obtain ⟨q0, q1, q2, q3, q4⟩ := HK8.out.pb.cells
   obtain ⟨ub, hub⟩ : ∃ u : UInt8, (u.toNat : Int) = 1 + (j : Int) % 9 := ⟨(1 + j % 9).toUInt8, by rw [cZ (by omega)]; omega⟩
   have HUB := hid hub
   clear hub
   go_wp2_with fail
   rw [← HUB.out]
   refine (jK _ _ ca cb _ _ (j : Int) ub w8 HK8.out.cx.r HK8.out.pb.r HN.out.1 HN.out.2 (by omega) HK8.out.lqAt).mono ?_
   rintro e w9 ⟨rfl, hb9⟩
   have HK9 := hid (HK8.out.below hb9)
   have HP9 := hid (HP8.out.below hb9 nl)
   clear hb9 HK8 HP8 HUB p0 p1 p2 p3 p4 la q0 q1 q2 q3 q4 lb
   have la := HK9.out.cx.lt
   obtain ⟨p0, p1, p2, p3, p4⟩ := HK9.out.cx.cells
   have lb := HK9.out.pb.lt
   obtain ⟨q0, q1, q2, q3, q4⟩ := HK9.out.pb.cells
   go_wp2_with fail
   refine (jK _ _ cb ca _ _ ((j : Int) * 7) 0 w9 HK9.out.pb.r HK9.out.cx.r HN.out.2 HN.out.1 (by omega) HK9.out.lqAt).mono ?_
   rintro e w10 ⟨rfl, hb10⟩
   have HK10 := hid (HK9.out.below hb10)
   have HP10 := hid (HP9.out.below hb10 nl)
   clear hb10 HK9 HP9 p0 p1 p2 p3 p4 la q0 q1 q2 q3 q4 lb
   go_wp2_with fail
   refine (fT _ _ LA _ TA w10 HP10.out HK10.out.lqAt).mono ?_
   rintro e w11 ⟨rfl, hb11⟩
   have HK11 := hid (HK10.out.below hb11)
   have HP11 := hid (HP10.out.below hb11 nl)
   clear hb11 HK10 HP10
   have k1 : (0 : Int) ≤ (LA.length : Int) - 1 := by omega
   have k2 : (LA.length : Int) - 1 ≤ (lc : Int) := by omega
   have k3 : ((LA.length : Int) - 1).toNat = LA.length - 1 := by omega
   go_wp2_with fail
   refine (fT _ _ (LA.take (LA.length - 1)) _ _ w11 (au.head HP11.out (LA.length - 1) lc (by omega) (by omega)) HK11.out.lqAt).mono ?_
   rintro e w12 ⟨rfl, hb12⟩
   have HK12 := hid (HK11.out.below hb12)
   have HP12 := hid (HP11.out.below hb12 nl)
   clear hb12 HK11 HP11 k1 k2 k3
   have k5 : ¬ (TA.size : Int) < 5 := by omega
   go_wp2_with fail
   refine (gW _ _ LA _ w12 HP12.out (by omega)).mono ?_
   rintro e w13 ⟨v1, rfl, hown, hb13⟩
   obtain ⟨cca, cc, rfl⟩ := ag hown
   obtain ⟨gc, rfl, hcc, hcf⟩ := BO hown (by omega)
   obtain ⟨i, hi, he1, he2⟩ : ∃ i : Nat, i < LA.length ∧ (j : Int) % (LA.length : Int) = (i : Int) ∧ (j : Int).tmod (LA.length : Int) = (i : Int) := ⟨j % LA.length, Nat.mod_lt _ (by omega), by simp, by rw [Int.tmod_eq_emod_of_nonneg (by omega)]; simp⟩
   have hc0 := hcc i hi
   have hf0 := hcf i hi
   have y1 : (0 : Int) ≤ (i : Int) := by omega
   have y2 : (i : Int) < (LA.length : Int) := by omega
   have y3 : (0 : Int) < (LA.length : Int) := by omega
   have HC13 := hid (And.intro hown hb13)
   have hs12 := HK12.out.bel.size
   clear hown hb13 hcc hcf HP12
   go_upto_region 11 with fail
   obtain ⟨u2, hu2⟩ : ∃ u : UInt8, (u.toNat : Int) = (j : Int) := ⟨j.toUInt8, by rw [cZ (by omega)]⟩
   obtain ⟨LC, hLC⟩ : ∃ l, l = LA.set i u2 := ⟨_, rfl⟩
   have HC14 : Hid ((w13.setCell ⟨gc, i, none⟩ (.int .u8 (j : Int))).ownsRow w12.heap.size 5 1 (.slice (some ⟨gc, 0, none⟩) LA.length cc) LC.length (bytes LC) ∧ Below w12.heap.size w12 (w13.setCell ⟨gc, i, none⟩ (.int .u8 (j : Int))) ∧ LC.length = LA.length) := hid (by
    have hz : LC.length = LA.length := by rw [hLC, List.length_set]
    refine ⟨?_, HC13.out.2.setCell (by have := (HC13.out.1.lt gc rfl).1; simp; omega) _, hz⟩
    rw [hz, hLC, nW, hu2]
    exact qw i _ HC13.out.1 rfl)
   have HK14 := hid (HK12.out.below HC14.out.2.1)
   generalize (w13.setCell ⟨gc, i, none⟩ (.int .u8 (j : Int))) = w14 at HC14 HK14 ⊢
   clear HC13 HK12 hu2 hLC he1 he2 hc0 hf0 y1 y2 y3 hi
   have la := HK14.out.cx.lt
   obtain ⟨p0, p1, p2, p3, p4⟩ := HK14.out.cx.cells
   have lb := HK14.out.pb.lt
   obtain ⟨q0, q1, q2, q3, q4⟩ := HK14.out.pb.cells
   go_upto_region 12 with fail
   have HR15 : Hid (KR wr ga w14.heap.size ca (.slice oaa ca.o.length oac) (.slice waa ca.w.length wac) LC (.slice (some ⟨gc, 0, none⟩) LA.length cc) (w14.alloc (.cells #[.int .i64 ca.k, .slice oaa ca.o.length oac, .int .i64 ca.p, .int .i64 ca.q, .slice waa ca.w.length wac] 25))) := hid (by
    have hb : Below w14.heap.size w14 (w14.alloc (.cells #[.int .i64 ca.k, .slice oaa ca.o.length oac, .int .i64 ca.p, .int .i64 ca.q, .slice waa ca.w.length wac] 25)) := dB _ _
    have hk := HK14.out.below hb
    have hs := HK14.out.bel.size
    have hc := ownsRow_below HC14.out.1 hb nl
    have l1 : ga < w14.heap.size := (Array.getElem?_eq_some_iff.1 HK14.out.pa).1
    exact ⟨hk.pa, heap_alloc_new _ _, hk.oa, hk.wa, bH hc hs12, by omega, by omega, HQL.out.mono HQ.out.size, hk.bel⟩)
   generalize (w14.alloc (.cells #[.int .i64 ca.k, .slice oaa ca.o.length oac, .int .i64 ca.p, .int .i64 ca.q, .slice waa ca.w.length wac] 25)) = w15 at HR15 ⊢
   obtain ⟨go, hgo⟩ : ∃ g, g = w14.heap.size := ⟨_, rfl⟩
   rw [← hgo] at HR15 ⊢
   clear hgo HK14 HC14 p0 p1 p2 p3 p4 la q0 q1 q2 q3 q4 lb
   go_upto_block 2 with fail
   go_cut [] from 90 to 130 (fun wx => KO wr ga go ca #[.int .i64 ca.k, .slice oaa ca.o.length oac, .int .i64 ca.p, .int .i64 ca.q, .slice waa ca.w.length wac] LC (.slice (some ⟨gc, 0, none⟩) LA.length cc) wx)
   case first =>
    have hpo := HR15.out.po
    have g0 : w15.cell? ⟨go, 0, none⟩ = some (.int .i64 ca.k) := by rw [cell_of_row w15 _ 0 _ _ _ hpo]; rfl
    have g1 : w15.cell? ⟨go, 1, none⟩ = some (.slice oaa ca.o.length oac) := by rw [cell_of_row w15 _ 1 _ _ _ hpo]; rfl
    have g2 : w15.cell? ⟨go, 2, none⟩ = some (.int .i64 ca.p) := by rw [cell_of_row w15 _ 2 _ _ _ hpo]; rfl
    have g3 : w15.cell? ⟨go, 3, none⟩ = some (.int .i64 ca.q) := by rw [cell_of_row w15 _ 3 _ _ _ hpo]; rfl
    have g4 : w15.cell? ⟨go, 4, none⟩ = some (.slice waa ca.w.length wac) := by rw [cell_of_row w15 _ 4 _ _ _ hpo]; rfl
    have f0 : w15.frozen? ⟨go, 0, none⟩ = false := by rw [frozen_of_row w15 _ 0 _ _ hpo]
    have f1 : w15.frozen? ⟨go, 1, none⟩ = false := by rw [frozen_of_row w15 _ 1 _ _ hpo]
    have f2 : w15.frozen? ⟨go, 2, none⟩ = false := by rw [frozen_of_row w15 _ 2 _ _ hpo]
    have f3 : w15.frozen? ⟨go, 3, none⟩ = false := by rw [frozen_of_row w15 _ 3 _ _ hpo]
    have f4 : w15.frozen? ⟨go, 4, none⟩ = false := by rw [frozen_of_row w15 _ 4 _ _ hpo]
    have lgo : go < w15.heap.size := (Array.getElem?_eq_some_iff.1 hpo).1
    clear hpo
    have hm : (j : Int) / 4 % 7 = 0 ∨ (j : Int) / 4 % 7 = 1 ∨ (j : Int) / 4 % 7 = 2 ∨ (j : Int) / 4 % 7 = 3 ∨ (j : Int) / 4 % 7 = 4 ∨ (j : Int) / 4 % 7 = 5 ∨ (j : Int) / 4 % 7 = 6 := by omega
    rcases hm with hm | hm | hm | hm | hm | hm | hm
    ·go_wp2_with fail
     go_meet
     exact HR15.out.set 0 _ { ca with k := (j : Int) % 11 - 3 } rfl rfl rfl ⟨by show i64 ((j : Int) % 11 - 3); unfold i64; omega, HN.out.1.2⟩
    ·go_wp2_with fail
     go_meet
     exact HR15.out.set 2 _ { ca with p := -1 } rfl rfl rfl ⟨HN.out.1.1, by show i64 (-1); unfold i64; omega, HN.out.1.2.2⟩
    ·go_wp2_with fail
     go_meet
     exact HR15.out.set 3 _ { ca with q := 1 - (j : Int) % 4 } rfl rfl rfl ⟨HN.out.1.1, HN.out.1.2.1, by show i64 (1 - (j : Int) % 4); unfold i64; omega, HN.out.1.2.2.2⟩
    ·obtain ⟨i0, hi0, hz0, hz1, hz2⟩ := info_parts si
     have ho7 := HW.out.1
     go_wp2_with (at_builtin; go_loud (refine iD _ rfl (.tmp 111) (.tmp 115) _ rfl wr.heap.size 3 i0 _ 1 8 Tryz.underlying22 hi0 hz0 hz1 hz2 rfl (by omega) _ ca.o.length (ints ca.o) rfl (HR15.out.oa.alloc _) ⟨w15.heap.size, 0, none⟩ 1 1 [.int .i64 ((j : Int) % 3 - 1)] rfl rfl (World.news_of_block (cs := #[.int .i64 ((j : Int) % 3 - 1)]) (t := 3) (fr := (0, 0)) (heap_alloc_new w15 _)) (by simp [Value.oneCell']) (by unfold maxLen; omega) (by omega) (by have := HR15.out.bel.size; simp; omega) ?_); intro v' w16 hown16 hgrow hat hold; obtain ⟨va, vc, rfl⟩ := ag hown16; have HM := hid (HR15.out.app1 (dB _ _) hgrow hown16 hat hold HN.out.1 (by unfold i64; omega)); have hno := cB HR15.out.oa HR15.out.po (by decide); have gg1 : w16.cell? ⟨go, 1, none⟩ = some (.slice oaa ca.o.length oac) := (by rw [hgrow.cell_far _ (by simp; omega) hno, World.cell?_alloc_past _ _ _ lgo]; exact g1); have ff1 : w16.frozen? ⟨go, 1, none⟩ = false := (by rw [hgrow.frozen_far _ (by simp; omega) hno, World.frozen?_alloc_past _ _ _ lgo]; exact f1); clear hown16 hgrow hat hold hno)
     go_meet
     exact HM.out
    ·obtain ⟨i0, hi0, hz0, hz1, hz2⟩ := info_parts qH
     have hw5 := HW.out.2
     go_wp2_with (at_builtin; go_loud (refine iD _ rfl (.tmp 121) (.tmp 128) _ rfl wr.heap.size 54 i0 _ 9 72 Tryz.underlying23 hi0 hz0 hz1 hz2 rfl (by omega) _ ca.w.length (bD ca.w) rfl (HR15.out.wa.alloc _) ⟨w15.heap.size, 0, none⟩ 1 1 [.int .i64 0, .int .i64 0, .int .i64 ((j : Int) % 7), .int .u64 0, .int .u64 0, .int .u64 0, .int .u64 0, .int .u64 0, .int .i64 ((j : Int) % 3 - 2)] rfl rfl (World.news_of_block (cs := #[.int .i64 0, .int .i64 0, .int .i64 ((j : Int) % 7), .int .u64 0, .int .u64 0, .int .u64 0, .int .u64 0, .int .u64 0, .int .i64 ((j : Int) % 3 - 2)]) (t := 54) (fr := (0, 0)) (heap_alloc_new w15 _)) (by simp [Value.oneCell']) (by unfold maxLen; omega) (by omega) (by have := HR15.out.bel.size; simp; omega) ?_); intro v' w16 hown16 hgrow hat hold; obtain ⟨va, vc, rfl⟩ := ag hown16; have HM := hid (HR15.out.app4 (x := ⟨0, 0, (j : Int) % 7, 0, 0, 0, 0, 0, (j : Int) % 3 - 2⟩) (dB _ _) hgrow hown16 hat hold HN.out.1 (by unfold Ed.nums i64; simp only; omega)); have hno := cB HR15.out.wa HR15.out.po (by decide); have gg4 : w16.cell? ⟨go, 4, none⟩ = some (.slice waa ca.w.length wac) := (by rw [hgrow.cell_far _ (by simp; omega) hno, World.cell?_alloc_past _ _ _ lgo]; exact g4); have ff4 : w16.frozen? ⟨go, 4, none⟩ = false := (by rw [hgrow.frozen_far _ (by simp; omega) hno, World.frozen?_alloc_past _ _ _ lgo]; exact f4); clear hown16 hgrow hat hold hno)
     go_meet
     exact HM.out
    ·go_wp2_with fail
     go_meet
     exact HR15.out.same HN.out.1
    ·go_wp2_with fail
     go_meet
     exact HR15.out.same HN.out.1
   have HO := hid hcut
   clear hcut HR15
   have q1 : (0 : Int) ≤ (TA.size : Int) - (j : Int) % 5 := by omega
   have q2 : (TA.size : Int) - (j : Int) % 5 ≤ (TA.size : Int) := by omega
   go_wp2_with fail
   refine (fT _ _ LC _ _ wc HO.out.c HO.out.lqAt).mono ?_
   rintro e w17 ⟨rfl, hb17⟩
   have HO17 := hid (HO.out.below hb17)
   clear hb17 HO q1 q2
   obtain ⟨cd, oda, odc, wda, wdc, hnd, hxd⟩ := HO17.out.odd
   have HD17 := hid (And.intro hnd hxd)
   clear hnd hxd
   have la := HO17.out.pa.lt
   obtain ⟨p0, p1, p2, p3, p4⟩ := HO17.out.pa.cells
   have ld := HD17.out.2.lt
   obtain ⟨d0, d1, d2, d3, d4⟩ := HD17.out.2.cells
   go_wp2_with fail
   refine (lL _ _ cd ca _ _ w17 HD17.out.2.r HO17.out.pa.r HD17.out.1 HN.out.1 HO17.out.lqAt).mono ?_
   rintro e w18 ⟨rfl, hb18⟩
   have HO18 := hid (HO17.out.below hb18)
   have HD18 := hid (And.intro HD17.out.1 (HD17.out.2.below hb18 nl))
   clear hb18 HO17 HD17 p0 p1 p2 p3 p4 d0 d1 d2 d3 d4 la ld
   have la := HO18.out.pa.lt
   obtain ⟨p0, p1, p2, p3, p4⟩ := HO18.out.pa.cells
   have ld := HD18.out.2.lt
   obtain ⟨d0, d1, d2, d3, d4⟩ := HD18.out.2.cells
   go_wp2_with fail
   refine (jK _ _ cd ca _ _ 3 1 w18 HD18.out.2.r HO18.out.pa.r HD18.out.1 HN.out.1 (by omega) HO18.out.lqAt).mono ?_
   rintro e w19 ⟨rfl, hb19⟩
   have HB19 := hid (HQ.out.trans ((HO18.out.below hb19).bel.mono HQ.out.size))
   clear hb19 HO18 HD18 p0 p1 p2 p3 p4 d0 d1 d2 d3 d4 la ld
   go_wp2_with fail
   go_roundw
   case rel => exact ⟨j + 1, by omega, by go_num, HB19⟩
   case measure => simp [intOf]; omega
  ·have x1 : ¬ (j : Int) < 160 := by omega
   go_upto_region 26 with fail
   obtain ⟨CS, hCS⟩ : ∃ c : Array Value, c = #[.string ⟨#[]⟩, .string ⟨#[115, 101, 114, 105, 97, 108]⟩, .string ⟨#[115, 101, 114, 105, 97, 108, 32]⟩, .string ⟨#[115, 101, 114, 105, 97, 108, 32, 48, 49]⟩, .string ⟨#[115, 101, 114, 105, 97, 108, 32, 57, 50, 50, 51, 51, 55, 50, 48, 51, 54, 56, 53, 52, 55, 55, 53, 56, 48, 55]⟩, .string ⟨#[115, 101, 114, 105, 97, 108, 32, 57, 50, 50, 51, 51, 55, 50, 48, 51, 54, 56, 53, 52, 55, 55, 53, 56, 48, 56]⟩, .string ⟨#[100, 105, 114, 116, 121, 32, 49]⟩, .string ⟨#[100, 105, 114, 116, 121, 32, 49, 32, 50, 32, 51]⟩, .string ⟨#[112, 97, 114, 116, 105, 97, 108, 32, 48, 32, 48]⟩, .string ⟨#[99, 121, 99, 108, 101]⟩, .string ⟨#[99, 121, 99, 108, 101, 32, 59]⟩, .string ⟨#[99, 121, 99, 108, 101, 32, 48, 32, 119, 119, 32, 49, 32, 53, 32, 49, 46, 49, 32, 50, 46, 49, 32, 45, 49, 32, 59]⟩, .string ⟨#[99, 121, 99, 108, 101, 32, 48, 32, 119, 119, 32, 49, 32, 53, 32, 49, 46, 49, 32, 50, 46, 49, 32, 45, 49, 32, 59, 32, 49, 32, 114, 119, 32, 48, 32, 53, 32, 48, 46, 48, 32, 50, 46, 49, 32, 55]⟩, .string ⟨#[99, 121, 99, 108, 101, 32, 48, 32, 119, 119, 32, 49, 32, 53, 32, 49, 46, 49, 32, 50, 46, 49, 32, 45, 49, 59, 32, 49, 32, 114, 119, 32, 48, 32, 53, 32, 48, 46, 48, 32, 50, 46, 49, 32, 55]⟩, .string ⟨#[114, 111, 117, 110, 100, 32, 49]⟩] := ⟨_, rfl⟩
   rw [← hCS]
   have HCS : Hid (CS.size = 15 ∧ ∀ v ∈ CS.toList, ∃ s, v = .string s) := hid (by
    rw [hCS]
    refine ⟨rfl, fun v hv => ?_⟩
    simp only [List.mem_cons, List.not_mem_nil, or_false] at hv
    rcases hv with h | h | h | h | h | h | h | h | h | h | h | h | h | h | h <;> exact ⟨_, h⟩)
   clear hCS
   have H20 : Hid (Below w.heap.size w (wr.alloc (.cells CS 9)) ∧ (wr.alloc (.cells CS 9)).heap[wr.heap.size]? = some (.cells CS 9 (0, 0)) ∧ (wr.alloc (.cells CS 9)).heap.size = wr.heap.size + 1) := hid ⟨bE HQ.out (dB _ _), heap_alloc_new _ _, World.size_alloc _ _⟩
   generalize (wr.alloc (.cells CS 9)) = w20 at H20 ⊢
   obtain ⟨gt, hgt⟩ : ∃ g, g = wr.heap.size := ⟨_, rfl⟩
   rw [← hgt] at H20 ⊢
   clear hgt HQ
   go_wp2_with fail
   go_loopw [10] (fun t wr => ∃ i : Nat, i ≤ 15 ∧ t = .int .i64 i ∧ Hid (Below w20.heap.size w20 wr)) (fun t _ => 15 - (intOf t).toNat)
   case atStart => exact ⟨0, by omega, rfl, hid br⟩
   case round =>
    obtain ⟨i, hi, rfl, HR⟩ := hrel
    by_cases hlt2 : i < 15
    ·have h20 := H20.out.2.2
     have hc := (HR.out.block gt (by omega)).trans H20.out.2.1
     have hk : CS[i]? = some (CS[i]'(by have := HCS.out.1; omega)) := Array.getElem?_eq_getElem _
     obtain ⟨s, hs⟩ := HCS.out.2 (CS[i]'(by have := HCS.out.1; omega)) (by simp)
     rw [hs] at hk
     have hx : wr.cell? ⟨gt, i, none⟩ = some (.string s) := by rw [cell_of_row wr _ i _ _ _ hc]; exact hk
     obtain ⟨ub, hub⟩ : ∃ u : UInt8, (u.toNat : Int) = 16 + (i : Int) := ⟨(16 + i).toUInt8, by rw [cZ (by omega)]; omega⟩
     have HUB := hid hub
     have x1 : (0 : Int) ≤ (i : Int) := by omega
     have x2 : (i : Int) < 15 := by omega
     have hgl : gt < wr.heap.size := (Array.getElem?_eq_some_iff.1 hc).1
     clear hc hk hs hub
     go_wp2_with fail
     rw [← HUB.out]
     have hl : au (wr.alloc (.cells #[.int .u8 (ub.toNat : Int), .int .u8 1, .int .u8 0] 5)) (fun b => b = wr.heap.size) true [ub, 1, 0] (.slice (some ⟨wr.heap.size, 0, none⟩) 3 3) := kS (cs := #[.int .u8 (ub.toNat : Int), .int .u8 1, .int .u8 0]) (heap_alloc_new _ _) rfl (by simp)
     have hb21 := bE (bE H20.out.1 HR.out) (dB wr (.cells #[.int .u8 (ub.toNat : Int), .int .u8 1, .int .u8 0] 5))
     refine (fT _ _ [ub, 1, 0] _ s _ hl ((HL.out.below hb21).mono hb21.size)).mono ?_
     rintro e w22 ⟨rfl, hb22⟩
     have HB22 := hid (bE HR.out (bE (dB wr (.cells #[.int .u8 (ub.toNat : Int), .int .u8 1, .int .u8 0] 5)) hb22))
     clear hb21 hb22 hl hx
     go_wp2_with fail
     go_roundw
     case rel => exact ⟨i + 1, by omega, by go_num, HB22⟩
     case measure => simp [intOf]; omega
    ·have hi2 : i = 15 := by omega
     subst hi2
     have HB21 := hid (bE H20.out.1 HR.out)
     have HLB : Hid (∀ wx, Below w.heap.size w wx → Lq wx.heap.size wx) := hid (fun wx hb => (HL.out.below hb).mono hb.size)
     clear HR H20 HCS
     obtain ⟨N, hN1, hN2⟩ : ∃ N : Nat, N ≤ 65536 ∧ 65536 ≤ N := ⟨65536, Nat.le_refl _, Nat.le_refl _⟩
     obtain ⟨L0, hL0⟩ : ∃ l, l = List.replicate N (0 : Int) := ⟨_, rfl⟩
     have hl1 : L0.length ≤ 65536 := by rw [hL0, List.length_replicate]; exact hN1
     have hl2 : 65536 ≤ L0.length := by rw [hL0, List.length_replicate]; exact hN2
     have HL0 := hid hL0
     clear hL0
     obtain ⟨i0, hi0, hz0, hz1, hz2⟩ := info_parts si
     go_wp2_with (at_make; go_loud (refine wpList_make_full _ rfl _ _ 22 rfl wr.heap.size 3 i0 _ 1 Tryz.underlying22 hi0 hz0 hz1 .i64 .i64 65536 65536 N rfl rfl (by omega) (by omega) (by rw [hz2]; omega) (by unfold maxLen; omega) nl ?_); intro w23 hown23 hgrow23)
     have hrow : w23.ownsRow wr.heap.size 3 1 (.slice (some ⟨wr.heap.size, 0, none⟩) N N) N (ints L0) := by
      rw [HL0.out, ← sj]
      rw [Nat.mul_one] at hown23
      exact hown23
     have hln : L0.length = N := by rw [HL0.out, List.length_replicate]
     have hri : bn w23 (fun b => wr.heap.size ≤ b) true L0 (.slice (some ⟨wr.heap.size, 0, none⟩) N N) := bn.of_owns (by rw [hln]; exact hrow)
     have hb23 : Below wr.heap.size wr w23 := br.grown hgrow23 nl (fun k hk => by cases hk)
     have HO := hid (zP _ _ L0 _ w23 hri (by omega))
     have HB23 := hid (bE HB21.out hb23)
     have HS23 := hid HB23.out.size
     clear hrow hln hri hb23 hown23 hgrow23
     go_wp2_with fail
     refine HO.out.mono ?_
     rintro e w24 ⟨ov, rfl, hown24, hb24⟩
     obtain ⟨ba, bc, rfl⟩ := ag hown24
     have H24 := hid (And.intro hown24 (bE HB23.out hb24))
     have hs24 := hb24.size
     clear hown24 hb24 HO HB23 HB21
     go_upto_region 32 with fail
     have H25 : Hid (BG w w24.heap.size L0 (.slice ba L0.length bc) (w24.alloc (.cells #[.int .i64 1, .slice ba L0.length bc, .int .i64 0, .int .i64 0, .slice none 0 0] 25))) := hid ⟨heap_alloc_new _ _, ownsRow_below (bH H24.out.1 HS23.out) (dB _ _) nl, H24.out.2.size, bE H24.out.2 (dB _ _)⟩
     generalize (w24.alloc (.cells #[.int .i64 1, .slice ba L0.length bc, .int .i64 0, .int .i64 0, .slice none 0 0] 25)) = w25 at H25 ⊢
     obtain ⟨gb, hgb⟩ : ∃ g, g = w24.heap.size := ⟨_, rfl⟩
     rw [← hgb] at H25 ⊢
     clear hgb H24 hs24 HS23
     have lg := H25.out.cx.lt
     obtain ⟨d0, d1, d2, d3, d4⟩ := H25.out.cx.cells
     go_wp2_with fail
     refine (bU _ _ ⟨1, L0, 0, 0, []⟩ _ _ H25.out.cx.r (su 0 L0 (by rw [HL0.out]; exact fun x hx => List.eq_of_mem_replicate hx)) (by simp) (HLB.out _ H25.out.bel)).mono ?_
     rintro e w26 hput
     obtain ⟨u, rfl, hur, hb26⟩ := kw hput (by rw [HL0.out]; exact BP N hN1)
     have H26 := hid (H25.out.below hb26)
     clear hput hur hb26 H25 lg d0 d1 d2 d3 d4
     have lg := H26.out.cx.lt
     obtain ⟨d0, d1, d2, d3, d4⟩ := H26.out.cx.cells
     have f1 : w26.frozen? ⟨gb, 1, none⟩ = false := by rw [frozen_of_row w26 _ 1 _ _ H26.out.box]
     go_upto_region 34 with (at_builtin; go_loud (refine af _ rfl (.tmp 178) (.tmp 179) _ rfl w.heap.size 3 i0 _ 1 8 Tryz.underlying22 hi0 hz0 hz1 hz2 rfl (by omega) _ L0.length (ints L0) rfl (H26.out.own.alloc _) _ _ 1 [.int .i64 0] _ rfl (eD _ #[.int .i64 0] 3 1 rfl (by omega)) (by simp [Value.oneCell']) (by unfold maxLen; omega) (by omega) (by have := H26.out.bel.size; simp; omega) ?_); intro v' w27 hown27 hgrow hat; obtain ⟨va, vc, rfl⟩ := ag hown27; have HM := hid (H26.out.app (dB _ _) hgrow hown27); have hno := cB H26.out.own H26.out.box (by decide); have gg1 : w27.cell? ⟨gb, 1, none⟩ = some (.slice ba L0.length bc) := (by rw [hgrow.cell_far _ (by simp; omega) hno, World.cell?_alloc_past _ _ _ lg]; exact d1); have ff1 : w27.frozen? ⟨gb, 1, none⟩ = false := (by rw [hgrow.frozen_far _ (by simp; omega) hno, World.frozen?_alloc_past _ _ _ lg]; exact f1); clear hown27 hgrow hat hno d0 d1 d2 d3 d4 lg f1 H26)
     generalize (w27.setCell ⟨gb, 1, none⟩ (.slice va (L0.length + 1) vc)) = w28 at HM ⊢
     obtain ⟨L1, hL1⟩ : ∃ l, l = L0 ++ [(0 : Int)] := ⟨_, rfl⟩
     rw [← hL1] at HM
     have hz1 : ∀ x ∈ L1, x = 0 := fun x hx => by
      rw [hL1, HL0.out] at hx
      rcases List.mem_append.1 hx with hx | hx
      ·exact List.eq_of_mem_replicate hx
      ·simpa using hx
     have hw1 : (⟨1, L1, 0, 0, []⟩ : Crt).right = false := BQ L1 (by rw [hL1, List.length_append]; simp; omega)
     have HW1 := hid (And.intro hz1 hw1)
     clear hz1 hw1 hL1 gg1 ff1
     have lg := HM.out.cx.lt
     obtain ⟨d0, d1, d2, d3, d4⟩ := HM.out.cx.cells
     go_wp2_with fail
     refine (bU _ _ ⟨1, L1, 0, 0, []⟩ _ _ HM.out.cx.r (su 0 L1 HW1.out.1) (by simp) (HLB.out _ HM.out.bel)).mono ?_
     rintro e w29 hput
     obtain ⟨u, rfl, _, hb29⟩ := hput.uni
     have he0 : (⟨1, L1, 0, 0, []⟩ : Crt).err = 280 := by unfold Crt.err; rw [HW1.out.2]; rfl
     rw [he0]
     have H29 := hid (HM.out.below hb29)
     clear hput hb29 HM he0 lg d0 d1 d2 d3 d4
     have lg := H29.out.cx.lt
     obtain ⟨d0, d1, d2, d3, d4⟩ := H29.out.cx.cells
     go_wp2_with fail
     refine (aT _ _ ⟨1, L1, 0, 0, []⟩ _ _ H29.out.cx.r (su 0 L1 HW1.out.1) (.inr HW1.out.2) (by simp) (HLB.out _ H29.out.bel)).mono ?_
     rintro e w30 ⟨rfl, hb30⟩
     have ht0 : (⟨1, L1, 0, 0, []⟩ : Crt).text = [] := by unfold Crt.text; rw [HW1.out.2]; rfl
     rw [ht0]
     have H30 := hid (H29.out.below hb30)
     clear hb30 H29 ht0 lg d0 d1 d2 d3 d4
     go_wp2_with fail
     refine (bA w30 (HLB.out _ H30.out.bel)).mono ?_
     rintro e w31 ⟨rfl, hb31⟩
     go_wp2_with fail
     go_ret
     exact ⟨rfl, bE H30.out.bel hb31⟩
end Go.Proofs.YtagnalfkmdjajaaGreatDoor
