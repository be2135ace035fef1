/- Walks. -/
import Derived.Test.YtagnalfkmdjajaaGreatDoorYC89
set_option maxHeartbeats 4000000
set_option maxRecDepth 100000
namespace Go.Proofs.YtagnalfkmdjajaaGreatDoor
open Go.RowKit Go
set_option linter.unusedVariables false
set_option linter.unusedSimpArgs false
theorem pG : (Tryz.prog.info? 50).map (fun i => (i.zero, i.size, i.bytes)) = some (some (.int .u64 0), 1, 8) := by kernel_rfl
def vC (w : World) (l : List Nat) (r : Ending) (w' : World) : Prop := ∃ v, r = .returned v ∧ w'.ownsRow w.heap.size 50 1 v l.length (nums l) ∧ Below w.heap.size w w'
theorem xk {n : Int} (h : 0 ≤ n) (h2 : n ≤ 9223372036854775807) : IntKind.u64.wrap n = ((n.toNat : Nat) : Int) := by rw [IntKind.wrap_u64]; omega
theorem Cz {n : Int} (h : -1 ≤ n) (h2 : n ≤ 9223372036854775807) : IntKind.u64.wrap (IntKind.u64.wrap n + 1) = (((n + 1).toNat : Nat) : Int) := by rw [IntKind.wrap_u64, IntKind.wrap_u64]; omega
theorem eD (w : World) (cs : Array Value) (T : TypeId) (n : Nat) (hn : cs.size = n) (h63 : n ≤ 1000) : Sl (w.alloc (.cells cs T)) (fun _ => True) true 1 n cs.toList (.slice (some ⟨w.heap.size, 0, none⟩) n n) := by
 have h := kM w (fun _ => True) cs T n n (by omega) (by omega) trivial h63
 rwa [List.take_of_length_le (by simp; omega)] at h
theorem Al (w : World) (cs : Array Value) (T : TypeId) (n g : Nat) (hn : cs.size = n) (h63 : n ≤ 1000) (hg : g = w.heap.size) : Sl (w.alloc (.cells cs T)) (fun _ => True) true 1 n cs.toList (.slice (some ⟨g, 0, none⟩) n n) := by
 subst hg; exact eD w cs T n hn h63
theorem nums_append (a b : List Nat) : nums (a ++ b) = nums a ++ nums b := by simp [nums]
theorem ut (S : Nat → Prop) (own : Bool) (k : Int) (o : List Int) (p q : Int) (ws : List Ed) (ad ad' : Option Addr) (cp cp' : Nat) (w : World) (hk : (k == 1) = false ∧ (k == 4) = false) (hp : 0 ≤ p ∧ p ≤ 9223372036854775807) (hq : 0 ≤ q ∧ q ≤ 9223372036854775807) :
  Calls Tryz.prog 47 #[.agg #[.int .i64 k, .slice ad o.length cp, .int .i64 p, .int .i64 q, .slice ad' ws.length cp']] w (vC w ([p.toNat, q.toNat])) := by
 obtain ⟨i0, hi0, hz0, hz1, hz2⟩ := info_parts pG
 obtain ⟨hp0, hp1⟩ := hp
 obtain ⟨hq0, hq1⟩ := hq
 obtain ⟨p, rfl⟩ := Int.eq_ofNat_of_zero_le hp0
 obtain ⟨q, rfl⟩ := Int.eq_ofNat_of_zero_le hq0
 have e1 := xk (n := (p : Int)) hp0 hp1
 have e2 := xk (n := (q : Int)) hq0 hq1
 simp only [Int.toNat_natCast] at e1 e2 ⊢
 obtain ⟨t1, t2⟩ := hk
 have hb0 : Below w.heap.size w (w.alloc (.cells #[.int .i64 k, .slice ad o.length cp, .int .i64 p, .int .i64 q, .slice ad' ws.length cp'] 46)) := br.alloc nl _
 have hz : (w.alloc (.cells #[.int .i64 k, .slice ad o.length cp, .int .i64 p, .int .i64 q, .slice ad' ws.length cp'] 46)).heap.size = w.heap.size + 1 := World.size_alloc _ _
 have q0 : (w.alloc (.cells #[.int .i64 k, .slice ad o.length cp, .int .i64 p, .int .i64 q, .slice ad' ws.length cp'] 46)).heap[w.heap.size]? = some (.cells #[.int .i64 k, .slice ad o.length cp, .int .i64 p, .int .i64 q, .slice ad' ws.length cp'] 46 (0, 0)) := heap_alloc_new _ _
 have HB := hid (And.intro hb0 (And.intro hz q0))
 clear hp0 hp1 hq0 hq1 hb0 hz q0
 go_enter Tryz.func47, Tryz.ntmps47
 go_upto_region 3 with fail
 generalize w.alloc (.cells #[.int .i64 k, .slice ad o.length cp, .int .i64 p, .int .i64 q, .slice ad' ws.length cp'] 46) = W at HB ⊢
 have c2 : W.cell? ⟨w.heap.size, 2, none⟩ = some (.int .i64 p) := by rw [cell_of_row W _ 2 _ _ _ HB.out.2.2]; rfl
 have c3 : W.cell? ⟨w.heap.size, 3, none⟩ = some (.int .i64 q) := by rw [cell_of_row W _ 3 _ _ _ HB.out.2.2]; rfl
 go_wp2_with (at_builtin; go_loud (refine af _ rfl (.tmp 9) (.tmp 16) _ rfl (w.heap.size + 1) 50 i0 _ 1 8 Tryz.underlying97 hi0 hz0 hz1 hz2 rfl (by omega) _ 0 [] rfl (World.ownsRow_nil _ _ _ _) _ _ 2 [.int .u64 (p : Nat), .int .u64 (q : Nat)] _ rfl (eD _ #[.int .u64 (p : Nat), .int .u64 (q : Nat)] 50 2 rfl (by omega)) (by simp [Value.oneCell']) (by unfold maxLen; omega) (by omega) (by have := HB.out.2.1; simp; omega) ?_); intro v' w2 hown2 hgrow hat)
 go_ret
 exact ⟨_, rfl, bH (by simpa [nums] using hown2) (by omega), (HB.out.1.alloc HB.out.1.size _).grown hgrow (by have := HB.out.2.1; simp; omega) (fun k hk => by cases hk)⟩
theorem Bh (S : Nat → Prop) (own : Bool) (k : Int) (o : List Int) (p q : Int) (ws : List Ed) (ad ad' : Option Addr) (cp cp' : Nat) (w : World) (ho : bn w S own o (.slice ad o.length cp)) (hn : ∀ n ∈ o, 0 ≤ n ∧ i64 n) (hl : o.length ≤ 100000) :
  Calls Tryz.prog 47 #[.agg #[.int .i64 1, .slice ad o.length cp, .int .i64 p, .int .i64 q, .slice ad' ws.length cp']] w (vC w (o.length :: o.map Int.toNat)) := by
 obtain ⟨i0, hi0, hz0, hz1, hz2⟩ := info_parts pG
 have hb0 : Below w.heap.size w (w.alloc (.cells #[.int .i64 1, .slice ad o.length cp, .int .i64 p, .int .i64 q, .slice ad' ws.length cp'] 46)) := br.alloc nl _
 have hz : (w.alloc (.cells #[.int .i64 1, .slice ad o.length cp, .int .i64 p, .int .i64 q, .slice ad' ws.length cp'] 46)).heap.size = w.heap.size + 1 := World.size_alloc _ _
 have q0 : (w.alloc (.cells #[.int .i64 1, .slice ad o.length cp, .int .i64 p, .int .i64 q, .slice ad' ws.length cp'] 46)).heap[w.heap.size]? = some (.cells #[.int .i64 1, .slice ad o.length cp, .int .i64 p, .int .i64 q, .slice ad' ws.length cp'] 46 (0, 0)) := heap_alloc_new _ _
 have HB := hid (And.intro hb0 (And.intro hz (And.intro q0 (And.intro ho hn))))
 have e0 : IntKind.u64.wrap (o.length : Int) = (o.length : Int) := by rw [IntKind.wrap_u64]; omega
 clear hb0 hz q0 ho hn
 go_enter Tryz.func47, Tryz.ntmps47
 go_upto_region 5 with fail
 generalize w.alloc (.cells #[.int .i64 1, .slice ad o.length cp, .int .i64 p, .int .i64 q, .slice ad' ws.length cp'] 46) = W at HB ⊢
 have c1 : W.cell? ⟨w.heap.size, 1, none⟩ = some (.slice ad o.length cp) := by rw [cell_of_row W _ 1 _ _ _ HB.out.2.2.1]; rfl
 have c0 : W.cell? ⟨w.heap.size, 0, none⟩ = some (.int .i64 1) := by rw [cell_of_row W _ 0 _ _ _ HB.out.2.2.1]; rfl
 go_wp2_with (at_builtin; go_loud (refine af _ rfl (.tmp 20) (.tmp 25) _ rfl (w.heap.size + 1) 50 i0 _ 1 8 Tryz.underlying97 hi0 hz0 hz1 hz2 rfl (by omega) _ 0 [] rfl (World.ownsRow_nil _ _ _ _) _ _ 1 [.int .u64 (o.length : Nat)] _ rfl (eD _ #[.int .u64 (o.length : Nat)] 50 1 rfl (by omega)) (by simp [Value.oneCell']) (by unfold maxLen; omega) (by omega) (by have := HB.out.2.1; simp; omega) ?_); intro v' w2 hown2 hgrow hat)
 have HO : Hid (w2.ownsRow (w.heap.size + 1) 50 1 v' 1 (nums [o.length]) ∧ Below w.heap.size w w2 ∧ w2.cell? ⟨w.heap.size, 1, none⟩ = some (.slice ad o.length cp) ∧ w.heap.size < w2.heap.size) := hid (by
  have hs := hgrow.size
  have hz := HB.out.2.1
  simp only [World.size_alloc] at hs
  refine ⟨by simpa [nums] using hown2, (HB.out.1.alloc HB.out.1.size _).grown hgrow (by simp; omega) (fun k hk => by cases hk), ?_, by omega⟩
  rw [hgrow.cell_far ⟨w.heap.size, 1, none⟩ (by simp; omega) (fun e => by cases e)]
  exact ((br.alloc nl _).cell (p := ⟨w.heap.size, 1, none⟩) (by show w.heap.size < W.heap.size; omega)).trans c1)
 simp only [Nat.zero_add] at hown2
 obtain ⟨va, vc, rfl⟩ := ag hown2
 have p1 := HO.out.2.2.1
 clear hown2 hgrow hat c0 c1
 go_wp2_with fail
 go_loopw [3, 4] (fun sv i wr => ∃ j : Nat, j ≤ o.length ∧ i = .int .i64 j ∧ Hid (wr.ownsRow (w.heap.size + 1) 50 1 sv (j + 1) (nums (o.length :: (o.take j).map Int.toNat)) ∧ Below w.heap.size w wr ∧ wr.cell? ⟨w.heap.size, 1, none⟩ = some (.slice ad o.length cp) ∧ w.heap.size < wr.heap.size)) (fun _ i _ => o.length - (intOf i).toNat)
 case atStart => exact ⟨0, by omega, rfl, hid ⟨by simpa using HO.out.1, HO.out.2⟩⟩
 case round =>
  obtain ⟨j, hj, rfl, HR⟩ := hrel
  have p1 := HR.out.2.2.1
  by_cases hlt : j < o.length
  ·obtain ⟨bl, off, rfl, _, hbl, hcell⟩ := HB.out.2.2.2.1.cell (by omega)
   obtain ⟨m, hm⟩ := Int.eq_ofNat_of_zero_le (HB.out.2.2.2.2 _ (List.getElem_mem hlt)).1
   have g : wr.cell? ⟨bl, off + j, none⟩ = some (.int .i64 (m : Int)) := (HR.out.2.1.cell (p := ⟨bl, off + j, none⟩) hbl).trans (by rw [(hcell j hlt).1, hm])
   have e1 : IntKind.u64.wrap (m : Int) = (m : Int) := by have := (HB.out.2.2.2.2 _ (List.getElem_mem hlt)).2.2; rw [IntKind.wrap_u64]; omega
   have HT : Hid (nums (o.length :: (o.take (j + 1)).map Int.toNat) = nums (o.length :: (o.take j).map Int.toNat) ++ [.int .u64 (m : Nat)]) := hid (by
    rw [List.take_succ_eq_append_getElem hlt, List.map_append, ← List.cons_append, nums_append, hm]; simp [nums])
   have x1 : (0 : Int) ≤ (j : Int) := by omega
   have x2 : (j : Int) < (o.length : Int) := by omega
   have hsz := HR.out.2.2.2
   clear hcell
   go_wp2_with (at_builtin; go_loud (refine af _ rfl (.tmp 34) (.tmp 41) _ rfl (w.heap.size + 1) 50 i0 _ 1 8 Tryz.underlying97 hi0 hz0 hz1 hz2 rfl (by omega) _ (j + 1) (nums (o.length :: (o.take j).map Int.toNat)) rfl (HR.out.1.alloc _) _ _ 1 [.int .u64 (m : Nat)] _ rfl (eD _ #[.int .u64 (m : Nat)] 50 1 rfl (by omega)) (by simp [Value.oneCell']) (by unfold maxLen; omega) (by omega) (by first | (simp; omega) | simp) ?_); intro v' w2 hown2 hgrow hat)
   have hlo := HR.out.1.lt
   have HN : Hid (w2.ownsRow (w.heap.size + 1) 50 1 v' (j + 1 + 1) (nums (o.length :: (o.take (j + 1)).map Int.toNat)) ∧ Below w.heap.size w w2 ∧ w2.cell? ⟨w.heap.size, 1, none⟩ = some (.slice (some ⟨bl, off, none⟩) o.length cp) ∧ w.heap.size < w2.heap.size) := hid (by
    have hs := hgrow.size
    simp only [World.size_alloc] at hs
    refine ⟨by rw [HT.out]; exact hown2, (HR.out.2.1.alloc (by omega) _).grown hgrow (by simp; omega) (fun k hk => by have := (hlo k hk).1; omega), ?_, by omega⟩
    rw [hgrow.cell_far ⟨w.heap.size, 1, none⟩ (by simp; omega) (fun e => by have h : w.heap.size + 1 ≤ w.heap.size := (hlo _ e.symm).1; omega)]
    exact ((br.alloc nl _).cell (p := ⟨w.heap.size, 1, none⟩) (by show w.heap.size < wr.heap.size; omega)).trans p1)
   obtain ⟨va, vc, rfl⟩ := ag hown2
   clear hown2 hgrow hat hlo
   go_wp2_with fail
   go_roundw
   case rel => exact ⟨j + 1, by omega, by go_num, HN⟩
   case measure => simp [intOf]; omega
  ·have hj2 : j = o.length := by omega
   subst hj2
   rw [List.take_length] at HR
   go_wp2_with fail
   go_ret
   have e : (o.length :: o.map Int.toNat).length = o.length + 1 := by simp [dz]
   have h := bH HR.out.1 (base' := w.heap.size) (by omega)
   rw [← e] at h
   exact ⟨_, rfl, h, HR.out.2.1⟩
theorem Bi (S : Nat → Prop) (own : Bool) (k : Int) (o : List Int) (p q : Int) (ws : List Ed) (ad ad' : Option Addr) (cp cp' : Nat) (w : World) (ho : aX w S own ws (.slice ad' ws.length cp')) (hn : ∀ e ∈ ws, e.nums ∧ e.ok) (hl : ws.length ≤ 10000) :
  Calls Tryz.prog 47 #[.agg #[.int .i64 4, .slice ad o.length cp, .int .i64 p, .int .i64 q, .slice ad' ws.length cp']] w (vC w (ws.length :: ws.flatMap Ed.pays)) := by
 obtain ⟨i0, hi0, hz0, hz1, hz2⟩ := info_parts pG
 have hb0 : Below w.heap.size w (w.alloc (.cells #[.int .i64 4, .slice ad o.length cp, .int .i64 p, .int .i64 q, .slice ad' ws.length cp'] 46)) := br.alloc nl _
 have hz : (w.alloc (.cells #[.int .i64 4, .slice ad o.length cp, .int .i64 p, .int .i64 q, .slice ad' ws.length cp'] 46)).heap.size = w.heap.size + 1 := World.size_alloc _ _
 have q0 : (w.alloc (.cells #[.int .i64 4, .slice ad o.length cp, .int .i64 p, .int .i64 q, .slice ad' ws.length cp'] 46)).heap[w.heap.size]? = some (.cells #[.int .i64 4, .slice ad o.length cp, .int .i64 p, .int .i64 q, .slice ad' ws.length cp'] 46 (0, 0)) := heap_alloc_new _ _
 have HB := hid (And.intro hb0 (And.intro hz (And.intro q0 (And.intro ho hn))))
 have e0 : IntKind.u64.wrap (ws.length : Int) = (ws.length : Int) := by rw [IntKind.wrap_u64]; omega
 clear hb0 hz q0 ho hn
 go_enter Tryz.func47, Tryz.ntmps47
 go_upto_region 11 with fail
 generalize w.alloc (.cells #[.int .i64 4, .slice ad o.length cp, .int .i64 p, .int .i64 q, .slice ad' ws.length cp'] 46) = W at HB ⊢
 have c1 : W.cell? ⟨w.heap.size, 4, none⟩ = some (.slice ad' ws.length cp') := by rw [cell_of_row W _ 4 _ _ _ HB.out.2.2.1]; rfl
 have c0 : W.cell? ⟨w.heap.size, 0, none⟩ = some (.int .i64 4) := by rw [cell_of_row W _ 0 _ _ _ HB.out.2.2.1]; rfl
 go_wp2_with (at_builtin; go_loud (refine af _ rfl (.tmp 45) (.tmp 50) _ rfl (w.heap.size + 1) 50 i0 _ 1 8 Tryz.underlying97 hi0 hz0 hz1 hz2 rfl (by omega) _ 0 [] rfl (World.ownsRow_nil _ _ _ _) _ _ 1 [.int .u64 (ws.length : Nat)] _ rfl (eD _ #[.int .u64 (ws.length : Nat)] 50 1 rfl (by omega)) (by simp [Value.oneCell']) (by unfold maxLen; omega) (by omega) (by have := HB.out.2.1; simp; omega) ?_); intro v' w2 hown2 hgrow hat)
 have HO : Hid (w2.ownsRow (w.heap.size + 1) 50 1 v' 1 (nums [ws.length]) ∧ Below w.heap.size w w2 ∧ w2.cell? ⟨w.heap.size, 4, none⟩ = some (.slice ad' ws.length cp') ∧ w.heap.size < w2.heap.size) := hid (by
  have hs := hgrow.size
  have hz := HB.out.2.1
  simp only [World.size_alloc] at hs
  refine ⟨by simpa [nums] using hown2, (HB.out.1.alloc HB.out.1.size _).grown hgrow (by simp; omega) (fun k hk => by cases hk), ?_, by omega⟩
  rw [hgrow.cell_far ⟨w.heap.size, 4, none⟩ (by simp; omega) (fun e => by cases e)]
  exact ((br.alloc nl _).cell (p := ⟨w.heap.size, 4, none⟩) (by show w.heap.size < W.heap.size; omega)).trans c1)
 simp only [Nat.zero_add] at hown2
 obtain ⟨va, vc, rfl⟩ := ag hown2
 have p4 := HO.out.2.2.1
 clear hown2 hgrow hat c0 c1
 go_wp2_with fail
 go_loopw [3, 5] (fun sv i wr => ∃ j : Nat, j ≤ ws.length ∧ i = .int .i64 j ∧ Hid (wr.ownsRow (w.heap.size + 1) 50 1 sv (1 + 9 * j) (nums (ws.length :: (ws.take j).flatMap Ed.pays)) ∧ Below w.heap.size w wr ∧ wr.cell? ⟨w.heap.size, 4, none⟩ = some (.slice ad' ws.length cp') ∧ w.heap.size < wr.heap.size)) (fun _ i _ => ws.length - (intOf i).toNat)
 case atStart => exact ⟨0, by omega, rfl, hid ⟨by simpa using HO.out.1, HO.out.2⟩⟩
 case round =>
  obtain ⟨j, hj, rfl, HR⟩ := hrel
  have p4 := HR.out.2.2.1
  by_cases hlt : j < ws.length
  ·obtain ⟨bl, off, rfl, _, hbl, hcell⟩ := HB.out.2.2.2.1.cell (by omega)
   obtain ⟨⟨n1, n2, n3, n4, n5, n6, n7, n8, n9⟩, o1, o2, o3, o4, o5⟩ := HB.out.2.2.2.2 _ (List.getElem_mem hlt)
   unfold i64 at n1 n2 n3 n9
   obtain ⟨⟨h0, h1, h2, h3, h4, h5, h6, h7, h8⟩, _⟩ := hcell j hlt
   obtain ⟨am, hm1⟩ := Int.eq_ofNat_of_zero_le o3
   obtain ⟨bm, hm2⟩ := Int.eq_ofNat_of_zero_le o4
   obtain ⟨km, hm3⟩ := Int.eq_ofNat_of_zero_le (show 0 ≤ ws[j].k by omega)
   obtain ⟨pm, hm4⟩ := Int.eq_ofNat_of_zero_le (show 0 ≤ ws[j].p + 1 by omega)
   rw [hm1] at h0
   rw [hm2] at h1
   rw [hm3] at h2
   have g0 := (HR.out.2.1.cell (p := ⟨bl, off + j * 9, none⟩) hbl).trans h0
   have g1 := (HR.out.2.1.cell (p := ⟨bl, off + j * 9 + 1, none⟩) hbl).trans h1
   have g2 := (HR.out.2.1.cell (p := ⟨bl, off + j * 9 + 2, none⟩) hbl).trans h2
   have g3 := (HR.out.2.1.cell (p := ⟨bl, off + j * 9 + 3, none⟩) hbl).trans h3
   have g4 := (HR.out.2.1.cell (p := ⟨bl, off + j * 9 + 4, none⟩) hbl).trans h4
   have g5 := (HR.out.2.1.cell (p := ⟨bl, off + j * 9 + 5, none⟩) hbl).trans h5
   have g6 := (HR.out.2.1.cell (p := ⟨bl, off + j * 9 + 6, none⟩) hbl).trans h6
   have g7 := (HR.out.2.1.cell (p := ⟨bl, off + j * 9 + 7, none⟩) hbl).trans h7
   have g8 := (HR.out.2.1.cell (p := ⟨bl, off + j * 9 + 8, none⟩) hbl).trans h8
   have e1 : IntKind.u64.wrap (am : Int) = (am : Int) := by rw [IntKind.wrap_u64]; omega
   have e2 : IntKind.u64.wrap (bm : Int) = (bm : Int) := by rw [IntKind.wrap_u64]; omega
   have e3 : IntKind.u64.wrap (km : Int) = (km : Int) := by rw [IntKind.wrap_u64]; omega
   have e4 : IntKind.u64.wrap (IntKind.u64.wrap ws[j].p + 1) = (pm : Int) := by rw [Cz o5 n9.2, hm4]; rfl
   have HT : Hid (nums (ws.length :: (ws.take (j + 1)).flatMap Ed.pays) = nums (ws.length :: (ws.take j).flatMap Ed.pays) ++ [.int .u64 (am : Nat), .int .u64 (bm : Nat), .int .u64 (km : Nat), .int .u64 (ws[j].x : Nat), .int .u64 (ws[j].sw : Nat), .int .u64 (ws[j].sn : Nat), .int .u64 (ws[j].mw : Nat), .int .u64 (ws[j].mn : Nat), .int .u64 (pm : Nat)]) := hid (by
    rw [List.take_succ_eq_append_getElem hlt, List.flatMap_append, ← List.cons_append, nums_append]
    simp [nums, Ed.pays, hm1, hm2, hm3, hm4])
   clear h0 h1 h2 h3 h4 h5 h6 h7 h8 hm1 hm2 hm3 hm4 n1 n2 n3 n4 n5 n6 n7 n8 n9 o1 o2 o3 o4 o5
   have x1 : (0 : Int) ≤ (j : Int) := by omega
   have x2 : (j : Int) < (ws.length : Int) := by omega
   have hsz := HR.out.2.2.2
   clear hcell
   go_wp2_with (at_builtin; go_loud (refine af _ rfl (.tmp 64) (.tmp 92) _ rfl (w.heap.size + 1) 50 i0 _ 1 8 Tryz.underlying97 hi0 hz0 hz1 hz2 rfl (by omega) _ (1 + 9 * j) (nums (ws.length :: (ws.take j).flatMap Ed.pays)) rfl ((HR.out.1.alloc _).alloc _) _ _ 9 [.int .u64 (am : Nat), .int .u64 (bm : Nat), .int .u64 (km : Nat), .int .u64 (ws[j].x : Nat), .int .u64 (ws[j].sw : Nat), .int .u64 (ws[j].sn : Nat), .int .u64 (ws[j].mw : Nat), .int .u64 (ws[j].mn : Nat), .int .u64 (pm : Nat)] _ rfl (Al _ #[.int .u64 (am : Nat), .int .u64 (bm : Nat), .int .u64 (km : Nat), .int .u64 (ws[j].x : Nat), .int .u64 (ws[j].sw : Nat), .int .u64 (ws[j].sn : Nat), .int .u64 (ws[j].mw : Nat), .int .u64 (ws[j].mn : Nat), .int .u64 (pm : Nat)] 50 9 (wr.heap.size + 1) rfl (by omega) (by simp)) (by simp [Value.oneCell']) (by unfold maxLen; omega) (by omega) (by first | (simp; omega) | simp) ?_); intro v' w2 hown2 hgrow hat)
   have hlo := HR.out.1.lt
   have HN : Hid (w2.ownsRow (w.heap.size + 1) 50 1 v' (1 + 9 * j + 9) (nums (ws.length :: (ws.take (j + 1)).flatMap Ed.pays)) ∧ Below w.heap.size w w2 ∧ w2.cell? ⟨w.heap.size, 4, none⟩ = some (.slice (some ⟨bl, off, none⟩) ws.length cp') ∧ w.heap.size < w2.heap.size) := hid (by
    have hs := hgrow.size
    simp only [World.size_alloc] at hs
    refine ⟨by rw [HT.out]; exact hown2, ((HR.out.2.1.alloc (by omega) _).alloc (by simp; omega) _).grown hgrow (by simp; omega) (fun k hk => by have := (hlo k hk).1; omega), ?_, by omega⟩
    rw [hgrow.cell_far ⟨w.heap.size, 4, none⟩ (by simp; omega) (fun e => by have h : w.heap.size + 1 ≤ w.heap.size := (hlo _ e.symm).1; omega)]
    exact (((br.alloc nl _).alloc (by simp) _).cell (p := ⟨w.heap.size, 4, none⟩) (by show w.heap.size < wr.heap.size; omega)).trans p4)
   obtain ⟨va, vc, rfl⟩ := ag hown2
   clear hown2 hgrow hat hlo
   go_wp2_with fail
   go_roundw
   case rel => exact ⟨j + 1, by omega, by go_num, HN⟩
   case measure => simp [intOf]; omega
  ·have hj2 : j = ws.length := by omega
   subst hj2
   rw [List.take_length] at HR
   go_wp2_with fail
   go_ret
   have e : (ws.length :: ws.flatMap Ed.pays).length = 1 + 9 * ws.length := by rw [List.length_cons, dz]; omega
   have h := bH HR.out.1 (base' := w.heap.size) (by omega)
   rw [← e] at h
   exact ⟨_, rfl, h, HR.out.2.1⟩
theorem xm (S : Nat → Prop) (own : Bool) (c : Crt) (v : Value) (w : World) (h : aL w S own c v) (hn : c.nums) (hr : c.right = true) (hl : c.w.length ≤ 1000) : Calls Tryz.prog 47 #[v] w (vC w c.pays) := by
 obtain ⟨ad, cp, ad', cp', rfl, ho, hv, _, _, k1, k2⟩ := h.shape
 clear h
 obtain ⟨r1, r2, r3, r4, r5, r6, r7, r8, r9, r10, r11⟩ := Crt.nil_of hr
 obtain ⟨n1, n2, n3, n4, n5⟩ := hn
 obtain ⟨k, o, p, q, ws⟩ := c
 simp only at *
 obtain rfl | rfl | rfl | rfl : k = 1 ∨ k = 2 ∨ k = 3 ∨ k = 4 := by omega
 ·exact Bh S own 1 o p q ws ad ad' cp cp' w ho (fun n h => ⟨r8 n h, n4 n h⟩) (by omega)
 ·exact ut S own 2 o p q ws ad ad' cp cp' w ⟨rfl, rfl⟩ ⟨r6, n2.2⟩ ⟨r7, n3.2⟩
 ·exact ut S own 3 o p q ws ad ad' cp cp' w ⟨rfl, rfl⟩ ⟨r6, n2.2⟩ ⟨r7, n3.2⟩
 ·exact Bi S own 4 o p q ws ad ad' cp cp' w hv (fun e h => ⟨n5 e h, r9 e h⟩) (by omega)
theorem DV {c : Crt} (hn : c.nums) (hr : c.right = true) : ∀ n ∈ c.pays, n < 18446744073709551616 := by
 obtain ⟨r1, r2, r3, r4, r5, r6, r7, r8, r9, r10, r11⟩ := Crt.nil_of hr
 obtain ⟨n1, n2, n3, n4, n5⟩ := hn
 unfold i64 at n1 n2 n3
 intro n hm
 unfold Crt.pays at hm
 split at hm
 ·simp only [List.mem_cons, List.mem_map] at hm
  rcases hm with rfl | ⟨a, ha, rfl⟩
  ·omega
  ·have := n4 a ha; unfold i64 at this; omega
 ·split at hm
  ·simp only [List.mem_cons, List.mem_flatMap] at hm
   rcases hm with rfl | ⟨e, he, hm⟩
   ·omega
   ·obtain ⟨m1, m2, m3, m4, m5, m6, m7, m8, m9⟩ := n5 e he
    unfold i64 at m1 m2 m3 m9
    simp only [Ed.pays, List.mem_cons, List.not_mem_nil, or_false] at hm
    rcases hm with rfl | rfl | rfl | rfl | rfl | rfl | rfl | rfl | rfl <;> omega
  ·simp only [List.mem_cons, List.not_mem_nil, or_false] at hm
   rcases hm with rfl | rfl <;> omega
theorem CE (c : Crt) : 0 < (ae c.pays).length := by
 have : ∀ (n : Nat) (l : List Nat), 0 < (ae (n :: l)).length := fun n l => by
  have := bO n
  simp only [ae, List.flatMap_cons, List.length_append]; omega
 unfold Crt.pays
 split
 ·exact this _ _
 ·split <;> exact this _ _
theorem iJ (S : Nat → Prop) (own : Bool) (c : Crt) (v : Value) (w : World) (h : aL w S own c v) (hn : c.nums) (ho1 : c.o.length ≤ 1000) (hl : c.w.length ≤ 1000) (hL : Lq w.heap.size w) : Calls Tryz.prog 17 #[v] w (Cy w c) := by
 obtain ⟨i0, hi0, hz0, hz1, hz2⟩ := info_parts ji
 obtain ⟨ad, cp, ad', cp', rfl, ho, hv, _, _, k1, k2⟩ := h.shape
 clear h
 have hb0 : Below w.heap.size w (w.alloc (.cells #[.int .i64 c.k, .slice ad c.o.length cp, .int .i64 c.p, .int .i64 c.q, .slice ad' c.w.length cp'] 46)) := br.alloc nl _
 have hz0' : (w.alloc (.cells #[.int .i64 c.k, .slice ad c.o.length cp, .int .i64 c.p, .int .i64 c.q, .slice ad' c.w.length cp'] 46)).heap.size = w.heap.size + 1 := World.size_alloc _ _
 have hrep : aL (w.alloc (.cells #[.int .i64 c.k, .slice ad c.o.length cp, .int .i64 c.p, .int .i64 c.q, .slice ad' c.w.length cp'] 46)) S own c (.agg #[.int .i64 c.k, .slice ad c.o.length cp, .int .i64 c.p, .int .i64 c.q, .slice ad' c.w.length cp']) := ⟨_, _, rfl, ho.below hb0 nl, hv.below hb0 nl⟩
 have HR := hid (jD S own c _ _ hrep hn.2.2.2.2 ((hL.below hb0).mono hb0.size))
 have HV := hid (And.intro hrep (And.intro hb0 (And.intro (heap_alloc_new w (.cells #[.int .i64 c.k, .slice ad c.o.length cp, .int .i64 c.p, .int .i64 c.q, .slice ad' c.w.length cp'] 46)) hz0')))
 clear ho hv hb0 hz0' hL hrep
 cases hr : c.right with
 | false =>
  rw [hr] at HR
  have HE := hid hr
  clear hr
  go_enter Tryz.func17, Tryz.ntmps17
  go_wp2_with fail
  refine HR.out.mono ?_
  rintro e w1 ⟨rfl, hb1⟩
  go_wp2_with fail
  go_ret2
  exact ⟨.inr ⟨HE.out, rfl⟩, HV.out.2.1.trans (hb1.mono HV.out.2.1.size)⟩
 | true =>
  rw [hr] at HR
  have HE := hid hr
  have HN := hid hn
  have hpl : c.pays.length ≤ 10000 := by
   unfold Crt.pays
   split
   ·simp; omega
   ·split
    ·rw [List.length_cons, dz]; omega
    ·simp
  have HLT := hid (DV hn hr)
  obtain ⟨kn, hkn, hkk⟩ : ∃ kn : Nat, kn < 256 ∧ c.k + 16 = (kn : Int) := ⟨(c.k + 16).toNat, by have := (Crt.nil_of hr).2.2.2; omega, by have := (Crt.nil_of hr).2.2.2; omega⟩
  have HKB : Hid (c.bytes = aS kn (ae c.pays)) := hid (by unfold Crt.bytes; congr 1; have := (Crt.nil_of hr).2.2.2; omega)
  have hk1 : IntKind.i64.wrap (16 + c.k) = (kn : Int) := by rw [Int.add_comm, hkk, IntKind.wrap_i64]; omega
  have hk2 : IntKind.u8.wrap (kn : Int) = (kn : Int) := by rw [IntKind.wrap_u8]; omega
  have HK := hid (And.intro hk1 (And.intro hk2 hkn))
  clear hr hn hkk hk1 hk2
  go_enter Tryz.func17, Tryz.ntmps17
  go_wp2_with fail
  refine HR.out.mono ?_
  rintro e w1 ⟨rfl, hb1⟩
  obtain ⟨hrep, r2, r3, r4⟩ := HV.out
  have hs1 := hb1.size
  have hc1 : w1.heap[w.heap.size]? = some (.cells #[.int .i64 c.k, .slice ad c.o.length cp, .int .i64 c.p, .int .i64 c.q, .slice ad' c.w.length cp'] 46 (0, 0)) := (hb1.block _ (by omega)).trans r3
  have u0 : w1.cell? ⟨w.heap.size, 0, none⟩ = some (.int .i64 c.k) := by rw [cell_of_row w1 _ 0 _ _ _ hc1]; rfl
  have u1 : w1.cell? ⟨w.heap.size, 1, none⟩ = some (.slice ad c.o.length cp) := by rw [cell_of_row w1 _ 1 _ _ _ hc1]; rfl
  have u2 : w1.cell? ⟨w.heap.size, 2, none⟩ = some (.int .i64 c.p) := by rw [cell_of_row w1 _ 2 _ _ _ hc1]; rfl
  have u3 : w1.cell? ⟨w.heap.size, 3, none⟩ = some (.int .i64 c.q) := by rw [cell_of_row w1 _ 3 _ _ _ hc1]; rfl
  have u4 : w1.cell? ⟨w.heap.size, 4, none⟩ = some (.slice ad' c.w.length cp') := by rw [cell_of_row w1 _ 4 _ _ _ hc1]; rfl
  have HNM := hid (xm S own c _ w1 (hrep.below hb1 nl) HN.out HE.out hl)
  have H1 := hid (And.intro (r2.trans (hb1.mono r2.size)) (And.intro hc1 (show w.heap.size + 1 ≤ w1.heap.size by omega)))
  clear hrep r2 r3 r4 hb1 hc1
  go_wp2_with fail
  refine HNM.out.mono ?_
  rintro e w2 ⟨lv, rfl, hown2, hb2⟩
  have hs2 := hb2.size
  obtain ⟨la, lc, rfl⟩ := ag hown2
  have HS := hid (Sl.of_owns hown2 (by omega))
  have H2 := hid (And.intro (H1.out.1.trans (hb2.mono H1.out.1.size)) (And.intro ((hb2.block _ (by have := H1.out.2.2; omega)).trans H1.out.2.1) (show w.heap.size + 1 ≤ w2.heap.size by have := H1.out.2.2; omega)))
  clear hown2 hb2 u0 u1 u2 u3 u4
  go_wp2_with fail
  go_loopw [4, 6] (fun sv i wr => ∃ j : Nat, j ≤ c.pays.length ∧ i = .int .i64 j ∧ Hid (wr.ownsRow w2.heap.size 5 1 sv (ae (c.pays.take j)).length (bytes (ae (c.pays.take j))) ∧ Below w2.heap.size w2 wr)) (fun _ i _ => c.pays.length - (intOf i).toNat)
  case atStart => exact ⟨0, by omega, rfl, hid ⟨World.ownsRow_nil _ _ _ _, br⟩⟩
  case round =>
   obtain ⟨j, hj, rfl, HQ⟩ := hrel
   by_cases hlt : j < c.pays.length
   ·obtain ⟨bl, off, rfl, _, hcell⟩ := Sl.cells HS.out (by omega)
    have g0 := (hcell j (by rw [nums_length]; exact hlt)).1
    have hbl := World.block_lt_of_cell? w2 _ g0
    have g : wr.cell? ⟨bl, off + j, none⟩ = some (.int .u64 (c.pays[j] : Nat)) := (HQ.out.2.cell (p := ⟨bl, off + j, none⟩) hbl).trans (by rw [g0]; simp [nums])
    have hlt64 := HLT.out _ (List.getElem_mem hlt)
    have PS := hid (pX c.pays j hlt)
    have hp := aJ (c.pays.take j)
    have hp2 := bO c.pays[j]
    have hp3 : (c.pays.take j).length ≤ 10000 := by simp; omega
    have x1 : (0 : Int) ≤ (j : Int) := by omega
    have x2 : (j : Int) < (c.pays.length : Int) := by omega
    have hsz := HQ.out.2.size
    clear hcell g0
    generalize hL : ae (c.pays.take j) = L at HQ PS hp
    generalize hX : c.pays[j] = X at g hlt64 PS hp2
    clear hL hX
    go_wp2_with fail
    refine (jY 9 X _ (by omega) hlt64).mono ?_
    rintro e w3 ⟨v3, rfl, hown3, hb3⟩
    have hs3 := hb3.size
    obtain ⟨va3, vc3, rfl⟩ := ag hown3
    have H3 := hid (And.intro (ownsRow_below HQ.out.1 hb3 nl) (And.intro (Sl.of_owns hown3 (by omega)) (HQ.out.2.trans (hb3.mono hsz))))
    clear hown3 hb3 g
    go_wp2_with (at_builtin; go_loud (refine af _ rfl (.tmp 18) (.tmp 23) _ rfl w2.heap.size 5 i0 _ 1 1 Tryz.underlying29 hi0 hz0 hz1 hz2 rfl (by omega) _ L.length (bytes L) rfl H3.out.1 _ _ (bi X).length (bytes (bi X)) _ rfl H3.out.2.1 (dU _) (by unfold maxLen; omega) (by omega) (by omega) ?_); intro v' w4 hown4 hgrow hat)
    have hlo := H3.out.1.lt
    have HN4 : Hid (w4.ownsRow w2.heap.size 5 1 v' (ae (c.pays.take (j + 1))).length (bytes (ae (c.pays.take (j + 1)))) ∧ Below w2.heap.size w2 w4) := hid (by
     rw [PS.out]
     exact ⟨by simpa using hown4, H3.out.2.2.grown hgrow (by omega) (fun k hk => (hlo k hk).1)⟩)
    clear hown4 hgrow hat hlo
    go_wp2_with fail
    go_roundw
    case rel => exact ⟨j + 1, by omega, by go_num, HN4⟩
    case measure => simp [intOf]; omega
   ·have hj2 : j = c.pays.length := by omega
    subst hj2
    rw [List.take_length] at HQ
    have hcz := (HQ.out.2.block w.heap.size (by have := H2.out.2.2; omega)).trans H2.out.2.1
    have u0 : wr.cell? ⟨w.heap.size, 0, none⟩ = some (.int .i64 c.k) := by rw [cell_of_row wr _ 0 _ _ _ hcz]; rfl
    have hp := aJ c.pays
    have hpos : 0 < (ae c.pays).length := CE c
    have hk1 := HK.out.1
    have hk2 := HK.out.2.1
    have HB := hid (H2.out.1.trans (HQ.out.2.mono H2.out.1.size))
    obtain ⟨va, vc, rfl⟩ := ag HQ.out.1
    obtain ⟨bl, off, rfl, _, hcell⟩ := au.cell (au.of_owns HQ.out.1) hpos
    clear hj hlt
    have HC := hid hcell
    have hsz := (Lib.size_eq ⟨(ae c.pays).toArray⟩).symm
    have HFP := hid (ow kn ⟨(ae c.pays).toArray⟩ wr HK.out.2.2 (by rw [← hsz]; simp; omega))
    clear hcz hcell hsz
    go_wp2_with (first | rw [run_convert_bytes_back (P := Tryz.prog) _ 29 9 5 ⟨bl, off, none⟩ _ (ae c.pays) Tryz.underlying29 Tryz.underlying5 Tryz.underlying9 (fun j hj => by rw [Lib.add_plain]; exact (HC.out j hj).1)] | fail)
    refine HFP.out.mono ?_
    rintro e w5 ⟨v5, rfl, hown5, hb5⟩
    have HF := hid (And.intro ((au.of_owns hown5).keep (by omega) (fun _ _ _ => rfl) (fun b _ hb => show w.heap.size ≤ b by have := HB.out.size; have := hb.2; omega)) (HB.out.trans (hb5.mono HB.out.size)))
    clear hown5 hb5
    go_wp2_with fail
    go_ret2
    exact ⟨.inl ⟨HE.out, _, rfl, by rw [HKB.out]; exact HF.out.1⟩, HF.out.2⟩
end Go.Proofs.YtagnalfkmdjajaaGreatDoor
