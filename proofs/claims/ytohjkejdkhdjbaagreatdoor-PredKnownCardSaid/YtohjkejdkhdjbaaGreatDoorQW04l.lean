/- Walks: a tree's parts are written over. -/
import Derived.Test.YtohjkejdkhdjbaaGreatDoorQW04k
namespace Go.Proofs.YtohjkejdkhdjbaaGreatDoor
open Go.RowKit Go
set_option linter.unusedVariables false
set_option linter.unusedSimpArgs false
/-- The same value, or another number of its kind. -/
def Sim (v v' : Value) : Prop := v' = v ∨ ∃ k n n', v = .int k n ∧ v' = .int k n'
/-- In blocks that meet S numbers alone may have turned. -/
def Soft (S : Nat → Prop) (w w' : World) : Prop :=
  (∀ b o v, S b → w.cell? ⟨b, o, none⟩ = some v → ∃ v', w'.cell? ⟨b, o, none⟩ = some v' ∧ Sim v v') ∧ ∀ b o, S b → b < w.heap.size → w'.frozen? ⟨b, o, none⟩ = w.frozen? ⟨b, o, none⟩
theorem Sim.refl (v : Value) : Sim v v := Or.inl rfl
theorem Sim.trans {a b c : Value} (h : Sim a b) (k : Sim b c) : Sim a c := by
  rcases h with rfl | ⟨k1, n, n', rfl, rfl⟩
  · exact k
  · rcases k with rfl | ⟨k2, m, m', h1, rfl⟩
    · exact Or.inr ⟨_, _, _, rfl, rfl⟩
    · simp only [Value.int.injEq] at h1; obtain ⟨rfl, rfl⟩ := h1; exact Or.inr ⟨_, _, _, rfl, rfl⟩
theorem Soft.refl (S : Nat → Prop) (w : World) : Soft S w w := ⟨fun b o v _ h => ⟨v, h, Sim.refl v⟩, fun _ _ _ _ => rfl⟩
theorem Soft.trans {S : Nat → Prop} {w w' w'' : World} (h : Soft S w w') (hs : w.heap.size ≤ w'.heap.size) (k : Soft S w' w'') : Soft S w w'' :=
  ⟨fun b o v hb hc => by
    obtain ⟨v', h1, h2⟩ := h.1 b o v hb hc
    obtain ⟨v'', h3, h4⟩ := k.1 b o v' hb h1
    exact ⟨v'', h3, h2.trans h4⟩, fun b o hb hl => (k.2 b o hb (by omega)).trans (h.2 b o hb hl)⟩
theorem Soft.below {S : Nat → Prop} {B : Nat} {w w' : World} (h : Below B w w') (hB : w.heap.size ≤ B) : Soft S w w' :=
  ⟨fun b o v _ hc => ⟨v, by rw [h.cell (show (⟨b, o, none⟩ : Addr).block < B from by have := World.block_lt_of_cell? w _ hc; simp at this ⊢; omega)]; exact hc, Sim.refl v⟩,
   fun b o _ hl => h.frozen (show (⟨b, o, none⟩ : Addr).block < B from by simp; omega)⟩
theorem Soft.set {S : Nat → Prop} {w : World} {a : Addr} {k : IntKind} {n n' : Int} (hsp : a.spot = none) (h : w.cell? a = some (.int k n)) : Soft S w (w.setCell a (.int k n')) := by
  obtain ⟨ab, ao, asp⟩ := a
  simp only at hsp
  subst hsp
  refine ⟨fun b o v _ hc => ?_, fun b o _ _ => ?_⟩
  · by_cases e : b = ab ∧ o = ao
    · obtain ⟨rfl, rfl⟩ := e
      rw [h] at hc
      simp only [Option.some.injEq] at hc
      exact ⟨.int k n', World.cell?_setCell_same _ _ _ h, Or.inr ⟨k, n, n', hc.symm, rfl⟩⟩
    · refine ⟨v, ?_, Sim.refl v⟩
      rw [World.cell?_setCell_other _ _ _ _ (by intro hh; cases hh; exact e (by simp))]
      exact hc
  · simp
theorem Soft.mono {S S' : Nat → Prop} {w w' : World} (h : Soft S w w') (hS : ∀ b, S' b → S b) : Soft S' w w' := ⟨fun b o v hb hc => h.1 b o v (hS b hb) hc, fun b o hb hl => h.2 b o (hS b hb) hl⟩
/-- The shape of a tree of at most d levels, whatever its numbers; its parts may be written. -/
def ShE (w : World) (S : Nat → Prop) : Nat → Value → Prop
  | 0, _ => False
  | d + 1, v => ∃ k a b ad n cap, v = .agg #[.int .i64 k, .int .u64 a, .int .u64 b, .slice ad n cap] ∧ n ≤ 9223372036854775807 ∧
      (0 < n → ∃ bl off, ad = some ⟨bl, off, none⟩ ∧ S bl ∧ ∀ i, i < n → ∃ k' a' b' ad' n' cap', w.cell? ⟨bl, off + i * 4, none⟩ = some (.int .i64 k') ∧ w.cell? ⟨bl, off + i * 4 + 1, none⟩ = some (.int .u64 a') ∧
        w.cell? ⟨bl, off + i * 4 + 2, none⟩ = some (.int .u64 b') ∧ w.cell? ⟨bl, off + i * 4 + 3, none⟩ = some (.slice ad' n' cap') ∧ w.frozen? ⟨bl, off + i * 4, none⟩ = false ∧ w.frozen? ⟨bl, off + i * 4 + 1, none⟩ = false ∧
        ShE w S d (.agg #[.int .i64 k', .int .u64 a', .int .u64 b', .slice ad' n' cap']))
theorem ShE.ints {w : World} {S : Nat → Prop} {d : Nat} {k a b k2 a2 b2 : Int} {s : Value} (h : ShE w S d (.agg #[.int .i64 k, .int .u64 a, .int .u64 b, s])) : ShE w S d (.agg #[.int .i64 k2, .int .u64 a2, .int .u64 b2, s]) := by
  cases d with
  | zero => exact h
  | succ d =>
    obtain ⟨k', a', b', ad, n, cap, h1, h2⟩ := h
    simp only [Value.agg.injEq, Array.mk.injEq, List.cons.injEq, and_true] at h1
    obtain ⟨_, _, _, rfl⟩ := h1
    exact ⟨k2, a2, b2, ad, n, cap, rfl, h2⟩
theorem ShE.soft {w w' : World} {S : Nat → Prop} (hs : Soft S w w') : ∀ {d : Nat} {v : Value}, ShE w S d v → ShE w' S d v
  | 0, _, h => h
  | d + 1, v, h => by
    obtain ⟨k, a, b, ad, n, cap, h1, h2, h3⟩ := h
    refine ⟨k, a, b, ad, n, cap, h1, h2, fun hn => ?_⟩
    obtain ⟨bl, off, ha, hS, hp⟩ := h3 hn
    refine ⟨bl, off, ha, hS, fun i hi => ?_⟩
    obtain ⟨k', a', b', ad', n', cap', g0, g1, g2, g3, f0, f1, hsub⟩ := hp i hi
    have hlt : bl < w.heap.size := World.block_lt_of_cell? w _ g0
    have int : ∀ {o k n}, w.cell? ⟨bl, o, none⟩ = some (.int k n) → ∃ n', w'.cell? ⟨bl, o, none⟩ = some (.int k n') := by
      intro o k n hc
      obtain ⟨v', h1, h2⟩ := hs.1 bl o _ hS hc
      rcases h2 with rfl | ⟨k2, m, m', e, rfl⟩
      · exact ⟨n, h1⟩
      · simp only [Value.int.injEq] at e; obtain ⟨rfl, rfl⟩ := e; exact ⟨m', h1⟩
    obtain ⟨k2, q0⟩ := int g0
    obtain ⟨a2, q1⟩ := int g1
    obtain ⟨b2, q2⟩ := int g2
    obtain ⟨v3, q3, s3⟩ := hs.1 bl _ _ hS g3
    have e3 : v3 = .slice ad' n' cap' := by
      rcases s3 with rfl | ⟨_, _, _, e, _⟩
      · rfl
      · cases e
    subst e3
    exact ⟨k2, a2, b2, ad', n', cap', q0, q1, q2, q3, (hs.2 _ _ hS hlt).trans f0, (hs.2 _ _ hS hlt).trans f1, ShE.ints (ShE.soft hs hsub)⟩
mutual
theorem RepE.shape {w : World} {S : Nat → Prop} : ∀ {e : Ex} {v : Value}, RepE w S true e v → ∀ d, e.depth ≤ d → ShE w S d v
  | .mk k a b ps, v, h, 0, hd => by simp [Ex.depth] at hd
  | .mk k a b ps, v, h, d + 1, hd => by
    simp only [RepE] at h
    obtain ⟨s, xs, h1, h2, h3, h4, h5, h6, h7⟩ := h
    obtain ⟨_, hn, ad, cap, rfl, _⟩ := h6.shape
    simp only [Ex.depth] at hd
    refine ⟨k, a, b, ad, ps.length, cap, h1, hn, fun hp => ?_⟩
    obtain ⟨bl, off, ha, hS, _⟩ := h6.cells hp
    refine ⟨bl, off, ha, hS, fun i hi => ?_⟩
    obtain ⟨bl', off', k', a', b', ad', n', cap', e1, _, g0, g1, g2, g3, hf, hr⟩ := h7.part h6 i hi
    rw [ha] at e1
    simp only [Option.some.injEq, Addr.mk.injEq, and_true] at e1
    obtain ⟨rfl, rfl⟩ := e1
    exact ⟨k', a', b', ad', n', cap', g0, g1, g2, g3, (hf rfl).1, (hf rfl).2, RepEs.shapes ps i hi hr d (by have := Ex.depths_ge ps i hi; omega)⟩
theorem RepEs.shapes {w : World} {S : Nat → Prop} : ∀ (es : List Ex) (i : Nat) (h : i < es.length) {v : Value}, RepE w S true es[i] v → ∀ d, es[i].depth ≤ d → ShE w S d v
  | e :: es, 0, _, _, hr, d, hd => RepE.shape (e := e) hr d hd
  | e :: es, i + 1, h, _, hr, d, hd => RepEs.shapes es i (by simpa using h) hr d hd
end
theorem ShE.parts {w : World} {S : Nat → Prop} {d : Nat} {k a b : Int} {ad : Option Addr} {n cap : Nat} (h : ShE w S (d + 1) (.agg #[.int .i64 k, .int .u64 a, .int .u64 b, .slice ad n cap])) :
    n ≤ 9223372036854775807 ∧ (0 < n → ∃ bl off, ad = some ⟨bl, off, none⟩ ∧ S bl ∧ ∀ i, i < n → ∃ k' a' b' ad' n' cap', w.cell? ⟨bl, off + i * 4, none⟩ = some (.int .i64 k') ∧ w.cell? ⟨bl, off + i * 4 + 1, none⟩ = some (.int .u64 a') ∧
        w.cell? ⟨bl, off + i * 4 + 2, none⟩ = some (.int .u64 b') ∧ w.cell? ⟨bl, off + i * 4 + 3, none⟩ = some (.slice ad' n' cap') ∧ w.frozen? ⟨bl, off + i * 4, none⟩ = false ∧ w.frozen? ⟨bl, off + i * 4 + 1, none⟩ = false ∧
        ShE w S d (.agg #[.int .i64 k', .int .u64 a', .int .u64 b', .slice ad' n' cap'])) := by
  obtain ⟨k2, a2, b2, ad2, n2, cap2, h1, h2, h3⟩ := h
  simp only [Value.agg.injEq, Array.mk.injEq, List.cons.injEq, and_true, Value.slice.injEq] at h1
  obtain ⟨_, _, _, rfl, rfl, rfl⟩ := h1
  exact ⟨h2, h3⟩
theorem Keeps.setCell {S : Nat → Prop} {w : World} {a : Addr} {v : Value} (h : ¬ S a.block) : Keeps S w (w.setCell a v) := fun b hb _ => Below.heap_setCell _ _ _ _ (fun e => h (e ▸ hb))
/-- What spoiling leaves: old blocks, all that is not the tree's, and the tree's shape. -/
structure Spoilt (B : Nat) (S : Nat → Prop) (w w' : World) : Prop where
  below : Below B w w'
  keeps : Keeps (fun b => ¬ S b) w w'
  soft : Soft S w w'
theorem Spoilt.trans {B : Nat} {S : Nat → Prop} {w w' w'' : World} (h : Spoilt B S w w') (k : Spoilt B S w' w'') : Spoilt B S w w'' :=
  ⟨h.below.trans k.below, h.keeps.trans h.below.size k.keeps, h.soft.trans h.below.size k.soft⟩
theorem Spoilt.of_below {B B' : Nat} {S : Nat → Prop} {w w' : World} (h : Below B' w w') (hB : B ≤ B') (hw : w.heap.size ≤ B') : Spoilt B S w w' :=
  ⟨h.mono hB, Below.keeps h hw _, Soft.below h hw⟩
theorem Spoilt.set {B : Nat} {S : Nat → Prop} {w : World} {bl o : Nat} {k : IntKind} {n n' : Int} (hS : S bl) (hB : B ≤ bl) (h : w.cell? ⟨bl, o, none⟩ = some (.int k n)) : Spoilt B S w (w.setCell ⟨bl, o, none⟩ (.int k n')) :=
  ⟨(Below.refl _ _).setCell hB _, Keeps.setCell (fun hn => hn hS), Soft.set rfl h⟩
set_option maxHeartbeats 2000000 in
set_option maxRecDepth 100000 in
theorem spoilExpr_any (B N : Nat) (S : Nat → Prop) (hSB : ∀ b, S b → B ≤ b ∧ b < N) (d : Nat) : ∀ (v : Value) (w : World), B ≤ N → N ≤ w.heap.size → ShE w S d v →
    Calls Tryz.prog 22 #[v] w fun r w' => r = .returned (.tuple #[]) ∧ Spoilt B S w w' := by
  induction d with
  | zero => intro v w _ _ h; exact h.elim
  | succ d ih =>
    intro v w hBN hN hsh
    have hsh' := hsh
    obtain ⟨k, a, b, ad, n, cap, rfl, hn, _⟩ := hsh'
    have IH := Lib.hid ih
    have HS := Lib.hid hsh
    have HB := Lib.hid hSB
    clear ih hsh hSB
    go_enter Tryz.func22, Tryz.ntmps22
    go_wp2_with fail
    go_loopw [2] (fun i wr => ∃ j : Nat, j ≤ n ∧ i = .int .i64 j ∧ Spoilt B S w wr ∧ wr.heap[w.heap.size]? = some (.cells #[.int .i64 k, .int .u64 a, .int .u64 b, .slice ad n cap] 26 (0, 0))) (fun i _ => n - (intOf i).toNat)
    case atStart => exact ⟨0, by omega, rfl, Spoilt.of_below ((Below.refl _ _).alloc (Nat.le_refl _) _) (by omega) (Nat.le_refl _), heap_alloc_at _ _ _ rfl⟩
    case round =>
      obtain ⟨j, hj, rfl, hsp, hh0⟩ := hrel
      have c0 : wr.cell? ⟨w.heap.size, 3, none⟩ = some (.slice ad n cap) := by rw [cell_of_row wr _ 3 _ _ _ hh0]; rfl
      have hsz := hsp.below.size
      by_cases hlt : j < n
      · have hw1 := ShE.soft hsp.soft HS.out
        obtain ⟨bl, off, rfl, hS, hpi⟩ := (ShE.parts hw1).2 (by omega)
        obtain ⟨k', a', b', ad', n', cap', g0, g1, g2, g3, f0, f1, hsub⟩ := hpi j hlt
        have hbl := HB.out bl hS
        have HSP := Lib.hid hsp
        have HH := Lib.hid hh0
        have HSub := Lib.hid hsub
        clear hpi hw1 hh0 hsub f0 f1 hsp
        go_wp2_with fail
        refine (IH.out _ _ hBN (by omega) HSub.out).mono ?_
        rintro e w1 ⟨rfl, hsp1⟩
        have hw2 := ShE.soft hsp1.soft (ShE.soft HSP.out.soft HS.out)
        obtain ⟨bl2, off2, ha2, _, hpi⟩ := (ShE.parts hw2).2 (by omega)
        simp only [Option.some.injEq, Addr.mk.injEq, and_true] at ha2
        obtain ⟨rfl, rfl⟩ := ha2
        obtain ⟨k1, a1, b1, ad1, n1, cap1, q0, q1, q2, q3, p0, p1, _⟩ := hpi j hlt
        have hh1 : w1.heap[w.heap.size]? = some (.cells #[.int .i64 k, .int .u64 a, .int .u64 b, .slice (some ⟨bl, off, none⟩) n cap] 26 (0, 0)) := by
          rw [hsp1.keeps _ (fun hx => by have := HB.out _ hx; omega) (Array.getElem?_eq_some_iff.1 HH.out).1]; exact HH.out
        have c1 : w1.cell? ⟨w.heap.size, 3, none⟩ = some (.slice (some ⟨bl, off, none⟩) n cap) := by rw [cell_of_row w1 _ 3 _ _ _ hh1]; rfl
        have HSP1 := Lib.hid (And.intro hsp1 hh1)
        have hz1 := hsp1.below.size
        clear hpi hw2 hsp1 hh1 g0 g1 g2 g3 c0
        go_wp2_with fail
        have hsp2 := Spoilt.set (B := B) (n' := 77) hS (by omega) q0
        obtain ⟨w2, hw2⟩ : ∃ w2, w2 = w1.setCell ⟨bl, off + j * 4, none⟩ (.int .i64 77) := ⟨_, rfl⟩
        rw [← hw2] at hsp2 ⊢
        have c2 : w2.cell? ⟨w.heap.size, 3, none⟩ = some (.slice (some ⟨bl, off, none⟩) n cap) := by
          rw [hw2, World.cell?_setCell_other _ _ _ _ (by intro hh; simp only [Addr.mk.injEq] at hh; omega)]; exact c1
        have d2 : w2.cell? ⟨bl, off + j * 4 + 1, none⟩ = some (.int .u64 a1) := by
          rw [hw2, World.cell?_setCell_other _ _ _ _ (by intro hh; simp only [Addr.mk.injEq] at hh; omega)]; exact q1
        have e2 : w2.frozen? ⟨bl, off + j * 4 + 1, none⟩ = false := by rw [hw2]; simpa using p1
        have hh2 : w2.heap[w.heap.size]? = some (.cells #[.int .i64 k, .int .u64 a, .int .u64 b, .slice (some ⟨bl, off, none⟩) n cap] 26 (0, 0)) := by
          rw [hw2, Below.heap_setCell _ _ _ _ (by simp; omega)]; exact HSP1.out.2
        have HSP2 := Lib.hid (And.intro hsp2 hh2)
        have x1 : (0 : Int) ≤ (j : Int) := by omega
        have x2 : (j : Int) < (n : Int) := by omega
        clear hw2 hsp2 hh2 q0 q1 q2 q3 p0 p1 c1
        go_region
        all_goals
          go_wp2_with fail
          go_roundw
          case rel =>
            refine ⟨j + 1, by omega, by go_num, ((HSP.out.trans HSP1.out.1).trans HSP2.out.1).trans ?_, ?_⟩
            · refine (Spoilt.set hS (by omega) d2).trans (Spoilt.of_below (Below.refl _ _).drew ?_ (Nat.le_refl _))
              have := HSP2.out.1.below.size
              simp; omega
            · show (w2.setCell _ _).heap[_]? = _
              rw [Below.heap_setCell _ _ _ _ (by first | omega | (simp; done) | (simp; omega))]; exact HSP2.out.2
          case measure => simp [intOf]; omega
      · have hj2 : j = n := by omega
        subst hj2
        have HSP := Lib.hid hsp
        clear hh0 hsp
        go_wp2_with fail
        go_end0
        exact ⟨rfl, HSP.out⟩
end Go.Proofs.YtohjkejdkhdjbaaGreatDoor
