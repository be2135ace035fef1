/- Walks. -/
import Derived.Test.YtmgbhhmipmgcpaaGreatDoorQ20
set_option maxHeartbeats 8000000
set_option maxRecDepth 100000
namespace Go.Proofs.YtmgbhhmipmgcpaaGreatDoor
open Go.RowKit Go
set_option linter.unusedVariables false
set_option linter.unusedSimpArgs false
theorem uS : (Tryz.prog.info? 44).map (fun i => (i.zero, i.size, i.bytes)) = some (some (.agg #[.int .i64 0, .int .u64 0, .int .u64 0, .slice none 0 0]), 4, 48) := by kernel_rfl
theorem wH : (Tryz.prog.info? 78).map (fun i => (i.zero, i.size, i.bytes)) = some (some (.agg #[.int .u64 0, .int .u64 0, .int .u64 0, .bool false]), 4, 32) := by kernel_rfl
theorem iZ (w : World) (base sz : Nat) (T : TypeId) (hb : base ≤ w.heap.size) : (w.alloc (.cells #[] T)).ownsRow base T sz (.slice (some ⟨w.heap.size, 0, none⟩) 0 0) 0 [] :=
 ⟨by simp, .inr ⟨w.heap.size, 0, #[], rfl, hb, heap_alloc_new _ _, by simp, by simp [maxLen], by simp, by simp⟩⟩
theorem au.ones {w : World} {S : Nat → Prop} {own : Bool} : ∀ {es : List Ex} {xs : List Value}, au w S own es xs → ∀ u ∈ xs, u.oneCell' = true
 | [], xs, h, u, hu => by simp [au] at h; subst h; cases hu
 | e :: es, xs, h, u, hu => by
  simp only [au] at h
  obtain ⟨c0, c1, c2, c3, rest, rfl, h2, h3⟩ := h
  obtain ⟨k', a', b', ad', n', cap', he⟩ := h2.conc
  simp only [Value.agg.injEq, Array.mk.injEq, List.cons.injEq, and_true] at he
  obtain ⟨rfl, rfl, rfl, rfl⟩ := he
  simp only [List.mem_cons] at hu
  rcases hu with rfl | rfl | rfl | rfl | hu
  ·rfl
  ·rfl
  ·rfl
  ·rfl
  ·exact h3.ones u hu
theorem pq (S : Nat → Prop) (own : Bool) (n : Nat) (xs : List Value) (v : Value) (w : World) (hr : Sl w S own 4 n xs v) (h1 : ∀ u ∈ xs, u.oneCell' = true) (h47 : n ≤ 100000) :
  Calls Tryz.prog 98 #[v] w fun e w' => ∃ v', e = .returned v' ∧ w'.ownsRow w.heap.size 44 4 v' n xs ∧ Below w.heap.size w w' := by
 obtain ⟨i0, hi0, hz0, hz1, hz2⟩ := info_parts uS
 have HR := hid hr
 have H1 := hid h1
 obtain ⟨hxl, _, ad, cap, rfl, hc⟩ := Sl.shape hr
 clear hr h1
 have hn := @Lib.run_eql_slice_nil Tryz.prog
 cases ad with
 | none =>
  have hl0 : n = 0 := by
   rcases Nat.eq_zero_or_pos n with h | h
   ·exact h
   ·obtain ⟨_, _, h1, _⟩ := Sl.cells HR.out h; cases h1
  subst hl0
  have hx0 : xs = [] := List.eq_nil_of_length_eq_zero (by omega)
  subst hx0
  go_enter Tryz.func98, Tryz.ntmps98
  go_wp2_with fail
  go_ret
  exact ⟨_, rfl, World.ownsRow_nil _ _ _ _, br⟩
 | some a =>
  have HS := hid (Sl.below HR.out (by omega) (br.alloc nl (.cells #[] 44)) nl)
  have H0 := hid (iZ w w.heap.size 4 44 nl)
  go_enter Tryz.func98, Tryz.ntmps98
  go_wp2_with (at_builtin; refine ai _ rfl (.tmp 5) (.tmp 6) _ rfl w.heap.size 44 i0 _ 4 48 Tryz.underlying42 hi0 hz0 hz1 hz2 rfl (by omega) _ 0 [] rfl H0.out _ _ n xs _ rfl HS.out H1.out (by unfold maxLen; omega) (by omega) (by simp) ?_; intro v' w2 hown2 hgrow hat)
  go_ret
  exact ⟨v', rfl, by simpa using hown2, (br.alloc nl _).grown hgrow (by simp) (fun k hk => by cases hk; exact Nat.le_refl _)⟩
theorem mV (S : Nat → Prop) (own : Bool) (es : List Ent) (v : Value) (w : World) (hr : bZ w S own es v) (h47 : es.length ≤ 100000) :
  Calls Tryz.prog 58 #[v] w fun e w' => ∃ v', e = .returned v' ∧ w'.ownsRow w.heap.size 78 4 v' es.length (aH es) ∧ Below w.heap.size w w' := by
 obtain ⟨i0, hi0, hz0, hz1, hz2⟩ := info_parts wH
 have HR := hid hr
 obtain ⟨_, ad, cap, rfl, hc⟩ := hr.shape
 clear hr
 have hn := @Lib.run_eql_slice_nil Tryz.prog
 cases ad with
 | none =>
  have hl0 : es = [] := by
   rcases Nat.eq_zero_or_pos es.length with h | h
   ·exact List.eq_nil_of_length_eq_zero h
   ·obtain ⟨_, _, h1, _⟩ := Sl.cells HR.out h; cases h1
  subst hl0
  go_enter Tryz.func58, Tryz.ntmps58
  go_wp2_with fail
  go_ret
  exact ⟨_, rfl, World.ownsRow_nil _ _ _ _, br⟩
 | some a =>
  have HS := hid (Sl.below HR.out (by omega) (br.alloc nl (.cells #[] 78)) nl)
  have H0 := hid (iZ w w.heap.size 4 78 nl)
  go_enter Tryz.func58, Tryz.ntmps58
  go_wp2_with (at_builtin; refine ai _ rfl (.tmp 5) (.tmp 6) _ rfl w.heap.size 78 i0 _ 4 32 Tryz.underlying45 hi0 hz0 hz1 hz2 rfl (by omega) _ 0 [] rfl H0.out _ _ es.length (aH es) _ rfl HS.out (jD es) (by unfold maxLen; omega) (by omega) (by simp) ?_; intro v' w2 hown2 hgrow hat)
  go_ret
  exact ⟨v', rfl, by simpa using hown2, (br.alloc nl _).grown hgrow (by simp) (fun k hk => by cases hk; exact Nat.le_refl _)⟩
theorem Sl.setAt {w : World} {S : Nat → Prop} {sz n bl off cap : Nat} {ys : List Value} (h : Sl w S true sz n ys (.slice (some ⟨bl, off, none⟩) n cap)) (hn : 0 < n) {j : Nat} (hj : j < ys.length) (x : Value) :
  Sl (w.setCell ⟨bl, off + j, none⟩ x) S true sz n (ys.set j x) (.slice (some ⟨bl, off, none⟩) n cap) := by
 obtain ⟨bl', off', ha, hS, hc⟩ := Sl.cells h hn
 have ha' : bl = bl' ∧ off = off' := by simpa using ha
 obtain ⟨rfl, rfl⟩ := ha'
 obtain ⟨h1, h2, ad, cap', hv, hcap⟩ := Sl.shape h
 have hcap' : n ≤ cap := by simp only [Value.slice.injEq] at hv; omega
 refine ⟨by simpa using h1, h2, _, cap, rfl, hcap', fun _ => ⟨bl, off, rfl, hS, fun i hi => ?_⟩⟩
 have hi' : i < ys.length := by simpa using hi
 obtain ⟨c1, c2⟩ := hc i hi'
 refine ⟨?_, fun ho => by rw [World.frozen?_setCell]; exact c2 ho⟩
 by_cases e : i = j
 ·subst e
  rw [World.cell?_setCell_same _ _ _ c1]
  simp
 ·rw [World.cell?_setCell_other _ _ _ _ (by intro h; simp only [Addr.mk.injEq] at h; omega), c1, List.getElem_set_ne (by omega)]
theorem uT (ds : List Value) (x0 x1 x2 x3 y0 y1 y2 y3 : Value) (r : List Value) (m : Nat) (hm : ds.length = m) :
  ((((ds ++ x0 :: x1 :: x2 :: x3 :: r).set m y0).set (m + 1) y1).set (m + 2) y2).set (m + 3) y3 = (ds ++ [y0, y1, y2, y3]) ++ r := by
 subst hm
 simp [List.set_append]
structure Cl (wr : World) (base gg off n cap j : Nat) (ps : List Ex) (xs ds : List Value) : Prop where
 sl : Sl wr (fun b => b = gg) true 4 n (ds ++ xs.drop (j * 4)) (.slice (some ⟨gg, off, none⟩) n cap)
 ds : au wr (fun b => base ≤ b ∧ b ≠ gg) true (ps.take j) ds
theorem Cl.below {wr w' : World} {base gg off n cap j B : Nat} {ps : List Ex} {xs ds : List Value} (h : Cl wr base gg off n cap j ps xs ds) (hb : Below B wr w') (hB : wr.heap.size ≤ B) : Cl w' base gg off n cap j ps xs ds :=
 ⟨h.sl.below (by omega) hb hB, h.ds.below hb hB⟩
theorem Cl.step {wr : World} {base gg off cap j : Nat} {ps : List Ex} {xs ds : List Value} {c0 c1 c2 c3 : Value} (h : Cl wr base gg off ps.length cap j ps xs ds) (hj : j < ps.length) (hx : xs.length = ps.length * 4)
  (hv : av wr (fun b => base ≤ b ∧ b ≠ gg) true ps[j] (.agg #[c0, c1, c2, c3])) :
  Cl ((((wr.setCell ⟨gg, off + j * 4, none⟩ c0).setCell ⟨gg, off + j * 4 + 1, none⟩ c1).setCell ⟨gg, off + j * 4 + 2, none⟩ c2).setCell ⟨gg, off + j * 4 + 3, none⟩ c3) base gg off ps.length cap (j + 1) ps xs (ds ++ [c0, c1, c2, c3]) := by
 have hk : bB (fun b => base ≤ b ∧ b ≠ gg) wr ((((wr.setCell ⟨gg, off + j * 4, none⟩ c0).setCell ⟨gg, off + j * 4 + 1, none⟩ c1).setCell ⟨gg, off + j * 4 + 2, none⟩ c2).setCell ⟨gg, off + j * 4 + 3, none⟩ c3) := fun b hb _ =>
  (Below.heap_setCell _ _ _ _ (by show b ≠ gg; exact hb.2)).trans ((Below.heap_setCell _ _ _ _ (by show b ≠ gg; exact hb.2)).trans ((Below.heap_setCell _ _ _ _ (by show b ≠ gg; exact hb.2)).trans (Below.heap_setCell _ _ _ _ (by show b ≠ gg; exact hb.2))))
 have hdl : ds.length = j * 4 := by have := h.ds.length; simp at this; omega
 have hlt : j * 4 + 3 < xs.length := by omega
 have hd : xs.drop (j * 4) = xs[j * 4] :: xs[j * 4 + 1] :: xs[j * 4 + 2] :: xs[j * 4 + 3] :: xs.drop ((j + 1) * 4) := by
  rw [List.drop_eq_getElem_cons (by omega), List.drop_eq_getElem_cons (by omega), List.drop_eq_getElem_cons (by omega), List.drop_eq_getElem_cons (by omega), show j * 4 + 1 + 1 + 1 + 1 = (j + 1) * 4 by omega]
 refine ⟨?_, ?_⟩
 ·have hs := h.sl
  rw [hd] at hs
  have hl : (ds ++ xs[j * 4] :: xs[j * 4 + 1] :: xs[j * 4 + 2] :: xs[j * 4 + 3] :: xs.drop ((j + 1) * 4)).length = ps.length * 4 := (Sl.shape hs).1
  have hp : 0 < ps.length := by omega
  have s0 := hs.setAt hp (j := j * 4) (by omega) c0
  have s1 := s0.setAt hp (j := j * 4 + 1) (by rw [List.length_set]; omega) c1
  have s2 := s1.setAt hp (j := j * 4 + 2) (by rw [List.length_set, List.length_set]; omega) c2
  have s3 := s2.setAt hp (j := j * 4 + 3) (by rw [List.length_set, List.length_set, List.length_set]; omega) c3
  rw [uT _ _ _ _ _ _ _ _ _ _ _ hdl] at s3
  exact s3
 ·rw [bI ps j hj]
  exact au.append (h.ds.keep hk (fun _ _ h => h)) (au.one (av.keep hk (fun _ _ h => h) hv))
theorem Cl.len {wr : World} {base gg off n cap j : Nat} {ps : List Ex} {xs ds : List Value} (h : Cl wr base gg off n cap j ps xs ds) (hj : j ≤ ps.length) : ds.length = j * 4 := by
 have := h.ds.length
 simp at this
 omega
theorem Cl.at {wr : World} {base gg off cap j : Nat} {ps : List Ex} {xs ds : List Value} (h : Cl wr base gg off ps.length cap j ps xs ds) (hj : j < ps.length) (hx : xs.length = ps.length * 4) (i : Nat) (hi : i < 4) :
  wr.cell? ⟨gg, off + j * 4 + i, none⟩ = xs[j * 4 + i]? ∧ wr.frozen? ⟨gg, off + j * 4 + i, none⟩ = false := by
 obtain ⟨bl', off', ha, hS, hc⟩ := Sl.cells h.sl (by omega)
 have ha' : gg = bl' ∧ off = off' := by simpa using ha
 obtain ⟨rfl, rfl⟩ := ha'
 have hdl := h.len (by omega)
 obtain ⟨c1, c2⟩ := hc (j * 4 + i) (by rw [List.length_append, List.length_drop]; omega)
 rw [Nat.add_assoc]
 refine ⟨?_, c2 rfl⟩
 rw [c1, List.getElem_append_right (by omega), List.getElem_drop, List.getElem?_eq_getElem (by omega)]
 congr 2
 omega
theorem qM {w : World} {gg o0 o1 o2 o3 b : Nat} {c0 c1 c2 c3 : Value} (hb : b ≠ gg) : ((((w.setCell ⟨gg, o0, none⟩ c0).setCell ⟨gg, o1, none⟩ c1).setCell ⟨gg, o2, none⟩ c2).setCell ⟨gg, o3, none⟩ c3).heap[b]? = w.heap[b]? :=
 (Below.heap_setCell _ _ _ _ hb).trans ((Below.heap_setCell _ _ _ _ hb).trans ((Below.heap_setCell _ _ _ _ hb).trans (Below.heap_setCell _ _ _ _ hb)))
theorem sS {B : Nat} {w0 w : World} {gg o0 o1 o2 o3 : Nat} {c0 c1 c2 c3 : Value} (h : Below B w0 w) (hb : B ≤ gg) : Below B w0 ((((w.setCell ⟨gg, o0, none⟩ c0).setCell ⟨gg, o1, none⟩ c1).setCell ⟨gg, o2, none⟩ c2).setCell ⟨gg, o3, none⟩ c3) :=
 (((h.setCell hb _).setCell hb _).setCell hb _).setCell hb _
structure CR (w : World) (k : Int) (a b : Nat) (n : Nat) (ga : Option Addr) (gc : Nat) (ps : List Ex) (xs : List Value) (j : Nat) (wr : World) : Prop where
 bel : Below w.heap.size w wr
 b0 : wr.heap[w.heap.size]? = some (.cells #[.int .i64 k, .int .u64 (a : Nat), .int .u64 (b : Nat), .slice ga n gc] 44 (0, 0))
 b1 : wr.heap[w.heap.size + 1]? = some (.cells #[.int .i64 0, .int .u64 0, .int .u64 0, .slice none 0 0] 44 (0, 0))
 cl : 0 < n → ∃ bl off ds, ga = some ⟨bl, off, none⟩ ∧ w.heap.size + 2 ≤ bl ∧ Cl wr (w.heap.size + 2) bl off n gc j ps xs ds
 cap : n ≤ gc
theorem uU (d : Nat) : ∀ (S : Nat → Prop) (own : Bool) (e : Ex) (v : Value) (w : World), e.depth ≤ d → d ≤ 1000 → e.size ≤ 1000 → av w S own e v →
  Calls Tryz.prog 57 #[v] w (xB w e) := by
 induction d with
 | zero => intro S own e v w hd; cases e; simp [Ex.depth] at hd
 | succ d ih =>
  intro S own e v w hd hd2 hsz hrep
  obtain ⟨k, a, b, ps⟩ := e
  simp only [av] at hrep
  obtain ⟨s, xs, rfl, hk1, hk2, ha, hb, hs, hes⟩ := hrep
  obtain ⟨hxl, hlen, ad, cap, rfl, hcap⟩ := hs.shape
  have IH := hid ih
  clear ih
  simp only [Ex.depth, Ex.size] at hd hsz
  have hpl := Ex.length_le_sizes ps
  have hbX : Below w.heap.size w ((w.alloc (.cells #[.int .i64 k, .int .u64 (a : Nat), .int .u64 (b : Nat), .slice ad ps.length cap] 44)).alloc (.cells #[.int .i64 0, .int .u64 0, .int .u64 0, .slice none 0 0] 44)) := (br.alloc nl _).alloc (by simp) _
  have p0 : ((w.alloc (.cells #[.int .i64 k, .int .u64 (a : Nat), .int .u64 (b : Nat), .slice ad ps.length cap] 44)).alloc (.cells #[.int .i64 0, .int .u64 0, .int .u64 0, .slice none 0 0] 44)).heap[w.heap.size]? = some (.cells #[.int .i64 k, .int .u64 (a : Nat), .int .u64 (b : Nat), .slice ad ps.length cap] 44 (0, 0)) := (ax _ _ _ (by simp)).trans (aa _ _ _ rfl)
  have p1 : ((w.alloc (.cells #[.int .i64 k, .int .u64 (a : Nat), .int .u64 (b : Nat), .slice ad ps.length cap] 44)).alloc (.cells #[.int .i64 0, .int .u64 0, .int .u64 0, .slice none 0 0] 44)).heap[w.heap.size + 1]? = some (.cells #[.int .i64 0, .int .u64 0, .int .u64 0, .slice none 0 0] 44 (0, 0)) := aa _ _ _ (by simp)
  have HX := hid (And.intro hbX (And.intro p0 (And.intro p1 (And.intro hs hes))))
  have HN := hid (And.intro hk1 (And.intro hk2 (And.intro ha hb)))
  clear hbX p0 p1 hs hes hk1 hk2 ha hb
  go_enter Tryz.func57, Tryz.ntmps57
  go_upto_region 1 with fail
  generalize ((w.alloc (.cells #[.int .i64 k, .int .u64 (a : Nat), .int .u64 (b : Nat), .slice ad ps.length cap] 44)).alloc (.cells #[.int .i64 0, .int .u64 0, .int .u64 0, .slice none 0 0] 44)) = X at HX ⊢
  have c3 : X.cell? ⟨w.heap.size, 3, none⟩ = some (.slice ad ps.length cap) := by rw [cell_of_row X _ 3 _ _ _ HX.out.2.1]; rfl
  have lX : w.heap.size + 1 < X.heap.size := (Array.getElem?_eq_some_iff.1 HX.out.2.2.1).1
  go_wp2_with fail
  refine (pq S own ps.length xs _ X (HX.out.2.2.2.1.below (by omega) HX.out.1 nl) HX.out.2.2.2.2.ones (by omega)).mono ?_
  rintro e w1 ⟨v1, rfl, hown1, hb1⟩
  obtain ⟨ga, gc, rfl⟩ := ag hown1
  have hz1 := hb1.size
  have q0 : w1.heap[w.heap.size]? = some (.cells #[.int .i64 k, .int .u64 (a : Nat), .int .u64 (b : Nat), .slice ad ps.length cap] 44 (0, 0)) := (hb1.block _ (by omega)).trans HX.out.2.1
  have q1 : w1.heap[w.heap.size + 1]? = some (.cells #[.int .i64 0, .int .u64 0, .int .u64 0, .slice none 0 0] 44 (0, 0)) := (hb1.block _ (by omega)).trans HX.out.2.2.1
  have d3 : w1.cell? ⟨w.heap.size, 3, none⟩ = some (.slice ad ps.length cap) := by rw [cell_of_row w1 _ 3 _ _ _ q0]; rfl
  have f3 : w1.frozen? ⟨w.heap.size, 3, none⟩ = false := by rw [frozen_of_row w1 _ 3 _ _ q0]
  have H1 : Hid (CR w k a b ps.length ga gc ps xs 0 (w1.setCell ⟨w.heap.size, 3, none⟩ (.slice ga ps.length gc))) := hid (by
   have hown2 := ownsRow_setCell_below hown1 (show w.heap.size < X.heap.size by omega) (Value.slice ga ps.length gc) (a := ⟨w.heap.size, 3, none⟩)
   have hsl := Sl.of_owns hown2 (by omega)
   obtain ⟨_, _, ad', cap', hv, hcp⟩ := Sl.shape hsl
   simp only [Value.slice.injEq] at hv
   refine ⟨(HX.out.1.trans (hb1.mono (by omega))).setCell (by simp) _, af q0 rfl, (Below.heap_setCell _ _ _ _ (by show w.heap.size + 1 ≠ w.heap.size; omega)).trans q1, fun hn => ?_, by omega⟩
   obtain ⟨bl, off, rfl, hS, _⟩ := Sl.cells hsl hn
   refine ⟨bl, off, [], rfl, by have := hS.2; omega, ⟨Sl.keep (by simpa using hsl) (by omega) (fun _ _ _ => rfl) (fun b _ hb => by have := hb.1; simpa [Value.ownBlock] using this.symm), by simp [au]⟩⟩)
  have HXS := hid HX.out.2.2.2
  clear hown1 hb1 c3 q0 q1 HX
  go_upto_region 2 with fail
  generalize w1.setCell ⟨w.heap.size, 3, none⟩ (.slice ga ps.length gc) = w2 at H1 ⊢
  have e3 : w2.cell? ⟨w.heap.size, 3, none⟩ = some (.slice ga ps.length gc) := by rw [cell_of_row w2 _ 3 _ _ _ H1.out.b0]; rfl
  clear d3 f3
  go_wp2_with fail
  go_loopw [12] (fun i wr => ∃ j : Nat, j ≤ ps.length ∧ i = .int .i64 j ∧ Hid (CR w k a b ps.length ga gc ps xs j wr)) (fun i _ => ps.length - (intOf i).toNat)
  case atStart => exact ⟨0, by omega, rfl, H1⟩
  case round =>
   obtain ⟨j, hj, rfl, HQ⟩ := hrel
   clear e3
   by_cases hlt : j < ps.length
   ·obtain ⟨bl, off, ds, rfl, hbl, hcl⟩ := HQ.out.cl (by omega)
    obtain ⟨x0, x1, x2, x3, g0, g1, g2, g3, ge⟩ := HXS.out.2.get j hlt
    obtain ⟨k', a', b', ad', n', cap', hq⟩ := ge.conc
    simp only [Value.agg.injEq, Array.mk.injEq, List.cons.injEq, and_true] at hq
    obtain ⟨rfl, rfl, rfl, rfl⟩ := hq
    have t0 := hcl.at hlt hxl 0 (by omega)
    have t1 := hcl.at hlt hxl 1 (by omega)
    have t2 := hcl.at hlt hxl 2 (by omega)
    have t3 := hcl.at hlt hxl 3 (by omega)
    simp only [Nat.add_zero, g0, g1, g2, g3] at t0 t1 t2 t3
    obtain ⟨c0, f0⟩ := t0
    obtain ⟨c1, f1⟩ := t1
    obtain ⟨c2, f2⟩ := t2
    obtain ⟨c3, f3⟩ := t3
    have hdj := Ex.depths_ge ps j hlt
    have hsj := Ex.sizes_ge ps j hlt
    have hlr : bl < wr.heap.size := World.block_lt_of_cell? wr _ c0
    have hge := ge.below HQ.out.bel nl
    have HC := hid (And.intro hcl hge)
    clear g0 g1 g2 g3 ge hcl hge
    have y1 : (0 : Int) ≤ (j : Int) := by omega
    have y2 : (j : Int) < (ps.length : Int) := by omega
    go_upto_region 5 with fail
    have hbq : Below wr.heap.size wr (wr.alloc (.cells #[.int .i64 k', .int .u64 (a' : Nat), .int .u64 (b' : Nat), .slice ad' n' cap'] 44)) := br.alloc nl _
    have h4 : (wr.alloc (.cells #[.int .i64 k', .int .u64 (a' : Nat), .int .u64 (b' : Nat), .slice ad' n' cap'] 44)).heap[wr.heap.size]? = some (.cells #[.int .i64 k', .int .u64 (a' : Nat), .int .u64 (b' : Nat), .slice ad' n' cap'] 44 (0, 0)) := aa _ _ _ rfl
    have HQ4 := hid (And.intro hbq h4)
    clear hbq h4
    generalize wr.alloc (.cells #[.int .i64 k', .int .u64 (a' : Nat), .int .u64 (b' : Nat), .slice ad' n' cap'] 44) = wq at HQ4 ⊢
    have hzq := HQ4.out.1.size
    have hlq : wr.heap.size < wq.heap.size := (Array.getElem?_eq_some_iff.1 HQ4.out.2).1
    have z0 : wq.cell? ⟨wr.heap.size, 0, none⟩ = some (.int .i64 k') := by rw [cell_of_row wq _ 0 _ _ _ HQ4.out.2]; rfl
    have z1 : wq.cell? ⟨wr.heap.size, 1, none⟩ = some (.int .u64 (a' : Nat)) := by rw [cell_of_row wq _ 1 _ _ _ HQ4.out.2]; rfl
    have z2 : wq.cell? ⟨wr.heap.size, 2, none⟩ = some (.int .u64 (b' : Nat)) := by rw [cell_of_row wq _ 2 _ _ _ HQ4.out.2]; rfl
    have z3 : wq.cell? ⟨wr.heap.size, 3, none⟩ = some (.slice ad' n' cap') := by rw [cell_of_row wq _ 3 _ _ _ HQ4.out.2]; rfl
    have hl0 : w.heap.size < wr.heap.size := by omega
    have u3 : wq.cell? ⟨w.heap.size, 3, none⟩ = some (.slice (some ⟨bl, off, none⟩) ps.length gc) := (HQ4.out.1.cell hl0).trans (by rw [cell_of_row wr _ 3 _ _ _ HQ.out.b0]; rfl)
    have m0 := (HQ4.out.1.cell (p := ⟨bl, off + j * 4, none⟩) hlr).trans c0
    have m1 := (HQ4.out.1.cell (p := ⟨bl, off + j * 4 + 1, none⟩) hlr).trans c1
    have m2 := (HQ4.out.1.cell (p := ⟨bl, off + j * 4 + 2, none⟩) hlr).trans c2
    have m3 := (HQ4.out.1.cell (p := ⟨bl, off + j * 4 + 3, none⟩) hlr).trans c3
    have k0 := (HQ4.out.1.frozen (p := ⟨bl, off + j * 4, none⟩) hlr).trans f0
    have k1 := (HQ4.out.1.frozen (p := ⟨bl, off + j * 4 + 1, none⟩) hlr).trans f1
    have k2 := (HQ4.out.1.frozen (p := ⟨bl, off + j * 4 + 2, none⟩) hlr).trans f2
    have k3 := (HQ4.out.1.frozen (p := ⟨bl, off + j * 4 + 3, none⟩) hlr).trans f3
    have hlqb : bl < wq.heap.size := by omega
    have hlq0 : w.heap.size < wq.heap.size := by omega
    clear c0 c1 c2 c3 f0 f1 f2 f3
    have hl1 : w.heap.size + 1 < wr.heap.size := (Array.getElem?_eq_some_iff.1 HQ.out.b1).1
    go_region_law (first
     | (go_simp; go_at_call 57; refine (IH.out S own ps[j] _ _ (by omega) (by omega) (by omega) ((HC.out.2.below HQ4.out.1 nl).below br.drew nl)).mono ?_; rintro e w5 ⟨⟨v', rfl, hv'⟩, hb5⟩; have r3 : w5.cell? ⟨w.heap.size, 3, none⟩ = some (.slice (some ⟨bl, off, none⟩) ps.length gc) := (hb5.cell hlq0).trans u3; have v0 := (hb5.cell (p := ⟨bl, off + j * 4, none⟩) hlqb).trans m0; have kk0 := (hb5.frozen (p := ⟨bl, off + j * 4, none⟩) hlqb).trans k0; have v1 := (hb5.cell (p := ⟨bl, off + j * 4 + 1, none⟩) hlqb).trans m1; have kk1 := (hb5.frozen (p := ⟨bl, off + j * 4 + 1, none⟩) hlqb).trans k1; have v2 := (hb5.cell (p := ⟨bl, off + j * 4 + 2, none⟩) hlqb).trans m2; have kk2 := (hb5.frozen (p := ⟨bl, off + j * 4 + 2, none⟩) hlqb).trans k2; have v3 := (hb5.cell (p := ⟨bl, off + j * 4 + 3, none⟩) hlqb).trans m3; have kk3 := (hb5.frozen (p := ⟨bl, off + j * 4 + 3, none⟩) hlqb).trans k3; obtain ⟨q0, q1, q2, q3, q4, q5, rfl⟩ := hv'.conc))
    all_goals
     have HR : Hid (CR w k a b ps.length (some ⟨bl, off, none⟩) gc ps xs (j + 1) ((((w5.setCell ⟨bl, off + j * 4, none⟩ (.int .i64 q0)).setCell ⟨bl, off + j * 4 + 1, none⟩ (.int .u64 (q1 : Nat))).setCell ⟨bl, off + j * 4 + 2, none⟩ (.int .u64 (q2 : Nat))).setCell ⟨bl, off + j * 4 + 3, none⟩ (.slice q3 q4 q5))) := hid (by
      have hb' : Below wr.heap.size wr w5 := HQ4.out.1.trans (((Below.refl wq.heap.size wq).drew.trans hb5).mono (by omega))
      refine ⟨sS (HQ.out.bel.trans (hb'.mono (by omega))) (by omega), (qM (by omega)).trans ((hb'.block _ (by omega)).trans HQ.out.b0), (qM (by omega)).trans ((hb'.block _ (by omega)).trans HQ.out.b1), fun _ => ⟨bl, off, _, rfl, hbl, Cl.step (HC.out.1.below hb' nl) hlt hxl (hv'.wider fun b _ hb => ?_)⟩, HQ.out.cap⟩
      have hb : wq.heap.size ≤ b := hb
      exact ⟨by omega, by omega⟩)
     clear hv' hb5 r3 v0 v1 v2 v3 kk0 kk1 kk2 kk3
     go_wp2_with fail
     go_roundw
     case rel => exact ⟨j + 1, by omega, by go_num, HR⟩
     case measure => simp [intOf]; omega
   ·have hj2 : j = ps.length := by omega
    subst hj2
    have e0 : wr.cell? ⟨w.heap.size, 0, none⟩ = some (.int .i64 k) := by rw [cell_of_row wr _ 0 _ _ _ HQ.out.b0]; rfl
    have e1 : wr.cell? ⟨w.heap.size, 1, none⟩ = some (.int .u64 (a : Nat)) := by rw [cell_of_row wr _ 1 _ _ _ HQ.out.b0]; rfl
    have e2 : wr.cell? ⟨w.heap.size, 2, none⟩ = some (.int .u64 (b : Nat)) := by rw [cell_of_row wr _ 2 _ _ _ HQ.out.b0]; rfl
    have e3 : wr.cell? ⟨w.heap.size, 3, none⟩ = some (.slice ga ps.length gc) := by rw [cell_of_row wr _ 3 _ _ _ HQ.out.b0]; rfl
    have hz1 := HQ.out.b1
    go_wp2_with (refine wpList_store_row rfl 44 (.tmp 2) (.tmp 24) rfl rfl (w.heap.size + 1) rfl _ rfl 44 #[.int .i64 0, .int .u64 0, .int .u64 0, .slice none 0 0] hz1 (by kernel_rfl) rfl (by simp [Value.oneCell']) ?_)
    refine bodyPost_ret (v := .agg #[.int .i64 k, .int .u64 (a : Nat), .int .u64 (b : Nat), .slice ga ps.length gc]) (results_cell_row rfl _ _ (w.heap.size + 1) 44 _ _ _ rfl (setRow_heap _ _ _ _ _ _ hz1) Tryz.underlying44 rfl (by kernel_rfl)) rfl
     ⟨⟨_, rfl, ?_⟩, below_setRow HQ.out.bel _ _ (by omega)⟩
    have hkeep : ∀ S : Nat → Prop, (∀ b, S b → w.heap.size + 2 ≤ b) → bB S wr (wr.setRow (w.heap.size + 1) #[.int .i64 k, .int .u64 (a : Nat), .int .u64 (b : Nat), .slice ga ps.length gc]) := fun S hS b hb _ => setRow_other _ _ _ _ (by have := hS b hb; omega)
    simp only [av]
    obtain ⟨n1, n2, n3, n4⟩ := HN.out
    rcases Nat.eq_zero_or_pos ps.length with h0 | h0
    ·have hp0 : ps = [] := List.eq_nil_of_length_eq_zero h0
     subst hp0
     exact ⟨_, [], rfl, n1, n2, n3, n4, ⟨by simp, by simp, ga, gc, rfl, by simp, fun h => by simp at h⟩, by simp [au]⟩
    ·obtain ⟨bl, off, ds, rfl, hbl, hcl⟩ := HQ.out.cl h0
     have hsl := hcl.sl
     have hds := hcl.ds
     rw [List.drop_of_length_le (by omega), List.append_nil] at hsl
     rw [List.take_length] at hds
     exact ⟨_, ds, rfl, n1, n2, n3, n4, hsl.keep (by omega) (hkeep _ (fun b hb => by have hb : b = bl := hb; omega)) (fun b _ hb => by have hb : b = bl := hb; show w.heap.size ≤ b; omega), au.keep (hkeep _ (fun b hb => hb.1)) (fun b _ hb => by have := hb.1; show w.heap.size ≤ b; omega) hds⟩
theorem uV {w Y : World} {T : TypeId} {B : Nat} {a0 a1 a2 a3 a4 a5 p0 p1 p2 p3 p4 v0 v1 v2 v3 v4 : Value} (h : Y.heap[w.heap.size]? = some (.cells #[a0, a1, a2, a3, a4, a5, p0, p1, p2, p3, p4] T (0, 0))) (hb : Below w.heap.size w Y) :
  (((((Y.setCell ⟨w.heap.size, 6, none⟩ v0).setCell ⟨w.heap.size, 7, none⟩ v1).setCell ⟨w.heap.size, 8, none⟩ v2).setCell ⟨w.heap.size, 9, none⟩ v3).setCell ⟨w.heap.size, 10, none⟩ v4).heap[w.heap.size]? = some (.cells #[a0, a1, a2, a3, a4, a5, v0, v1, v2, v3, v4] T (0, 0)) ∧ Below w.heap.size w (((((Y.setCell ⟨w.heap.size, 6, none⟩ v0).setCell ⟨w.heap.size, 7, none⟩ v1).setCell ⟨w.heap.size, 8, none⟩ v2).setCell ⟨w.heap.size, 9, none⟩ v3).setCell ⟨w.heap.size, 10, none⟩ v4) ∧ ∀ b, b ≠ w.heap.size → (((((Y.setCell ⟨w.heap.size, 6, none⟩ v0).setCell ⟨w.heap.size, 7, none⟩ v1).setCell ⟨w.heap.size, 8, none⟩ v2).setCell ⟨w.heap.size, 9, none⟩ v3).setCell ⟨w.heap.size, 10, none⟩ v4).heap[b]? = Y.heap[b]? := by
 refine ⟨af (af (af (af (af h rfl) rfl) rfl) rfl) rfl, ((((hb.setCell nl _).setCell nl _).setCell nl _).setCell nl _).setCell nl _, fun b hb => ?_⟩
 exact (Below.heap_setCell _ _ _ _ hb).trans ((Below.heap_setCell _ _ _ _ hb).trans ((Below.heap_setCell _ _ _ _ hb).trans ((Below.heap_setCell _ _ _ _ hb).trans (Below.heap_setCell _ _ _ _ hb))))
theorem qN (S : Nat → Prop) (own : Bool) (r : Rec) (v : Value) (w : World) (hsz : r.p.size ≤ 900) (hle : r.es.length ≤ 10000) (hv : aI w S own r v) :
  Calls Tryz.prog 21 #[v] w fun e w' => (∃ v', e = .returned v' ∧ aI w' (fun b => w.heap.size ≤ b) true r v') ∧ Below w.heap.size w w' := by
 have hd := r.p.depth_le_size
 obtain ⟨k0, k1, k2, k3, k4, k5, k6, k7, rfl, hk1, hk2, hnums, he, hes⟩ := hv.conc
 have hb0 : Below w.heap.size w ((w.alloc (.cells #[.int .i64 r.k, .int .u64 r.t, .int .u64 r.x, .int .u64 r.w, .int .u64 r.n, .int .u64 r.v, .int .i64 k0, .int .u64 (k1 : Nat), .int .u64 (k2 : Nat), .slice k3 k4 k5, .slice k6 r.es.length k7] 47)).alloc (.cells #[.int .i64 0, .int .u64 0, .int .u64 0, .int .u64 0, .int .u64 0, .int .u64 0, .int .i64 0, .int .u64 0, .int .u64 0, .slice none 0 0, .slice none 0 0] 47)) := (br.alloc nl _).alloc (by simp) _
 have p0 : ((w.alloc (.cells #[.int .i64 r.k, .int .u64 r.t, .int .u64 r.x, .int .u64 r.w, .int .u64 r.n, .int .u64 r.v, .int .i64 k0, .int .u64 (k1 : Nat), .int .u64 (k2 : Nat), .slice k3 k4 k5, .slice k6 r.es.length k7] 47)).alloc (.cells #[.int .i64 0, .int .u64 0, .int .u64 0, .int .u64 0, .int .u64 0, .int .u64 0, .int .i64 0, .int .u64 0, .int .u64 0, .slice none 0 0, .slice none 0 0] 47)).heap[w.heap.size]? = some (.cells #[.int .i64 r.k, .int .u64 r.t, .int .u64 r.x, .int .u64 r.w, .int .u64 r.n, .int .u64 r.v, .int .i64 k0, .int .u64 (k1 : Nat), .int .u64 (k2 : Nat), .slice k3 k4 k5, .slice k6 r.es.length k7] 47 (0, 0)) := heap_alloc2_old _ _ _
 have p1 : ((w.alloc (.cells #[.int .i64 r.k, .int .u64 r.t, .int .u64 r.x, .int .u64 r.w, .int .u64 r.n, .int .u64 r.v, .int .i64 k0, .int .u64 (k1 : Nat), .int .u64 (k2 : Nat), .slice k3 k4 k5, .slice k6 r.es.length k7] 47)).alloc (.cells #[.int .i64 0, .int .u64 0, .int .u64 0, .int .u64 0, .int .u64 0, .int .u64 0, .int .i64 0, .int .u64 0, .int .u64 0, .slice none 0 0, .slice none 0 0] 47)).heap[w.heap.size + 1]? = some (.cells #[.int .i64 0, .int .u64 0, .int .u64 0, .int .u64 0, .int .u64 0, .int .u64 0, .int .i64 0, .int .u64 0, .int .u64 0, .slice none 0 0, .slice none 0 0] 47 (0, 0)) := aa _ _ _ (by simp)
 have HX := hid (And.intro hb0 (And.intro p0 (And.intro p1 (And.intro (he.below hb0 nl) (hes.below hb0 nl)))))
 have HN := hid (And.intro hk1 (And.intro hk2 hnums))
 clear hb0 p0 p1 he hes hv hk1 hk2 hnums
 go_enter Tryz.func21, Tryz.ntmps21
 go_upto_region 1 with fail
 generalize ((w.alloc (.cells #[.int .i64 r.k, .int .u64 r.t, .int .u64 r.x, .int .u64 r.w, .int .u64 r.n, .int .u64 r.v, .int .i64 k0, .int .u64 (k1 : Nat), .int .u64 (k2 : Nat), .slice k3 k4 k5, .slice k6 r.es.length k7] 47)).alloc (.cells #[.int .i64 0, .int .u64 0, .int .u64 0, .int .u64 0, .int .u64 0, .int .u64 0, .int .i64 0, .int .u64 0, .int .u64 0, .slice none 0 0, .slice none 0 0] 47)) = X at HX ⊢
 have hlX : w.heap.size + 1 < X.heap.size := (Array.getElem?_eq_some_iff.1 HX.out.2.2.1).1
 have hl0 : w.heap.size < X.heap.size := by omega
 have c6 : X.cell? ⟨w.heap.size, 6, none⟩ = some (.int .i64 k0) := by rw [cell_of_row X _ 6 _ _ _ HX.out.2.1]; rfl
 have f6 : X.frozen? ⟨w.heap.size, 6, none⟩ = false := by rw [frozen_of_row X _ 6 _ _ HX.out.2.1]
 have c7 : X.cell? ⟨w.heap.size, 7, none⟩ = some (.int .u64 (k1 : Nat)) := by rw [cell_of_row X _ 7 _ _ _ HX.out.2.1]; rfl
 have f7 : X.frozen? ⟨w.heap.size, 7, none⟩ = false := by rw [frozen_of_row X _ 7 _ _ HX.out.2.1]
 have c8 : X.cell? ⟨w.heap.size, 8, none⟩ = some (.int .u64 (k2 : Nat)) := by rw [cell_of_row X _ 8 _ _ _ HX.out.2.1]; rfl
 have f8 : X.frozen? ⟨w.heap.size, 8, none⟩ = false := by rw [frozen_of_row X _ 8 _ _ HX.out.2.1]
 have c9 : X.cell? ⟨w.heap.size, 9, none⟩ = some (.slice k3 k4 k5) := by rw [cell_of_row X _ 9 _ _ _ HX.out.2.1]; rfl
 have f9 : X.frozen? ⟨w.heap.size, 9, none⟩ = false := by rw [frozen_of_row X _ 9 _ _ HX.out.2.1]
 have c10 : X.cell? ⟨w.heap.size, 10, none⟩ = some (.slice k6 r.es.length k7) := by rw [cell_of_row X _ 10 _ _ _ HX.out.2.1]; rfl
 have f10 : X.frozen? ⟨w.heap.size, 10, none⟩ = false := by rw [frozen_of_row X _ 10 _ _ HX.out.2.1]
 go_region_law (first
  | (go_simp; go_at_call 57; refine (uU r.p.depth S own r.p _ _ nl (by omega) (by omega) (HX.out.2.2.2.1.below br.drew nl)).mono ?_; rintro e w1 ⟨⟨v', rfl, hv'⟩, hb1⟩; have d6 := (hb1.cell (p := ⟨w.heap.size, 6, none⟩) hl0).trans c6; have g6 := (hb1.frozen (p := ⟨w.heap.size, 6, none⟩) hl0).trans f6; have d7 := (hb1.cell (p := ⟨w.heap.size, 7, none⟩) hl0).trans c7; have g7 := (hb1.frozen (p := ⟨w.heap.size, 7, none⟩) hl0).trans f7; have d8 := (hb1.cell (p := ⟨w.heap.size, 8, none⟩) hl0).trans c8; have g8 := (hb1.frozen (p := ⟨w.heap.size, 8, none⟩) hl0).trans f8; have d9 := (hb1.cell (p := ⟨w.heap.size, 9, none⟩) hl0).trans c9; have g9 := (hb1.frozen (p := ⟨w.heap.size, 9, none⟩) hl0).trans f9; have d10 := (hb1.cell (p := ⟨w.heap.size, 10, none⟩) hl0).trans c10; have g10 := (hb1.frozen (p := ⟨w.heap.size, 10, none⟩) hl0).trans f10; obtain ⟨q0, q1, q2, q3, q4, q5, rfl⟩ := hv'.conc; have hl1 : w.heap.size < w1.heap.size := (by have := hb1.size; have h : X.heap.size ≤ w1.heap.size := this; omega))
  | (go_simp; go_at_call 58; refine (mV S own r.es _ _ (HX.out.2.2.2.2.below ((Below.refl X.heap.size X).drew.trans hb1) nl) (by omega)).mono ?_; rintro e w2 ⟨v2, rfl, hown2, hb2⟩; have e6 := (hb2.cell (p := ⟨w.heap.size, 6, none⟩) hl1).trans d6; have h6 := (hb2.frozen (p := ⟨w.heap.size, 6, none⟩) hl1).trans g6; have e7 := (hb2.cell (p := ⟨w.heap.size, 7, none⟩) hl1).trans d7; have h7 := (hb2.frozen (p := ⟨w.heap.size, 7, none⟩) hl1).trans g7; have e8 := (hb2.cell (p := ⟨w.heap.size, 8, none⟩) hl1).trans d8; have h8 := (hb2.frozen (p := ⟨w.heap.size, 8, none⟩) hl1).trans g8; have e9 := (hb2.cell (p := ⟨w.heap.size, 9, none⟩) hl1).trans d9; have h9 := (hb2.frozen (p := ⟨w.heap.size, 9, none⟩) hl1).trans g9; have e10 := (hb2.cell (p := ⟨w.heap.size, 10, none⟩) hl1).trans d10; have h10 := (hb2.frozen (p := ⟨w.heap.size, 10, none⟩) hl1).trans g10; obtain ⟨sa, sc, rfl⟩ := ag hown2))
 all_goals
  have hz1 : X.heap.size ≤ w1.heap.size := hb1.size
  have hz2 := hb2.size
  have hb02 : Below X.heap.size X w2 := ((Below.refl X.heap.size X).drew.trans hb1).trans (hb2.mono hz1)
  have hs := uV (B := 0) (v0 := (.int .i64 q0)) (v1 := (.int .u64 (q1 : Nat))) (v2 := (.int .u64 (q2 : Nat))) (v3 := (.slice q3 q4 q5)) (v4 := (.slice sa r.es.length sc)) ((hb02.block _ hl0).trans HX.out.2.1) (HX.out.1.trans (hb02.mono (by omega)))
  have HS : Hid ((((((w2.setCell ⟨w.heap.size, 6, none⟩ (.int .i64 q0)).setCell ⟨w.heap.size, 7, none⟩ (.int .u64 (q1 : Nat))).setCell ⟨w.heap.size, 8, none⟩ (.int .u64 (q2 : Nat))).setCell ⟨w.heap.size, 9, none⟩ (.slice q3 q4 q5)).setCell ⟨w.heap.size, 10, none⟩ (.slice sa r.es.length sc)).heap[w.heap.size]? = some (.cells #[.int .i64 r.k, .int .u64 r.t, .int .u64 r.x, .int .u64 r.w, .int .u64 r.n, .int .u64 r.v, .int .i64 q0, .int .u64 (q1 : Nat), .int .u64 (q2 : Nat), .slice q3 q4 q5, .slice sa r.es.length sc] 47 (0, 0)) ∧ (((((w2.setCell ⟨w.heap.size, 6, none⟩ (.int .i64 q0)).setCell ⟨w.heap.size, 7, none⟩ (.int .u64 (q1 : Nat))).setCell ⟨w.heap.size, 8, none⟩ (.int .u64 (q2 : Nat))).setCell ⟨w.heap.size, 9, none⟩ (.slice q3 q4 q5)).setCell ⟨w.heap.size, 10, none⟩ (.slice sa r.es.length sc)).heap[w.heap.size + 1]? = some (.cells #[.int .i64 0, .int .u64 0, .int .u64 0, .int .u64 0, .int .u64 0, .int .u64 0, .int .i64 0, .int .u64 0, .int .u64 0, .slice none 0 0, .slice none 0 0] 47 (0, 0)) ∧ Below w.heap.size w (((((w2.setCell ⟨w.heap.size, 6, none⟩ (.int .i64 q0)).setCell ⟨w.heap.size, 7, none⟩ (.int .u64 (q1 : Nat))).setCell ⟨w.heap.size, 8, none⟩ (.int .u64 (q2 : Nat))).setCell ⟨w.heap.size, 9, none⟩ (.slice q3 q4 q5)).setCell ⟨w.heap.size, 10, none⟩ (.slice sa r.es.length sc)) ∧ av (((((w2.setCell ⟨w.heap.size, 6, none⟩ (.int .i64 q0)).setCell ⟨w.heap.size, 7, none⟩ (.int .u64 (q1 : Nat))).setCell ⟨w.heap.size, 8, none⟩ (.int .u64 (q2 : Nat))).setCell ⟨w.heap.size, 9, none⟩ (.slice q3 q4 q5)).setCell ⟨w.heap.size, 10, none⟩ (.slice sa r.es.length sc)) (fun b => X.heap.size ≤ b) true r.p (.agg #[.int .i64 q0, .int .u64 (q1 : Nat), .int .u64 (q2 : Nat), .slice q3 q4 q5]) ∧ bZ (((((w2.setCell ⟨w.heap.size, 6, none⟩ (.int .i64 q0)).setCell ⟨w.heap.size, 7, none⟩ (.int .u64 (q1 : Nat))).setCell ⟨w.heap.size, 8, none⟩ (.int .u64 (q2 : Nat))).setCell ⟨w.heap.size, 9, none⟩ (.slice q3 q4 q5)).setCell ⟨w.heap.size, 10, none⟩ (.slice sa r.es.length sc)) (fun b => X.heap.size ≤ b) true r.es (.slice sa r.es.length sc)) := hid ⟨hs.1, (hs.2.2 _ (by omega)).trans ((hb02.block _ (by omega)).trans HX.out.2.2.1), hs.2.1, av.keep (fun b hb _ => (hs.2.2 b (by have hb : X.heap.size ≤ b := hb; omega)).trans (hb2.block b (by assumption))) (fun b _ hb => hb) hv', Sl.keep (Sl.of_owns hown2 (by omega)) (by omega) (fun b hb _ => hs.2.2 b (by have := hb.2; omega)) (fun b _ hb => by have := hb.2; show X.heap.size ≤ b; omega)⟩
  clear hs hv' hown2 hb1 hb2 hb02 c6 c7 c8 c9 c10 f6 f7 f8 f9 f10 d6 d7 d8 d9 d10 g6 g7 g8 g9 g10 e6 e7 e8 e9 e10 h6 h7 h8 h9 h10
  go_upto_region 2 with fail
  generalize (((((w2.setCell ⟨w.heap.size, 6, none⟩ (.int .i64 q0)).setCell ⟨w.heap.size, 7, none⟩ (.int .u64 (q1 : Nat))).setCell ⟨w.heap.size, 8, none⟩ (.int .u64 (q2 : Nat))).setCell ⟨w.heap.size, 9, none⟩ (.slice q3 q4 q5)).setCell ⟨w.heap.size, 10, none⟩ (.slice sa r.es.length sc)) = w3 at HS ⊢
  have r0 := HS.out.1
  have r1 := HS.out.2.1
  have x0 : w3.cell? ⟨w.heap.size, 0, none⟩ = some (.int .i64 r.k) := by rw [cell_of_row w3 _ 0 _ _ _ r0]; rfl
  have x1 : w3.cell? ⟨w.heap.size, 1, none⟩ = some (.int .u64 r.t) := by rw [cell_of_row w3 _ 1 _ _ _ r0]; rfl
  have x2 : w3.cell? ⟨w.heap.size, 2, none⟩ = some (.int .u64 r.x) := by rw [cell_of_row w3 _ 2 _ _ _ r0]; rfl
  have x3 : w3.cell? ⟨w.heap.size, 3, none⟩ = some (.int .u64 r.w) := by rw [cell_of_row w3 _ 3 _ _ _ r0]; rfl
  have x4 : w3.cell? ⟨w.heap.size, 4, none⟩ = some (.int .u64 r.n) := by rw [cell_of_row w3 _ 4 _ _ _ r0]; rfl
  have x5 : w3.cell? ⟨w.heap.size, 5, none⟩ = some (.int .u64 r.v) := by rw [cell_of_row w3 _ 5 _ _ _ r0]; rfl
  have x6 : w3.cell? ⟨w.heap.size, 6, none⟩ = some (.int .i64 q0) := by rw [cell_of_row w3 _ 6 _ _ _ r0]; rfl
  have x7 : w3.cell? ⟨w.heap.size, 7, none⟩ = some (.int .u64 (q1 : Nat)) := by rw [cell_of_row w3 _ 7 _ _ _ r0]; rfl
  have x8 : w3.cell? ⟨w.heap.size, 8, none⟩ = some (.int .u64 (q2 : Nat)) := by rw [cell_of_row w3 _ 8 _ _ _ r0]; rfl
  have x9 : w3.cell? ⟨w.heap.size, 9, none⟩ = some (.slice q3 q4 q5) := by rw [cell_of_row w3 _ 9 _ _ _ r0]; rfl
  have x10 : w3.cell? ⟨w.heap.size, 10, none⟩ = some (.slice sa r.es.length sc) := by rw [cell_of_row w3 _ 10 _ _ _ r0]; rfl
  clear r0
  go_wp2_with (refine wpList_store_row rfl 47 (.tmp 2) (.tmp 11) rfl rfl (w.heap.size + 1) rfl _ rfl 47 _ r1 (by kernel_rfl) rfl (by simp [Value.oneCell']) ?_)
  have hk : bB (fun b => X.heap.size ≤ b) w3 (w3.setRow (w.heap.size + 1) #[.int .i64 r.k, .int .u64 r.t, .int .u64 r.x, .int .u64 r.w, .int .u64 r.n, .int .u64 r.v, .int .i64 q0, .int .u64 (q1 : Nat), .int .u64 (q2 : Nat), .slice q3 q4 q5, .slice sa r.es.length sc]) := fun b hb _ => setRow_other _ _ _ _ (by have hb : X.heap.size ≤ b := hb; omega)
  refine bodyPost_ret (v := .agg #[.int .i64 r.k, .int .u64 r.t, .int .u64 r.x, .int .u64 r.w, .int .u64 r.n, .int .u64 r.v, .int .i64 q0, .int .u64 (q1 : Nat), .int .u64 (q2 : Nat), .slice q3 q4 q5, .slice sa r.es.length sc]) (results_cell_row rfl _ _ (w.heap.size + 1) 47 _ _ _ rfl (setRow_heap _ _ _ _ _ _ r1) Tryz.underlying47 rfl (by kernel_rfl)) rfl
   ⟨⟨_, rfl, _, _, _, _, _, rfl, HN.out.1, HN.out.2.1, HN.out.2.2, av.keep hk (fun b _ hb => by have hb : X.heap.size ≤ b := hb; show w.heap.size ≤ b; omega) HS.out.2.2.2.1, bZ.keep HS.out.2.2.2.2 hk (fun b _ hb => by have hb : X.heap.size ≤ b := hb; show w.heap.size ≤ b; omega)⟩, below_setRow HS.out.2.2.1 _ _ (by omega)⟩
end Go.Proofs.YtmgbhhmipmgcpaaGreatDoor
