/- The examples of chapter 28 hold, wherever the library's variables are as laid. -/
import Derived.Test.YtagnalfkmdjajaaGreatDoorY10
import Derived.Test.YtagnalfkmdjajaaGreatDoorY23
import Derived.Deep.Cut
set_option maxHeartbeats 8000000
set_option maxRecDepth 100000
namespace Go.Proofs.YtagnalfkmdjajaaGreatDoor
open Go.RowKit Go
set_option linter.unusedVariables false
set_option linter.unusedSimpArgs false
theorem qQ (n : Int) (h0 : 0 ≤ n) (h1 : n ≤ 9223372036854775807) (w : World) (hL : Lq w.heap.size w) : Calls Tryz.prog 33 #[.int .i64 n] w fun e w' => e = .returned (.string ⟨(Lib.decDigits n.toNat).toArray⟩) ∧ Below w.heap.size w w' := by
 refine (Tryz.strconv_Itoa n (by omega) h1 w hL.lv.tab).mono fun e w' => ?_
 rintro ⟨rfl, k, os, rfl⟩
 exact ⟨by rw [kN h0], Lib.below_grow _ _ nl _ _⟩
theorem uu (w : World) : Calls Tryz.prog 32 #[] w fun e w' => e = .returned (.agg #[.string ⟨#[]⟩, .string ⟨(ah 1).toArray⟩, .string ⟨(ah 2).toArray⟩, .string ⟨(ah 3).toArray⟩, .string ⟨(ah 4).toArray⟩]) ∧ Below w.heap.size w w' := by
 go_enter Tryz.func32, Tryz.ntmps32
 go_wp2_with fail
 exact bodyPost_ret (v := .agg #[.string ⟨#[]⟩, .string ⟨(ah 1).toArray⟩, .string ⟨(ah 2).toArray⟩, .string ⟨(ah 3).toArray⟩, .string ⟨(ah 4).toArray⟩]) (by simp [results, Tryz.results32, go_sem]; exact ⟨rfl, rfl, rfl, rfl⟩) rfl ⟨rfl, br.alloc nl _⟩
theorem CQ (k : Int) (hk : k = 1 ∨ k = 2 ∨ k = 3 ∨ k = 4) (W : World) : (Instr.index 73 (.agg #[.string ⟨#[]⟩, .string ⟨(ah 1).toArray⟩, .string ⟨(ah 2).toArray⟩, .string ⟨(ah 3).toArray⟩, .string ⟨(ah 4).toArray⟩]) (.int .i64 k)).run Tryz.prog W = .ok (.string ⟨(ah k).toArray⟩) W := by
 rcases hk with rfl | rfl | rfl | rfl <;> kernel_rfl
def Crt.parts0 (c : Crt) : List (List UInt8) := ah c.k :: (if aR c.k then [Lib.decDigits c.p.toNat, Lib.decDigits c.q.toNat] else [])
theorem Crt.parts_eq (c : Crt) : c.parts = c.parts0 ++ c.o.map (fun n => Lib.decDigits n.toNat) ++ bg c.w := by simp [Crt.parts, Crt.parts0]
theorem kS {w : World} {g n : Nat} {cs : Array Value} {T : TypeId} (hg : w.heap[g]? = some (.cells cs T (0, 0))) (hn : cs.size = n) (h : n ≤ 1000) : Sl w (fun b => b = g) true 1 n cs.toList (.slice (some ⟨g, 0, none⟩) n n) := by
 refine ⟨by simp [hn], by omega, _, _, rfl, Nat.le_refl _, fun _ => ⟨_, _, rfl, rfl, fun j hj => ?_⟩⟩
 have hj2 : j < cs.size := by simpa using hj
 rw [cell_of_row _ _ (0 + j) cs T (0, 0) hg, frozen_of_row _ _ (0 + j) cs T hg]
 simp [hj2]
theorem aL.rows {w : World} {S : Nat → Prop} {own : Bool} {c : Crt} {ov wv a b d : Value} (h : aL w S own c (.agg #[a, ov, b, d, wv])) : bn w S own c.o ov ∧ aX w S own c.w wv := by
 obtain ⟨ov', wv', e, h1, h2⟩ := h
 simp only [Value.agg.injEq, Array.mk.injEq, List.cons.injEq, and_true] at e
 obtain ⟨_, rfl, _, _, rfl⟩ := e
 exact ⟨h1, h2⟩
theorem kv (l : List Ed) : (bg l).length ≤ 2 * l.length := by
 have : ∀ (l : List Ed) (k : Nat), ((l.zipIdx k).flatMap fun x => ek x.1 x.2).length ≤ 2 * l.length := by
  intro l
  induction l with
  | nil => intro k; simp
  | cons e l ih =>
   intro k
   have h2 : (ek e k).length ≤ 2 := by unfold ek; split <;> simp
   have := ih (k + 1)
   simp only [List.zipIdx_cons, List.flatMap_cons, List.length_append, List.length_cons]
   omega
 exact this l 0
theorem oF {l : List Ed} (hn : ∀ e ∈ l, e.nums) : ∀ x ∈ bg l, x.length ≤ 200 := by
 intro x hx
 unfold bg at hx
 obtain ⟨⟨e, i⟩, he, hx⟩ := List.mem_flatMap.1 hx
 have hm : e ∈ l := by have := List.mem_zipIdx he; rw [this.2.2]; exact List.getElem_mem _
 have ht := Ed.text_len (hn e hm)
 unfold ek at hx
 split at hx
 ·simp only [List.mem_cons, List.not_mem_nil, or_false] at hx; subst hx; exact ht
 ·simp only [List.mem_cons, List.not_mem_nil, or_false] at hx
  rcases hx with rfl | rfl
  ·simp
  ·exact ht
theorem Crt.parts_mem {c : Crt} (hn : c.nums) : ∀ x ∈ c.parts, x.length ≤ 200 := by
 intro x hx
 obtain ⟨n1, n2, n3, n4, n5⟩ := hn
 unfold i64 at n1 n2 n3
 unfold Crt.parts at hx
 simp only [List.mem_cons, List.mem_append, List.mem_map] at hx
 rcases hx with rfl | (hx | ⟨n, hm, rfl⟩) | hx
 ·unfold ah; split <;> (try split) <;> (try split) <;> simp
 ·split at hx
  ·simp only [List.mem_cons, List.not_mem_nil, or_false] at hx
   rcases hx with rfl | rfl
   ·have := aH c.p.toNat (by omega); omega
   ·have := aH c.q.toNat (by omega); omega
  ·cases hx
 ·have := n4 n hm; unfold i64 at this; have := aH n.toNat (by omega); omega
 ·exact oF n5 x hx
theorem Crt.parts_len {c : Crt} (hn : c.nums) (h1 : c.o.length ≤ 10000) (h2 : c.w.length ≤ 10000) : c.parts.length ≤ 1000000 := by
 have := kv c.w
 unfold Crt.parts
 split <;> simp <;> omega
theorem Crt.told_len {c : Crt} (hn : c.nums) (h1 : c.o.length ≤ 10000) (h2 : c.w.length ≤ 10000) : (Lib.join c.parts [32]).length ≤ 140737488355328 := by
 have h := uZ [32] c.parts 200 1 (Crt.parts_mem hn) (by simp)
 have := Crt.parts_len hn h1 h2
 omega
theorem aT (S : Nat → Prop) (own : Bool) (c : Crt) (v : Value) (w : World) (h : aL w S own c v) (hn : c.nums) (hlo : c.o.length ≤ 10000 ∨ c.right = false) (hl : c.w.length ≤ 10000) (hL : Lq w.heap.size w) : Calls Tryz.prog 9 #[v] w fun e w' => e = .returned (.string ⟨c.text.toArray⟩) ∧ Below w.heap.size w w' := by
 obtain ⟨i0, hi0, hz0, hz1, hz2⟩ := info_parts zZ
 obtain ⟨ad, cp, ad', cp', rfl, ho, hv, _, _, k1, k2⟩ := h.shape
 clear h
 have hb0 : Below w.heap.size w (w.alloc (.cells #[.int .i64 c.k, .slice ad c.o.length cp, .int .i64 c.p, .int .i64 c.q, .slice ad' c.w.length cp'] 25)) := br.alloc nl _
 have hz0' : (w.alloc (.cells #[.int .i64 c.k, .slice ad c.o.length cp, .int .i64 c.p, .int .i64 c.q, .slice ad' c.w.length cp'] 25)).heap.size = w.heap.size + 1 := World.size_alloc _ _
 have hrep : aL (w.alloc (.cells #[.int .i64 c.k, .slice ad c.o.length cp, .int .i64 c.p, .int .i64 c.q, .slice ad' c.w.length cp'] 25)) S own c (.agg #[.int .i64 c.k, .slice ad c.o.length cp, .int .i64 c.p, .int .i64 c.q, .slice ad' c.w.length cp']) := ⟨_, _, rfl, ho.below hb0 nl, hv.below hb0 nl⟩
 have hLq := (hL.below hb0).mono hb0.size
 have HR := hid (bT S own c _ _ hrep hn.2.2.2.2 hLq)
 have HV := hid (And.intro hrep (And.intro hb0 (And.intro (heap_alloc_new w (.cells #[.int .i64 c.k, .slice ad c.o.length cp, .int .i64 c.p, .int .i64 c.q, .slice ad' c.w.length cp'] 25)) (And.intro hz0' hLq))))
 clear ho hv hb0 hz0' hL hrep hLq
 cases hr : c.right with
 | false =>
  rw [hr] at HR
  have HE : Hid ((⟨#[]⟩ : ByteArray) = ⟨c.text.toArray⟩) := hid (by unfold Crt.text; rw [hr]; rfl)
  clear hr
  go_enter Tryz.func9, Tryz.ntmps9
  go_wp2_with fail
  refine HR.out.mono ?_
  rintro e w1 ⟨rfl, hb1⟩
  go_wp2_with fail
  go_ret
  exact ⟨by rw [← HE.out]; rfl, HV.out.2.1.trans (hb1.mono HV.out.2.1.size)⟩
 | true =>
  rw [hr] at HR
  have hlo1 : c.o.length ≤ 10000 := by rcases hlo with h | h; exact h; rw [hr] at h; cases h
  have HE0 : Hid (Lib.join c.parts [32] = c.text) := hid (by unfold Crt.text; rw [hr]; rfl)
  have HN := hid (And.intro hn (Crt.nil_of hr))
  clear hr hn hlo
  go_enter Tryz.func9, Tryz.ntmps9
  go_wp2_with fail
  refine HR.out.mono ?_
  rintro e w1 ⟨rfl, hb1⟩
  obtain ⟨r1, r2, r3, r4, r5⟩ := HV.out
  have hs1 := hb1.size
  have hc1 : w1.heap[w.heap.size]? = some (.cells #[.int .i64 c.k, .slice ad c.o.length cp, .int .i64 c.p, .int .i64 c.q, .slice ad' c.w.length cp'] 25 (0, 0)) := (hb1.block _ (by omega)).trans r3
  have d0 : w1.cell? ⟨w.heap.size, 0, none⟩ = some (.int .i64 c.k) := by rw [cell_of_row w1 _ 0 _ _ _ hc1]; rfl
  have hcl : w.heap.size < w1.heap.size := by omega
  have H1 := hid (And.intro (r2.trans (hb1.mono r2.size)) (And.intro (r1.below hb1 nl) (And.intro hc1 ((r5.below hb1).mono hs1))))
  clear r1 r2 r3 r4 r5 hb1 hc1
  go_upto_region 3 with fail
  go_cut [3] from 11 to 15 (fun sv wx => wx.ownsRow w1.heap.size 9 1 sv 1 (strs [ah c.k]) ∧ Below w1.heap.size w1 wx)
  case first =>
   have hk : c.k = 1 ∨ c.k = 2 ∨ c.k = 3 ∨ c.k = 4 := by have := HN.out.2.2.2.2; omega
   have hi := CQ c.k hk
   clear hk
   go_region_held3 (fun w' => w'.cell? ⟨w.heap.size, 0, none⟩ = some (.int .i64 c.k)) (first | exact (hb2.cell (p := ⟨w.heap.size, 0, none⟩) hcl).trans d0 | go_keep) (first | (go_at_call 32; refine (uu _).mono ?_; rintro e w2 ⟨rfl, hb2⟩) | fail)
   have HZ := hid (show (w2.alloc (.cells #[.string ⟨(ah c.k).toArray⟩] 9)).ownsRow w1.heap.size 9 1 (.slice (some ⟨w2.heap.size, 0, none⟩) 1 1) 1 (strs [ah c.k]) ∧ Below w1.heap.size w1 (w2.alloc (.cells #[.string ⟨(ah c.k).toArray⟩] 9)) from
    have hb : Below w1.heap.size w1 w2 := br.drew.trans hb2
    ⟨ownsRow_lit w2 w1.heap.size #[.string ⟨(ah c.k).toArray⟩] 9 hb.size (by simp), hb.alloc hb.size _⟩)
   go_simp
   (try (go_wp2_with fail))
   go_meet
   exact HZ.out
  obtain ⟨hown, hbc⟩ := hcut
  have hsc := hbc.size
  have hcc := (hbc.block w.heap.size hcl).trans H1.out.2.2.1
  have d0 : wc.cell? ⟨w.heap.size, 0, none⟩ = some (.int .i64 c.k) := by rw [cell_of_row wc _ 0 _ _ _ hcc]; rfl
  have d2 : wc.cell? ⟨w.heap.size, 2, none⟩ = some (.int .i64 c.p) := by rw [cell_of_row wc _ 2 _ _ _ hcc]; rfl
  have d3 : wc.cell? ⟨w.heap.size, 3, none⟩ = some (.int .i64 c.q) := by rw [cell_of_row wc _ 3 _ _ _ hcc]; rfl
  have HC := hid (And.intro hown hbc)
  have hclc : w.heap.size < wc.heap.size := by omega
  clear hown hbc hcc
  go_upto_region 4 with fail
  go_cut [23] from 16 to 22 (fun v wx => v = .bool (aR c.k) ∧ wx = wc)
  case first =>
   by_cases h2 : c.k = 2
   ·have t2 : (c.k == 2) = true := by simp [h2]
    have HS : Hid (aR c.k = true) := hid (by simp [aR, h2])
    clear h2
    go_wp2_with fail
    go_meet
    exact ⟨by rw [HS.out], rfl⟩
   ·have t2 : (c.k == 2) = false := by simp [h2]
    have HS : Hid (aR c.k = (c.k == 3)) := hid (by simp [aR, h2])
    clear h2
    generalize hb3 : (c.k == 3) = b3 at HS
    cases b3 <;> (go_wp2_with fail; go_meet; exact ⟨by rw [HS.out], rfl⟩)
  obtain ⟨rfl, rfl⟩ := hcut
  obtain ⟨sa, sc, rfl⟩ := ag HC.out.1
  have HQ := hid ((H1.out.2.2.2.below HC.out.2).mono HC.out.2.size)
  generalize hsp : aR c.k = sp
  have HSP := hid hsp
  clear hsp
  go_upto_if 23 with fail
  go_cut [3] from 24 to 32 (fun sv wx => wx.ownsRow w1.heap.size 9 1 sv c.parts0.length (strs c.parts0) ∧ Below w1.heap.size w1 wx)
  case first =>
   cases sp with
   | false =>
    have HP0 : Hid (c.parts0 = [ah c.k]) := hid (by unfold Crt.parts0; rw [HSP.out]; rfl)
    go_wp2_with fail
    go_meet
    rw [HP0.out]
    exact ⟨HC.out.1, HC.out.2⟩
   | true =>
    have HP0 : Hid (c.parts0 = [ah c.k] ++ [Lib.decDigits c.p.toNat, Lib.decDigits c.q.toNat]) := hid (by unfold Crt.parts0; rw [HSP.out]; rfl)
    go_upto_region 5 with fail
    have e2 : w1.cell? ⟨w.heap.size, 2, none⟩ = some (.int .i64 c.p) := by rw [cell_of_row w1 _ 2 _ _ _ H1.out.2.2.1]; rfl
    have e3 : w1.cell? ⟨w.heap.size, 3, none⟩ = some (.int .i64 c.q) := by rw [cell_of_row w1 _ 3 _ _ _ H1.out.2.2.1]; rfl
    have hbW : Below wc.heap.size wc wc := br
    have g1 : 0 ≤ c.p := by have := HN.out.2.2.2.2.2.2.1; omega
    have g2 : c.p ≤ 9223372036854775807 := HN.out.1.2.1.2
    have g3 : 0 ≤ c.q := by have := HN.out.2.2.2.2.2.2.2.1; omega
    have g4 : c.q ≤ 9223372036854775807 := HN.out.1.2.2.1.2
    have HPC := hid (fun W (hL : Lq W.heap.size W) => qQ c.p g1 g2 W hL)
    have HQC := hid (fun W (hL : Lq W.heap.size W) => qQ c.q g3 g4 W hL)
    have HJ := hid (show strs [Lib.decDigits c.p.toNat, Lib.decDigits c.q.toNat] = [.string ⟨(Lib.decDigits c.p.toNat).toArray⟩, .string ⟨(Lib.decDigits c.q.toNat).toArray⟩] from rfl)
    generalize (⟨(Lib.decDigits c.p.toNat).toArray⟩ : ByteArray) = DP at HPC HJ
    generalize (⟨(Lib.decDigits c.q.toNat).toArray⟩ : ByteArray) = DQ at HQC HJ
    clear g1 g2 g3 g4
    go_region_held3 (fun w' => w'.cell? ⟨w.heap.size, 2, none⟩ = some (.int .i64 c.p) ∧ w'.cell? ⟨w.heap.size, 3, none⟩ = some (.int .i64 c.q)) (first | exact ⟨(hbW.cell (p := ⟨w.heap.size, 2, none⟩) hclc).trans d2, (hbW.cell (p := ⟨w.heap.size, 3, none⟩) hclc).trans d3⟩ | exact ⟨(hB4.cell (p := ⟨w.heap.size, 2, none⟩) hcl).trans e2, (hB4.cell (p := ⟨w.heap.size, 3, none⟩) hcl).trans e3⟩ | go_keep) (first
     | (go_at_call 33; (first | go_fit (HPC.out _ ((HQ.out.below hbW).mono hbW.size)) | go_fit (HPC.out _ ((HQ.out.below hbW.drew).mono hbW.drew.size)) | go_fit (HQC.out _ ((HQ.out.below hbW).mono hbW.size)) | go_fit (HQC.out _ ((HQ.out.below hbW.drew).mono hbW.drew.size))); rintro e w2 ⟨rfl, hbx⟩; replace hbW : Below wc.heap.size wc w2 := (by first | exact hbW.trans (hbx.mono hbW.size) | exact hbW.drew.trans (hbx.mono hbW.drew.size)); clear hbx)
     | (refine iC _ (by rfl) (.tmp 24) (.tmp 31) 55 (by rfl) w1.heap.size 9 i0 _ 1 16 Tryz.underlying55 hi0 hz0 hz1 hz2 rfl (by omega) (.slice sa 1 sc) 1 (strs [ah c.k]) (by rfl) ((ownsRow_below HC.out.1 hbW nl).alloc _) _ _ 2 [.string DP, .string DQ] _ (by rfl) (eD _ #[.string DP, .string DQ] 9 2 rfl (by omega)) (by simp [Value.oneCell']) (by unfold maxLen; omega) (by omega) (by have := hbW.size; have := HC.out.2.size; simp; omega) ?_; intro v4 w4 hown4 hgrow4 hat4; have hB4 : Below w1.heap.size w1 w4 := (((HC.out.2.trans (hbW.mono HC.out.2.size)).alloc (by have := hbW.size; have := HC.out.2.size; omega) _).grown hgrow4 (by have := hbW.size; have := HC.out.2.size; simp; omega) (fun k hk => (HC.out.1.lt k hk).1)))
     | fail)
    all_goals
     have hlo := HC.out.1.lt
     have hsz := HC.out.2.size
     have hsW := hbW.size
     have HZ := hid (show w4.ownsRow w1.heap.size 9 1 v4 c.parts0.length (strs c.parts0) ∧ Below w1.heap.size w1 w4 from
      ⟨by rw [HP0.out, dF, HJ.out]; simpa using hown4, hB4⟩)
     clear hown4 hgrow4 hat4 hlo hbW hB4
     go_simp
     (try (go_wp2_with fail))
     go_meet
     exact HZ.out
  obtain ⟨hown, hbc⟩ := hcut
  have hs0 := hbc.size
  have hcc := (hbc.block w.heap.size hcl).trans H1.out.2.2.1
  have u1 : wc.cell? ⟨w.heap.size, 1, none⟩ = some (.slice ad c.o.length cp) := by rw [cell_of_row wc _ 1 _ _ _ hcc]; rfl
  have HO := hid (And.intro hown hbc)
  have hp0 : c.parts0.length ≤ 3 := by unfold Crt.parts0; split <;> simp
  clear hown hbc hcc d0 d2 d3 hclc HC HQ
  go_wp2_with fail
  go_loopw [3, 36] (fun sv i wr => ∃ j : Nat, j ≤ c.o.length ∧ i = .int .i64 j ∧ Hid (wr.ownsRow w1.heap.size 9 1 sv (c.parts0 ++ (c.o.take j).map (fun n => Lib.decDigits n.toNat)).length (strs (c.parts0 ++ (c.o.take j).map (fun n => Lib.decDigits n.toNat))) ∧ Below w1.heap.size w1 wr)) (fun _ i _ => c.o.length - (intOf i).toNat)
  case atStart => exact ⟨0, by omega, rfl, hid ⟨by simpa using HO.out.1, HO.out.2⟩⟩
  case round =>
   clear HO u1
   obtain ⟨j, hj, rfl, HQ⟩ := hrel
   by_cases hlt : j < c.o.length
   ·obtain ⟨bl, off, rfl, _, hbl, hcell⟩ := (aL.rows H1.out.2.1).1.cell (by omega)
    have g : wr.cell? ⟨bl, off + j, none⟩ = some (.int .i64 c.o[j]) := (HQ.out.2.cell (p := ⟨bl, off + j, none⟩) hbl).trans (hcell j hlt).1
    have h0 := HN.out.2.2.2.2.2.2.2.2.1 c.o[j] (List.getElem_mem hlt)
    have h1 := (HN.out.1.2.2.2.1 c.o[j] (List.getElem_mem hlt)).2
    have hsz := HQ.out.2.size
    have HT : Hid (c.parts0 ++ (c.o.take (j + 1)).map (fun n => Lib.decDigits n.toNat) = c.parts0 ++ (c.o.take j).map (fun n => Lib.decDigits n.toNat) ++ [Lib.decDigits c.o[j].toNat]) := hid (by rw [List.take_succ_eq_append_getElem hlt, List.map_append, ← List.append_assoc]; rfl)
    have hln : (c.parts0 ++ (c.o.take j).map (fun n => Lib.decDigits n.toNat)).length ≤ 20000 := by simp; omega
    have x1 : (0 : Int) ≤ (j : Int) := by omega
    have x2 : (j : Int) < (c.o.length : Int) := by omega
    have HI := hid (qQ c.o[j] h0 h1 wr ((H1.out.2.2.2.below HQ.out.2).mono hsz))
    have HDS : Hid (strs [Lib.decDigits c.o[j].toNat] = [.string ⟨(Lib.decDigits c.o[j].toNat).toArray⟩]) := hid rfl
    generalize (⟨(Lib.decDigits c.o[j].toNat).toArray⟩ : ByteArray) = DP at HI HDS
    generalize c.parts0 ++ (c.o.take j).map (fun n => Lib.decDigits n.toNat) = L at HQ HT hln
    obtain ⟨N, hN⟩ : ∃ N, N = L.length := ⟨_, rfl⟩
    rw [← hN] at HQ hln
    have HNL := hid hN
    obtain ⟨sa, sc, rfl⟩ := ag HQ.out.1
    clear hcell h0 h1 hN
    go_wp2_with fail
    refine HI.out.mono ?_
    rintro e w2 ⟨rfl, hb2⟩
    have hs2 := hb2.size
    have HO2 := hid (And.intro (ownsRow_below HQ.out.1 hb2 nl) (HQ.out.2.trans (hb2.mono hsz)))
    clear hb2 g
    go_wp2_with (at_builtin; go_loud (refine af _ rfl (.tmp 40) (.tmp 43) _ rfl w1.heap.size 9 i0 _ 1 16 Tryz.underlying55 hi0 hz0 hz1 hz2 rfl (by omega) _ N (strs L) rfl (HO2.out.1.alloc _) _ _ 1 [.string DP] _ rfl (eD _ #[.string DP] 9 1 rfl (by omega)) (by simp [Value.oneCell']) (by unfold maxLen; omega) (by omega) (by simp; omega) ?_); intro v' w3 hown3 hgrow hat)
    have hlo := HO2.out.1.lt
    have HN3 : Hid (w3.ownsRow w1.heap.size 9 1 v' (c.parts0 ++ (c.o.take (j + 1)).map (fun n => Lib.decDigits n.toNat)).length (strs (c.parts0 ++ (c.o.take (j + 1)).map (fun n => Lib.decDigits n.toNat))) ∧ Below w1.heap.size w1 w3) := hid (by
     rw [HT.out, dF, HDS.out, List.length_append, ← HNL.out]
     exact ⟨hown3, (HO2.out.2.alloc (by omega) _).grown hgrow (by simp; omega) (fun k hk => (hlo k hk).1)⟩)
    clear hown3 hgrow hat hlo
    go_wp2_with fail
    go_roundw
    case rel => exact ⟨j + 1, by omega, by go_num, HN3⟩
    case measure => simp [intOf]; omega
   ·have hj2 : j = c.o.length := by omega
    subst hj2
    rw [List.take_length] at HQ
    have hsz := HQ.out.2.size
    have hcc := (HQ.out.2.block w.heap.size hcl).trans H1.out.2.2.1
    have u4 : wr.cell? ⟨w.heap.size, 4, none⟩ = some (.slice ad' c.w.length cp') := by rw [cell_of_row wr _ 4 _ _ _ hcc]; rfl
    have HO := HQ
    have hlL : (c.parts0 ++ c.o.map (fun n => Lib.decDigits n.toNat)).length ≤ 10003 := by simp; omega
    have HPE := hid (Crt.parts_eq c)
    generalize c.parts0 ++ c.o.map (fun n => Lib.decDigits n.toNat) = L0 at HO HPE hlL
    clear HQ hcc hj
    go_wp2_with fail
    go_loopw [3, 49] (fun sv i wr => ∃ j : Nat, j ≤ c.w.length ∧ i = .int .i64 j ∧ Hid (wr.ownsRow w1.heap.size 9 1 sv (L0 ++ bg (c.w.take j)).length (strs (L0 ++ bg (c.w.take j))) ∧ Below w1.heap.size w1 wr)) (fun _ i _ => c.w.length - (intOf i).toNat)
    case atStart => exact ⟨0, by omega, rfl, hid ⟨by simpa [om] using HO.out.1, HO.out.2⟩⟩
    case round =>
     clear HO u4
     obtain ⟨j, hj, rfl, HQ⟩ := hrel
     by_cases hlt2 : j < c.w.length
     ·obtain ⟨bl, off, rfl, _, hbl, hcell⟩ := (aL.rows H1.out.2.1).2.cell (by omega)
      have hsz := HQ.out.2.size
      obtain ⟨⟨s0, s1, s2, s3, s4, s5, s6, s7, s8⟩, _⟩ := hcell j hlt2
      have g0 := (HQ.out.2.cell (p := ⟨bl, off + j * 9, none⟩) hbl).trans s0
      have g1 := (HQ.out.2.cell (p := ⟨bl, off + j * 9 + 1, none⟩) hbl).trans s1
      have g2 := (HQ.out.2.cell (p := ⟨bl, off + j * 9 + 2, none⟩) hbl).trans s2
      have g3 := (HQ.out.2.cell (p := ⟨bl, off + j * 9 + 3, none⟩) hbl).trans s3
      have g4 := (HQ.out.2.cell (p := ⟨bl, off + j * 9 + 4, none⟩) hbl).trans s4
      have g5 := (HQ.out.2.cell (p := ⟨bl, off + j * 9 + 5, none⟩) hbl).trans s5
      have g6 := (HQ.out.2.cell (p := ⟨bl, off + j * 9 + 6, none⟩) hbl).trans s6
      have g7 := (HQ.out.2.cell (p := ⟨bl, off + j * 9 + 7, none⟩) hbl).trans s7
      have g8 := (HQ.out.2.cell (p := ⟨bl, off + j * 9 + 8, none⟩) hbl).trans s8
      have x1 : (0 : Int) ≤ (j : Int) := by omega
      have x2 : (j : Int) < (c.w.length : Int) := by omega
      have HPT := hid (mE c.w j hlt2)
      have hln : (L0 ++ bg (c.w.take j)).length ≤ 50000 := by have := kv (c.w.take j); have h2 : (c.w.take j).length ≤ c.w.length := (by simp; omega); simp; omega
      have HE : Hid (∀ W, Below wr.heap.size wr W → Calls Tryz.prog 28 #[.agg #[.int .i64 c.w[j].a, .int .i64 c.w[j].b, .int .i64 c.w[j].k, .int .u64 (c.w[j].x : Nat), .int .u64 (c.w[j].sw : Nat), .int .u64 (c.w[j].sn : Nat), .int .u64 (c.w[j].mw : Nat), .int .u64 (c.w[j].mn : Nat), .int .i64 c.w[j].p]] W fun e w' => e = .returned (.string ⟨c.w[j].text.toArray⟩) ∧ Below W.heap.size W w') := hid (fun W hb => by
       have hd := jB (e := c.w[j]) (HN.out.1.2.2.2.2 _ (List.getElem_mem hlt2)) W (((H1.out.2.2.2.below HQ.out.2).mono hsz |>.below hb).mono hb.size)
       simp only [Ed.vals, str] at hd
       exact hd)
      have HE5G : ∀ W, Lq W.heap.size W → Calls Tryz.prog 28 #[.agg #[.int .i64 c.w[j].a, .int .i64 c.w[j].b, .int .i64 c.w[j].k, .int .u64 (c.w[j].x : Nat), .int .u64 (c.w[j].sw : Nat), .int .u64 (c.w[j].sn : Nat), .int .u64 (c.w[j].mw : Nat), .int .u64 (c.w[j].mn : Nat), .int .i64 c.w[j].p]] W fun e w' => e = .returned (.string ⟨c.w[j].text.toArray⟩) ∧ Below W.heap.size W w' := fun W hL => by
       have hd := jB (e := c.w[j]) (HN.out.1.2.2.2.2 _ (List.getElem_mem hlt2)) W hL
       simp only [Ed.vals, str] at hd
       exact hd
      have HEG := hid HE5G
      clear HE5G
      have HDS : Hid (strs [c.w[j].text] = [.string ⟨c.w[j].text.toArray⟩]) := hid rfl
      have hbe : Below wr.heap.size wr (wr.alloc (.cells #[.int .i64 c.w[j].a, .int .i64 c.w[j].b, .int .i64 c.w[j].k, .int .u64 (c.w[j].x : Nat), .int .u64 (c.w[j].sw : Nat), .int .u64 (c.w[j].sn : Nat), .int .u64 (c.w[j].mw : Nat), .int .u64 (c.w[j].mn : Nat), .int .i64 c.w[j].p] 54)) := br.alloc nl _
      have HBE := hid hbe
      clear hcell s0 s1 s2 s3 s4 s5 s6 s7 s8 hbe
      by_cases hj0 : j = 0
      ·have HT : Hid (L0 ++ bg (c.w.take (j + 1)) = L0 ++ bg (c.w.take j) ++ [c.w[j].text]) := hid (by rw [HPT.out, ← List.append_assoc]; unfold ek; rw [if_pos hj0])
       have hg0 : decide (0 < j) = false := by simp [hj0]
       generalize (⟨c.w[j].text.toArray⟩ : ByteArray) = DA at HE HEG HDS
       generalize L0 ++ bg (c.w.take j) = L at HQ HT hln
       obtain ⟨N, hN⟩ : ∃ N, N = L.length := ⟨_, rfl⟩
       rw [← hN] at HQ hln
       have HNL := hid hN
       obtain ⟨sa, sc, rfl⟩ := ag HQ.out.1
       clear hN hj0 HPT
       go_wp2_with fail
       refine (HE.out _ HBE.out).mono ?_
       rintro e w4 ⟨rfl, hb4⟩
       have hs4 := hb4.size
       (try simp only [World.size_alloc] at hs4)
       have HO4 := hid (And.intro (ownsRow_below (HQ.out.1.alloc _) hb4 nl) ((HQ.out.2.alloc (by omega) _).trans (hb4.mono (by simp; omega))))
       clear hb4
       go_wp2_with (at_builtin; go_loud (refine af _ rfl (.tmp 59) (.tmp 62) _ rfl w1.heap.size 9 i0 _ 1 16 Tryz.underlying55 hi0 hz0 hz1 hz2 rfl (by omega) _ N (strs L) rfl (HO4.out.1.alloc _) _ _ 1 [.string DA] _ rfl (eD _ #[.string DA] 9 1 rfl (by omega)) (by simp [Value.oneCell']) (by unfold maxLen; omega) (by omega) (by simp; omega) ?_); intro v' w3 hown3 hgrow hat)
       have hlo := HO4.out.1.lt
       have HN3 : Hid (w3.ownsRow w1.heap.size 9 1 v' (L0 ++ bg (c.w.take (j + 1))).length (strs (L0 ++ bg (c.w.take (j + 1)))) ∧ Below w1.heap.size w1 w3) := hid (by
        rw [HT.out, dF, HDS.out, List.length_append, ← HNL.out]
        exact ⟨hown3, (HO4.out.2.alloc (by omega) _).grown hgrow (by simp; omega) (fun k hk => (hlo k hk).1)⟩)
       clear hown3 hgrow hat hlo
       go_wp2_with fail
       go_roundw
       case rel => exact ⟨j + 1, by omega, by go_num, HN3⟩
       case measure => simp [intOf]; omega
      ·have HT : Hid (L0 ++ bg (c.w.take (j + 1)) = L0 ++ bg (c.w.take j) ++ [[59]] ++ [c.w[j].text]) := hid (by rw [HPT.out, ← List.append_assoc]; unfold ek; rw [if_neg hj0]; simp)
       have hg0 : decide (0 < j) = true := by simp; omega
       generalize (⟨c.w[j].text.toArray⟩ : ByteArray) = DA at HE HEG HDS
       generalize L0 ++ bg (c.w.take j) = L at HQ HT hln
       obtain ⟨N, hN⟩ : ∃ N, N = L.length := ⟨_, rfl⟩
       rw [← hN] at HQ hln
       have HNL := hid hN
       have HN5 : Hid ((L ++ [[59]]).length = N + 1) := hid (by rw [hN]; simp)
       obtain ⟨sa, sc, rfl⟩ := ag HQ.out.1
       clear hN hj0 HPT
       go_upto_region 16 with (at_builtin; go_loud (refine af _ rfl (.tmp 56) (.tmp 57) _ rfl w1.heap.size 9 i0 _ 1 16 Tryz.underlying55 hi0 hz0 hz1 hz2 rfl (by omega) _ N (strs L) rfl ((HQ.out.1.alloc _).alloc _) _ _ 1 [.string ⟨#[59]⟩] _ rfl (Al _ #[.string ⟨#[59]⟩] 9 1 (wr.heap.size + 1) rfl (by omega) (by simp)) (by simp [Value.oneCell']) (by unfold maxLen; omega) (by omega) (by simp; omega) ?_); intro v' w5 hown5 hgrow hat)
       have hlo5 := HQ.out.1.lt
       have hB5 : Below wr.heap.size wr w5 → True := fun _ => trivial
       have HQ9 : Hid (∀ o, w5.cell? ⟨wr.heap.size, o, none⟩ = (#[.int .i64 c.w[j].a, .int .i64 c.w[j].b, .int .i64 c.w[j].k, .int .u64 (c.w[j].x : Nat), .int .u64 (c.w[j].sw : Nat), .int .u64 (c.w[j].sn : Nat), .int .u64 (c.w[j].mw : Nat), .int .u64 (c.w[j].mn : Nat), .int .i64 c.w[j].p] : Array Value)[o]?) := hid (fun o => by
        rw [hgrow.cell_far ⟨wr.heap.size, o, none⟩ (by simp; omega) (fun e => by have h : wr.heap.size < wr.heap.size := (hlo5 _ e.symm).2; omega)]
        exact cell_of_row _ _ o _ _ _ ((Below.heap_alloc _ _ _ (by simp)).trans (heap_alloc_new wr _)))
       have q0 : w5.cell? ⟨wr.heap.size, 0, none⟩ = some (.int .i64 c.w[j].a) := HQ9.out 0
       have q1 : w5.cell? ⟨wr.heap.size, 1, none⟩ = some (.int .i64 c.w[j].b) := HQ9.out 1
       have q2 : w5.cell? ⟨wr.heap.size, 2, none⟩ = some (.int .i64 c.w[j].k) := HQ9.out 2
       have q3 : w5.cell? ⟨wr.heap.size, 3, none⟩ = some (.int .u64 (c.w[j].x : Nat)) := HQ9.out 3
       have q4 : w5.cell? ⟨wr.heap.size, 4, none⟩ = some (.int .u64 (c.w[j].sw : Nat)) := HQ9.out 4
       have q5 : w5.cell? ⟨wr.heap.size, 5, none⟩ = some (.int .u64 (c.w[j].sn : Nat)) := HQ9.out 5
       have q6 : w5.cell? ⟨wr.heap.size, 6, none⟩ = some (.int .u64 (c.w[j].mw : Nat)) := HQ9.out 6
       have q7 : w5.cell? ⟨wr.heap.size, 7, none⟩ = some (.int .u64 (c.w[j].mn : Nat)) := HQ9.out 7
       have q8 : w5.cell? ⟨wr.heap.size, 8, none⟩ = some (.int .i64 c.w[j].p) := HQ9.out 8
       have hs5 := hgrow.size
       simp only [World.size_alloc] at hs5
       have HO5 : Hid (w5.ownsRow w1.heap.size 9 1 v' (N + 1) (strs (L ++ [[59]])) ∧ Below w1.heap.size w1 w5 ∧ Lq w5.heap.size w5) := hid (by
        have hb : Below w1.heap.size w1 w5 := (((HQ.out.2.alloc (by omega) _).alloc (by simp; omega) _).grown hgrow (by simp; omega) (fun k hk => (hlo5 k hk).1))
        refine ⟨by rw [dF]; exact hown5, hb, (H1.out.2.2.2.below hb).mono (by omega)⟩)
       have HE5 : Hid (Calls Tryz.prog 28 #[.agg #[.int .i64 c.w[j].a, .int .i64 c.w[j].b, .int .i64 c.w[j].k, .int .u64 (c.w[j].x : Nat), .int .u64 (c.w[j].sw : Nat), .int .u64 (c.w[j].sn : Nat), .int .u64 (c.w[j].mw : Nat), .int .u64 (c.w[j].mn : Nat), .int .i64 c.w[j].p]] w5 fun e w' => e = .returned (.string DA) ∧ Below w5.heap.size w5 w') := hid (HEG.out w5 HO5.out.2.2)
       obtain ⟨va, vc, rfl⟩ := ag hown5
       clear hown5 hgrow hat hlo5 hB5
       go_wp2_with fail
       refine HE5.out.mono ?_
       rintro e w4 ⟨rfl, hb4⟩
       have hs4 := hb4.size
       (try simp only [World.size_alloc] at hs4)
       have HO4 := hid (And.intro (ownsRow_below HO5.out.1 hb4 nl) (HO5.out.2.1.trans (hb4.mono (by omega))))
       clear hb4
       go_wp2_with (at_builtin; go_loud (refine af _ rfl (.tmp 59) (.tmp 62) _ rfl w1.heap.size 9 i0 _ 1 16 Tryz.underlying55 hi0 hz0 hz1 hz2 rfl (by omega) _ (N + 1) (strs (L ++ [[59]])) rfl (HO4.out.1.alloc _) _ _ 1 [.string DA] _ rfl (eD _ #[.string DA] 9 1 rfl (by omega)) (by simp [Value.oneCell']) (by unfold maxLen; omega) (by omega) (by simp; omega) ?_); intro v' w3 hown3 hgrow hat)
       have hlo := HO4.out.1.lt
       have HN3 : Hid (w3.ownsRow w1.heap.size 9 1 v' (L0 ++ bg (c.w.take (j + 1))).length (strs (L0 ++ bg (c.w.take (j + 1)))) ∧ Below w1.heap.size w1 w3) := hid (by
        rw [HT.out, dF, HDS.out, List.length_append, HN5.out]
        exact ⟨hown3, (HO4.out.2.alloc (by omega) _).grown hgrow (by simp; omega) (fun k hk => (hlo k hk).1)⟩)
       clear hown3 hgrow hat hlo
       go_wp2_with fail
       go_roundw
       case rel => exact ⟨j + 1, by omega, by go_num, HN3⟩
       case measure => simp [intOf]; omega
     ·have hj2 : j = c.w.length := by omega
      subst hj2
      rw [List.take_length, ← HPE.out] at HQ
      have hsz := HQ.out.2.size
      obtain ⟨sa, sc, rfl⟩ := ag HQ.out.1
      have HJ := hid (tV _ c.parts _ [32] wr (Sl.of_owns HQ.out.1 (by omega)) (Crt.parts_len HN.out.1 hlo1 hl) (Crt.told_len HN.out.1 hlo1 hl))
      clear hj
      go_wp2_with fail
      refine HJ.out.mono ?_
      rintro e w5 ⟨rfl, hb5⟩
      have HF := hid (H1.out.1.trans ((HQ.out.2.trans (hb5.mono hsz)).mono H1.out.1.size))
      rw [HE0.out]
      go_wp2_with fail
      go_ret
      exact ⟨rfl, HF.out⟩
theorem uw {c : Crt} (hn : c.nums) (h1 : c.o.length ≤ 1000) (h2 : c.w.length ≤ 1000) (L : List (List UInt8)) (hm : ∀ x ∈ L, x.length ≤ 200) (hl : L.length ≤ 4000) : (Lib.join L [32]).length ≤ 900000 := by
 have h := uZ [32] L 200 1 hm (by simp)
 omega
theorem iL {B D : ByteArray} {L : List (List UInt8)} {x : List UInt8} (hB : B.data.toList = Lib.join L [32]) (hD : D.data.toList = x) (hL : L ≠ []) : (B ++ ⟨#[32]⟩ ++ D).data.toList = Lib.join (L ++ [x]) [32] := by
 rw [uf L x hL, ← hB, ← hD]; simp
theorem bC (S : Nat → Prop) (own : Bool) (c : Crt) (v : Value) (w : World) (h : aL w S own c v) (hn : c.nums) (hlo1 : c.o.length ≤ 1000) (hl : c.w.length ≤ 1000) (hL : Lq w.heap.size w) : Calls Tryz.prog 19 #[v] w fun e w' => e = .returned (.string ⟨c.text.toArray⟩) ∧ Below w.heap.size w w' := by
 obtain ⟨ad, cp, ad', cp', rfl, ho, hv, _, _, k1, k2⟩ := h.shape
 clear h
 have hb0 : Below w.heap.size w (w.alloc (.cells #[.int .i64 c.k, .slice ad c.o.length cp, .int .i64 c.p, .int .i64 c.q, .slice ad' c.w.length cp'] 46)) := br.alloc nl _
 have hz0' : (w.alloc (.cells #[.int .i64 c.k, .slice ad c.o.length cp, .int .i64 c.p, .int .i64 c.q, .slice ad' c.w.length cp'] 46)).heap.size = w.heap.size + 1 := World.size_alloc _ _
 have hrep : aL (w.alloc (.cells #[.int .i64 c.k, .slice ad c.o.length cp, .int .i64 c.p, .int .i64 c.q, .slice ad' c.w.length cp'] 46)) S own c (.agg #[.int .i64 c.k, .slice ad c.o.length cp, .int .i64 c.p, .int .i64 c.q, .slice ad' c.w.length cp']) := ⟨_, _, rfl, ho.below hb0 nl, hv.below hb0 nl⟩
 have hLq := (hL.below hb0).mono hb0.size
 have HR := hid (jD S own c _ _ hrep hn.2.2.2.2 hLq)
 have HV := hid (And.intro hrep (And.intro hb0 (And.intro (heap_alloc_new w (.cells #[.int .i64 c.k, .slice ad c.o.length cp, .int .i64 c.p, .int .i64 c.q, .slice ad' c.w.length cp'] 46)) (And.intro hz0' hLq))))
 clear ho hv hb0 hz0' hL hrep hLq
 cases hr : c.right with
 | false =>
  rw [hr] at HR
  have HE : Hid ((⟨#[]⟩ : ByteArray) = ⟨c.text.toArray⟩) := hid (by unfold Crt.text; rw [hr]; rfl)
  clear hr
  go_enter Tryz.func19, Tryz.ntmps19
  go_wp2_with fail
  refine HR.out.mono ?_
  rintro e w1 ⟨rfl, hb1⟩
  go_wp2_with fail
  go_ret
  exact ⟨by rw [← HE.out]; rfl, HV.out.2.1.trans (hb1.mono HV.out.2.1.size)⟩
 | true =>
  rw [hr] at HR
  have HE0 : Hid (Lib.join c.parts [32] = c.text) := hid (by unfold Crt.text; rw [hr]; rfl)
  have HN := hid (And.intro hn (Crt.nil_of hr))
  have HMEM := hid (Crt.parts_mem hn)
  clear hr hn
  go_enter Tryz.func19, Tryz.ntmps19
  go_wp2_with fail
  refine HR.out.mono ?_
  rintro e w1 ⟨rfl, hb1⟩
  obtain ⟨r1, r2, r3, r4, r5⟩ := HV.out
  have hs1 := hb1.size
  have hc1 : w1.heap[w.heap.size]? = some (.cells #[.int .i64 c.k, .slice ad c.o.length cp, .int .i64 c.p, .int .i64 c.q, .slice ad' c.w.length cp'] 46 (0, 0)) := (hb1.block _ (by omega)).trans r3
  have d0 : w1.cell? ⟨w.heap.size, 0, none⟩ = some (.int .i64 c.k) := by rw [cell_of_row w1 _ 0 _ _ _ hc1]; rfl
  have hcl : w.heap.size < w1.heap.size := by omega
  have H1 := hid (And.intro (r2.trans (hb1.mono r2.size)) (And.intro (r1.below hb1 nl) (And.intro hc1 ((r5.below hb1).mono hs1))))
  clear r1 r2 r3 r4 r5 hb1 hc1
  go_upto_region 3 with fail
  go_cut [3] from 9 to 13 (fun v wx => v = .string ⟨(ah c.k).toArray⟩ ∧ Below w1.heap.size w1 wx)
  case first =>
   have hk0 : 0 ≤ c.k := by have := HN.out.2.2.2.2; omega
   have hk5 : c.k < 5 := by have := HN.out.2.2.2.2; omega
   have hcx : ∀ W : World, (W.alloc (.cells #[.string ⟨#[]⟩, .string ⟨#[115, 101, 114, 105, 97, 108]⟩, .string ⟨#[100, 105, 114, 116, 121]⟩, .string ⟨#[112, 97, 114, 116, 105, 97, 108]⟩, .string ⟨#[99, 121, 99, 108, 101]⟩] 9)).cell? ⟨W.heap.size, c.k.toNat, none⟩ = some (.string ⟨(ah c.k).toArray⟩) := by
    have hk : c.k = 1 ∨ c.k = 2 ∨ c.k = 3 ∨ c.k = 4 := by have := HN.out.2.2.2.2; omega
    intro W
    rw [cell_of_row _ _ _ _ _ _ (heap_alloc_new W _)]
    rcases hk with h | h | h | h <;> rw [h] <;> rfl
   have hcy := hcx w1
   have HB := hid (show Below w1.heap.size w1 (w1.alloc (.cells #[.string ⟨#[]⟩, .string ⟨#[115, 101, 114, 105, 97, 108]⟩, .string ⟨#[100, 105, 114, 116, 121]⟩, .string ⟨#[112, 97, 114, 116, 105, 97, 108]⟩, .string ⟨#[99, 121, 99, 108, 101]⟩] 9)) from br.alloc nl _)
   clear hcx
   go_wp2_with fail
   go_meet
   exact ⟨rfl, HB.out⟩
  obtain ⟨rfl, hbc⟩ := hcut
  have hsc := hbc.size
  have hcc := (hbc.block w.heap.size hcl).trans H1.out.2.2.1
  have d0 : wc.cell? ⟨w.heap.size, 0, none⟩ = some (.int .i64 c.k) := by rw [cell_of_row wc _ 0 _ _ _ hcc]; rfl
  have d1 : wc.cell? ⟨w.heap.size, 1, none⟩ = some (.slice ad c.o.length cp) := by rw [cell_of_row wc _ 1 _ _ _ hcc]; rfl
  have d2 : wc.cell? ⟨w.heap.size, 2, none⟩ = some (.int .i64 c.p) := by rw [cell_of_row wc _ 2 _ _ _ hcc]; rfl
  have d3 : wc.cell? ⟨w.heap.size, 3, none⟩ = some (.int .i64 c.q) := by rw [cell_of_row wc _ 3 _ _ _ hcc]; rfl
  have HC := hid hbc
  have hclc : w.heap.size < wc.heap.size := by omega
  clear hbc hcc
  go_upto_region 4 with fail
  go_cut [21] from 14 to 20 (fun v wx => v = .bool (aR c.k) ∧ wx = wc)
  case first =>
   by_cases h2 : c.k = 2
   ·have t2 : (c.k == 2) = true := by simp [h2]
    have HS : Hid (aR c.k = true) := hid (by simp [aR, h2])
    clear h2
    go_wp2_with fail
    go_meet
    exact ⟨by rw [HS.out], rfl⟩
   ·have t2 : (c.k == 2) = false := by simp [h2]
    have HS : Hid (aR c.k = (c.k == 3)) := hid (by simp [aR, h2])
    clear h2
    generalize hb3 : (c.k == 3) = b3 at HS
    cases b3 <;> (go_wp2_with fail; go_meet; exact ⟨by rw [HS.out], rfl⟩)
  obtain ⟨rfl, rfl⟩ := hcut
  have hw6 : (ah c.k).length ≤ 7 := by unfold ah; split <;> (try split) <;> (try split) <;> simp
  have HWD : Hid ((⟨(ah c.k).toArray⟩ : ByteArray).data.toList = Lib.join [ah c.k] [32]) := hid (by rw [Lib.join_one])
  have hwz : (⟨(ah c.k).toArray⟩ : ByteArray).size ≤ 7 := by rw [← ay]; simpa using hw6
  generalize (⟨(ah c.k).toArray⟩ : ByteArray) = WB at HWD hwz ⊢
  generalize hsp : aR c.k = sp
  have HSP := hid hsp
  clear hsp hw6
  cases sp with
  | true =>
   have HP0 : Hid (c.parts = [ah c.k] ++ [Lib.decDigits c.p.toNat] ++ [Lib.decDigits c.q.toNat]) := hid (by
    have ho : c.o = [] := by rcases HN.out.2.1 with h | h; (have := HSP.out; rw [h] at this; cases this); exact h
    have hw : c.w = [] := by rcases HN.out.2.2.1 with h | h; (have := HSP.out; rw [h] at this; cases this); exact h
    unfold Crt.parts; rw [HSP.out, ho, hw]; rfl)
   have g1 : 0 ≤ c.p := by have := HN.out.2.2.2.2.2.2.1; omega
   have g2 : c.p ≤ 9223372036854775807 := HN.out.1.2.1.2
   have g3 : 0 ≤ c.q := by have := HN.out.2.2.2.2.2.2.2.1; omega
   have g4 : c.q ≤ 9223372036854775807 := HN.out.1.2.2.1.2
   obtain ⟨pn, hpn⟩ := Int.eq_ofNat_of_zero_le g1
   obtain ⟨qn, hqn⟩ := Int.eq_ofNat_of_zero_le g3
   have hp64 : pn < 18446744073709551616 := by omega
   have hq64 : qn < 18446744073709551616 := by omega
   have e1 : IntKind.u64.wrap (pn : Int) = (pn : Int) := by rw [IntKind.wrap_u64]; omega
   have e2 : IntKind.u64.wrap (qn : Int) = (qn : Int) := by rw [IntKind.wrap_u64]; omega
   have zp := BZ pn hp64
   have zq := BZ qn hq64
   have HPC := hid (fun W => fH pn W hp64)
   have HQC := hid (fun W => fH qn W hq64)
   have HPD : Hid ((⟨(Lib.decDigits pn).toArray⟩ : ByteArray).data.toList = Lib.decDigits c.p.toNat) := hid (by rw [hpn]; simp)
   have HQD : Hid ((⟨(Lib.decDigits qn).toArray⟩ : ByteArray).data.toList = Lib.decDigits c.q.toNat) := hid (by rw [hqn]; simp)
   rw [hpn] at d2
   rw [hqn] at d3
   have HF : Hid (∀ DP DQ : ByteArray, DP = ⟨(Lib.decDigits pn).toArray⟩ → DQ = ⟨(Lib.decDigits qn).toArray⟩ → WB ++ ⟨#[32]⟩ ++ DP ++ ⟨#[32]⟩ ++ DQ = ⟨c.text.toArray⟩) := hid (by
    rintro _ _ rfl rfl
    exact jT (by rw [iL (iL HWD.out HPD.out (by simp)) HQD.out (by simp), ← HP0.out, HE0.out]))
   have HB := hid (H1.out.1.trans (HC.out.mono H1.out.1.size))
   have zc : (⟨#[32]⟩ : ByteArray).size = 1 := rfl
   have zb := dH WB ⟨#[32]⟩
   have zd := dH (WB ++ ⟨#[32]⟩) ⟨(Lib.decDigits pn).toArray⟩
   have ze := dH (WB ++ ⟨#[32]⟩ ++ ⟨(Lib.decDigits pn).toArray⟩) ⟨#[32]⟩
   have zf := dH (WB ++ ⟨#[32]⟩ ++ ⟨(Lib.decDigits pn).toArray⟩ ++ ⟨#[32]⟩) ⟨(Lib.decDigits qn).toArray⟩
   clear g1 g2 g3 g4 hpn hqn d0 d1
   go_wp2_with fail
   go_quiet ((go_at_call 51; exact Calls.quiet_of_same (fH _ _ (by assumption))))
   go_wp2_with fail
   go_ret
   exact ⟨congrArg (fun x => Ending.returned (Value.string x)) (HF.out _ _ rfl rfl), by first | exact HB.out | exact HB.out.drew | exact below_drewN HB.out _⟩
  | false =>
   have HP0 : Hid (c.parts0 = [ah c.k]) := hid (by unfold Crt.parts0; rw [HSP.out]; rfl)
   have hsc2 := HC.out.size
   have HM0 : Hid (∀ x ∈ c.parts0 ++ c.o.map (fun n => Lib.decDigits n.toNat), x.length ≤ 200) := hid (fun x hx => HMEM.out x (by rw [Crt.parts_eq]; exact List.mem_append_left _ hx))
   have HO := hid (And.intro (show WB.data.toList = Lib.join c.parts0 [32] by rw [HP0.out]; exact HWD.out) HC.out)
   have hp0 : c.parts0.length ≤ 3 := by rw [HP0.out]; simp
   have HPN : Hid (c.parts0 ≠ []) := hid (by rw [HP0.out]; simp)
   clear d0 d2 d3 hclc HWD HP0 HMEM
   go_wp2_with fail
   go_loopw [3, 4] (fun sv i wr => ∃ (j : Nat) (B : ByteArray), j ≤ c.o.length ∧ i = .int .i64 j ∧ sv = .string B ∧ Hid (B.data.toList = Lib.join (c.parts0 ++ (c.o.take j).map (fun n => Lib.decDigits n.toNat)) [32] ∧ Below w1.heap.size w1 wr)) (fun _ i _ => c.o.length - (intOf i).toNat)
   case atStart => exact ⟨0, _, by omega, rfl, rfl, hid ⟨by simpa using HO.out.1, HO.out.2⟩⟩
   case round =>
    clear HO d1 hwz
    obtain ⟨j, B, hj, rfl, rfl, HQ⟩ := hrel
    have hcc := (HQ.out.2.block w.heap.size hcl).trans H1.out.2.2.1
    have u1 : wr.cell? ⟨w.heap.size, 1, none⟩ = some (.slice ad c.o.length cp) := by rw [cell_of_row wr _ 1 _ _ _ hcc]; rfl
    have u4 : wr.cell? ⟨w.heap.size, 4, none⟩ = some (.slice ad' c.w.length cp') := by rw [cell_of_row wr _ 4 _ _ _ hcc]; rfl
    clear hcc
    by_cases hlt : j < c.o.length
    ·obtain ⟨bl, off, rfl, _, hbl, hcell⟩ := (aL.rows H1.out.2.1).1.cell (by omega)
     have g := (HQ.out.2.cell (p := ⟨bl, off + j, none⟩) hbl).trans (hcell j hlt).1
     have h0 := HN.out.2.2.2.2.2.2.2.2.1 c.o[j] (List.getElem_mem hlt)
     have h1 := (HN.out.1.2.2.2.1 c.o[j] (List.getElem_mem hlt)).2
     have hsz := HQ.out.2.size
     have hB9 : B.size ≤ 900000 := by
      rw [← ay, HQ.out.1]
      exact uw HN.out.1 hlo1 hl _ (fun x hx => HM0.out x (by rcases List.mem_append.1 hx with h | h; exact List.mem_append_left _ h; exact List.mem_append_right _ (List.mem_map.2 (by obtain ⟨n, hn, e⟩ := List.mem_map.1 h; exact ⟨n, List.mem_of_mem_take hn, e⟩)))) (by simp; omega)
     obtain ⟨pn, hpn⟩ := Int.eq_ofNat_of_zero_le (show 0 ≤ c.o[j] by omega)
     have hp64 : pn < 18446744073709551616 := by omega
     have e1 : IntKind.u64.wrap (pn : Int) = (pn : Int) := by rw [IntKind.wrap_u64]; omega
     have zp := BZ pn hp64
     have hNE : c.parts0 ++ (c.o.take j).map (fun n => Lib.decDigits n.toNat) ≠ [] := by have := HPN.out; simp [this]
     have HT : Hid (∀ DP : ByteArray, DP = ⟨(Lib.decDigits pn).toArray⟩ → (B ++ ⟨#[32]⟩ ++ DP).data.toList = Lib.join (c.parts0 ++ (c.o.take (j + 1)).map (fun n => Lib.decDigits n.toNat)) [32]) := hid (by
      rintro _ rfl
      rw [List.take_succ_eq_append_getElem hlt, List.map_append, ← List.append_assoc]
      exact iL HQ.out.1 (by rw [show c.o[j] = (pn : Int) from hpn]; simp) hNE)
     have HDC := hid (fH pn wr hp64)
     have HDE : Hid ((⟨(Lib.decDigits pn).toArray⟩ : ByteArray) = ⟨(Lib.decDigits pn).toArray⟩) := hid rfl
     have x1 : (0 : Int) ≤ (j : Int) := by omega
     have x2 : (j : Int) < (c.o.length : Int) := by omega
     rw [show c.o[j] = (pn : Int) from hpn] at g
     have HT2 := hid (HT.out _ rfl)
     generalize (⟨(Lib.decDigits pn).toArray⟩ : ByteArray) = DP at zp HDC HT2
     have HN3 := hid (And.intro HT2.out HQ.out.2)
     clear hcell h0 h1 hpn hNE HT HDE HT2
     go_wp2_with fail
     refine HDC.out.mono ?_
     rintro e w2 ⟨rfl, rfl⟩
     have zb := dH B ⟨#[32]⟩
     have zc : (⟨#[32]⟩ : ByteArray).size = 1 := rfl
     go_wp2_with fail
     go_roundw
     case rel => exact ⟨j + 1, _, by omega, by go_num, rfl, HN3⟩
     case measure => simp [intOf]; omega
    ·have hj2 : j = c.o.length := by omega
     subst hj2
     rw [List.take_length] at HQ
     have HO := HQ
     have hlL : (c.parts0 ++ c.o.map (fun n => Lib.decDigits n.toNat)).length ≤ 1003 := by simp; omega
     have HPE := hid (Crt.parts_eq c)
     have HNE : Hid (c.parts0 ++ c.o.map (fun n => Lib.decDigits n.toNat) ≠ []) := hid (by have := HPN.out; simp [this])
     generalize c.parts0 ++ c.o.map (fun n => Lib.decDigits n.toNat) = L0 at HO HPE hlL HM0 HNE
     clear HQ hj
     go_wp2_with fail
     go_loopw [3, 5] (fun sv i wr => ∃ (j : Nat) (B : ByteArray), j ≤ c.w.length ∧ i = .int .i64 j ∧ sv = .string B ∧ Hid (B.data.toList = Lib.join (L0 ++ bg (c.w.take j)) [32] ∧ Below w1.heap.size w1 wr)) (fun _ i _ => c.w.length - (intOf i).toNat)
     case atStart => exact ⟨0, _, by omega, rfl, rfl, hid ⟨by simpa [om] using HO.out.1, HO.out.2⟩⟩
     case round =>
      clear HO u1 u4
      obtain ⟨j, B, hj, rfl, rfl, HQ⟩ := hrel
      have hcc := (HQ.out.2.block w.heap.size hcl).trans H1.out.2.2.1
      have u4 : wr.cell? ⟨w.heap.size, 4, none⟩ = some (.slice ad' c.w.length cp') := by rw [cell_of_row wr _ 4 _ _ _ hcc]; rfl
      clear hcc
      by_cases hlt2 : j < c.w.length
      ·obtain ⟨bl, off, rfl, _, hbl, hcell⟩ := (aL.rows H1.out.2.1).2.cell (by omega)
       have hsz := HQ.out.2.size
       obtain ⟨⟨s0, s1, s2, s3, s4, s5, s6, s7, s8⟩, _⟩ := hcell j hlt2
       have g0 := (HQ.out.2.cell (p := ⟨bl, off + j * 9, none⟩) hbl).trans s0
       have g1 := (HQ.out.2.cell (p := ⟨bl, off + j * 9 + 1, none⟩) hbl).trans s1
       have g2 := (HQ.out.2.cell (p := ⟨bl, off + j * 9 + 2, none⟩) hbl).trans s2
       have g3 := (HQ.out.2.cell (p := ⟨bl, off + j * 9 + 3, none⟩) hbl).trans s3
       have g4 := (HQ.out.2.cell (p := ⟨bl, off + j * 9 + 4, none⟩) hbl).trans s4
       have g5 := (HQ.out.2.cell (p := ⟨bl, off + j * 9 + 5, none⟩) hbl).trans s5
       have g6 := (HQ.out.2.cell (p := ⟨bl, off + j * 9 + 6, none⟩) hbl).trans s6
       have g7 := (HQ.out.2.cell (p := ⟨bl, off + j * 9 + 7, none⟩) hbl).trans s7
       have g8 := (HQ.out.2.cell (p := ⟨bl, off + j * 9 + 8, none⟩) hbl).trans s8
       have x1 : (0 : Int) ≤ (j : Int) := by omega
       have x2 : (j : Int) < (c.w.length : Int) := by omega
       have HPT := hid (mE c.w j hlt2)
       have hB9 : B.size ≤ 900000 := by
        rw [← ay, HQ.out.1]
        exact uw HN.out.1 hlo1 hl _ (fun x hx => by
         rcases List.mem_append.1 hx with h | h
         ·exact HM0.out x h
         ·exact oF (fun e he => HN.out.1.2.2.2.2 e (List.mem_of_mem_take he)) x h) (by have := kv (c.w.take j); have h2 : (c.w.take j).length ≤ c.w.length := (by simp; omega); simp; omega)
       have hdz : (⟨c.w[j].text.toArray⟩ : ByteArray).size ≤ 200 := by rw [← ay]; simpa using Ed.text_len (HN.out.1.2.2.2.2 _ (List.getElem_mem hlt2))
       have HE : Hid (Calls Tryz.prog 52 #[.agg #[.int .i64 c.w[j].a, .int .i64 c.w[j].b, .int .i64 c.w[j].k, .int .u64 (c.w[j].x : Nat), .int .u64 (c.w[j].sw : Nat), .int .u64 (c.w[j].sn : Nat), .int .u64 (c.w[j].mw : Nat), .int .u64 (c.w[j].mn : Nat), .int .i64 c.w[j].p]] wr fun e w' => e = .returned (.string ⟨c.w[j].text.toArray⟩) ∧ Below wr.heap.size wr w') := hid (by
        have hd := dW (e := c.w[j]) (HN.out.1.2.2.2.2 _ (List.getElem_mem hlt2)) wr ((H1.out.2.2.2.below HQ.out.2).mono hsz)
        simp only [Ed.vals, str] at hd
        exact hd)
       have HDT : Hid ((⟨c.w[j].text.toArray⟩ : ByteArray).data.toList = c.w[j].text) := hid rfl
       have zb := dH B ⟨#[32]⟩
       have zc : (⟨#[32]⟩ : ByteArray).size = 1 := rfl
       have HNJ : Hid (L0 ++ bg (c.w.take j) ≠ []) := hid (by have := HNE.out; simp [this])
       clear hcell s0 s1 s2 s3 s4 s5 s6 s7 s8
       by_cases hj0 : j = 0
       ·have HT : Hid ((B ++ ⟨#[32]⟩ ++ ⟨c.w[j].text.toArray⟩).data.toList = Lib.join (L0 ++ bg (c.w.take (j + 1))) [32]) := hid (by
         rw [HPT.out, ← List.append_assoc, show ek c.w[j] j = [c.w[j].text] from by unfold ek; rw [if_pos hj0]]
         exact iL HQ.out.1 HDT.out HNJ.out)
        have hg0 : decide (0 < j) = false := by simp [hj0]
        generalize (⟨c.w[j].text.toArray⟩ : ByteArray) = DA at HE HT hdz
        clear hj0 HPT HDT
        go_wp2_with fail
        refine HE.out.mono ?_
        rintro e w4 ⟨rfl, hb4⟩
        have HN3 := hid (And.intro HT.out (HQ.out.2.trans (hb4.mono hsz)))
        clear hb4
        go_wp2_with fail
        go_roundw
        case rel => exact ⟨j + 1, _, by omega, by go_num, rfl, HN3⟩
        case measure => simp [intOf]; omega
       ·have HT : Hid ((B ++ ⟨#[32, 59]⟩ ++ ⟨#[32]⟩ ++ ⟨c.w[j].text.toArray⟩).data.toList = Lib.join (L0 ++ bg (c.w.take (j + 1))) [32]) := hid (by
         rw [HPT.out, ← List.append_assoc, show ek c.w[j] j = [[59]] ++ [c.w[j].text] from by unfold ek; rw [if_neg hj0]; rfl, ← List.append_assoc]
         refine iL ?_ HDT.out (by simp)
         rw [uf _ _ HNJ.out, ← HQ.out.1]; simp)
        have hg0 : decide (0 < j) = true := by simp; omega
        generalize (⟨c.w[j].text.toArray⟩ : ByteArray) = DA at HE HT hdz
        have zd := dH B ⟨#[32, 59]⟩
        have ze : (⟨#[32, 59]⟩ : ByteArray).size = 2 := rfl
        have zf := dH (B ++ ⟨#[32, 59]⟩) ⟨#[32]⟩
        clear hj0 HPT HDT
        go_wp2_with fail
        refine HE.out.mono ?_
        rintro e w4 ⟨rfl, hb4⟩
        have HN3 := hid (And.intro HT.out (HQ.out.2.trans (hb4.mono hsz)))
        clear hb4
        go_wp2_with fail
        go_roundw
        case rel => exact ⟨j + 1, _, by omega, by go_num, rfl, HN3⟩
        case measure => simp [intOf]; omega
      ·have hj2 : j = c.w.length := by omega
       subst hj2
       rw [List.take_length, ← HPE.out, HE0.out] at HQ
       have HF := hid (H1.out.1.trans (HQ.out.2.mono H1.out.1.size))
       have HBB : Hid (B = ⟨c.text.toArray⟩) := hid (jT (by rw [HQ.out.1]))
       clear hj
       go_wp2_with fail
       go_ret
       exact ⟨by rw [HBB.out]; rfl, HF.out⟩
def IsT (w : World) (T : TypeId) (b : Nat) : Prop := ∃ cs fr, w.heap[b]? = some (.cells cs T fr)
theorem IsT.keep {w w' : World} {T : TypeId} {b : Nat} (h : IsT w T b) (e : w'.heap[b]? = w.heap[b]?) : IsT w' T b := by
 obtain ⟨cs, fr, h⟩ := h
 exact ⟨cs, fr, e.trans h⟩
theorem IsT.ne {w : World} {T T' : TypeId} {b : Nat} (h : IsT w T b) (h' : IsT w T' b) : T = T' := by
 obtain ⟨cs, fr, h⟩ := h
 obtain ⟨cs', fr', h'⟩ := h'
 rw [h] at h'
 cases h'
 rfl
theorem Sl.typed {w : World} {S : Nat → Prop} {base sz n : Nat} {T : TypeId} {xs : List Value} {v : Value} (h : w.ownsRow base T sz v n xs) (hS : Sl w S true sz n xs v) : Sl w (fun b => S b ∧ IsT w T b) true sz n xs v := by
 obtain ⟨h1, h2, ad, cap, rfl, h3, h4⟩ := hS
 refine ⟨h1, h2, ad, cap, rfl, h3, fun hn => ?_⟩
 obtain ⟨bl, off, rfl, hs, hc⟩ := h4 hn
 refine ⟨bl, off, rfl, ⟨hs, ?_⟩, hc⟩
 obtain ⟨_, h⟩ := h
 rcases h with ⟨_, hx⟩ | ⟨g, cap', cur, hv, hb, hg, _⟩
 ·omega
 ·simp only [Value.slice.injEq, Option.some.injEq, Addr.mk.injEq] at hv
  obtain ⟨⟨rfl, _⟩, _⟩ := hv
  exact ⟨_, _, hg⟩
theorem bn.of_ownsT {w : World} {base : Nat} {T : TypeId} {v : Value} {l : List Int} (h : w.ownsRow base T 1 v l.length (ints l)) : bn w (fun b => base ≤ b ∧ IsT w T b) true l v := Sl.typed h (bn.of_owns h)
theorem aX.of_ownsT {w : World} {base : Nat} {T : TypeId} {v : Value} {l : List Ed} (h : w.ownsRow base T 9 v l.length (bD l)) : aX w (fun b => base ≤ b ∧ IsT w T b) true l v := Sl.typed h (aX.of_owns h)
theorem xx (S : Nat → Prop) (own : Bool) (l : List Int) (v : Value) (w : World) (hr : bn w S own l v) (h47 : l.length ≤ 100000000) :
  Calls Tryz.prog 22 #[v] w fun e w' => ∃ v, e = .returned v ∧ aL w' (fun b => w.heap.size ≤ b ∧ IsT w' 3 b) true ⟨1, l, 0, 0, []⟩ v ∧ Below w.heap.size w w' := by
 have HC := hid (iZ S own l v _ (hr.below (br.alloc nl (.cells #[.int .i64 0, .slice none 0 0, .int .i64 0, .int .i64 0, .slice none 0 0] 25)) nl) h47)
 have h0 := heap_alloc_new w (.cells #[.int .i64 0, .slice none 0 0, .int .i64 0, .int .i64 0, .slice none 0 0] 25)
 have hb0 : Below w.heap.size w (w.alloc (.cells #[.int .i64 0, .slice none 0 0, .int .i64 0, .int .i64 0, .slice none 0 0] 25)) := br.alloc nl _
 have hs0 : (w.alloc (.cells #[.int .i64 0, .slice none 0 0, .int .i64 0, .int .i64 0, .slice none 0 0] 25)).heap.size = w.heap.size + 1 := World.size_alloc _ _
 have H0 := hid (And.intro h0 (And.intro hb0 hs0))
 clear h0 hb0 hs0 hr
 go_enter Tryz.func22, Tryz.ntmps22
 go_wp2_with fail
 refine HC.out.mono ?_
 rintro e w1 ⟨v1, rfl, hown1, hb1⟩
 obtain ⟨h0, hb0, hs0⟩ := H0.out
 have g0 : w1.heap[w.heap.size]? = some (.cells #[.int .i64 0, .slice none 0 0, .int .i64 0, .int .i64 0, .slice none 0 0] 25 (0, 0)) := (hb1.block _ (by omega)).trans h0
 obtain ⟨ad, cap, rfl⟩ := ag hown1
 have H1 := hid (And.intro hown1 (hb0.trans (hb1.mono (by omega))))
 have hz1 := hb1.size
 clear hown1 hb1 hb0 h0
 go_wp2_with (refine wpList_store_row rfl 25 (.tmp 2) (.tmp 5) rfl rfl w.heap.size rfl _ rfl 25 _ g0 (by kernel_rfl) rfl (by simp [Value.oneCell']) ?_)
 refine bodyPost_ret (v := .agg #[.int .i64 1, .slice ad l.length cap, .int .i64 0, .int .i64 0, .slice none 0 0]) (results_cell_row rfl _ _ w.heap.size 25 _ _ _ rfl (setRow_heap _ _ _ _ _ _ g0) Tryz.underlying25 rfl (by kernel_rfl)) rfl ⟨_, rfl, ⟨_, _, rfl, ((bn.of_ownsT H1.out.1).keep (aC (g := w.heap.size) (fun h => by have h : _ ≤ w.heap.size := h.1; omega)) (fun b hb h => by have h1 : _ ≤ b := h.1; exact ⟨by omega, h.2.keep (setRow_other _ _ _ _ (by omega))⟩)), aX.nil _ _ _⟩, below_setRow H1.out.2 _ _ nl⟩
theorem qR (S : Nat → Prop) (own : Bool) (l : List Ed) (v : Value) (w : World) (hr : aX w S own l v) (h47 : l.length ≤ 100000000) :
  Calls Tryz.prog 23 #[v] w fun e w' => ∃ v, e = .returned v ∧ aL w' (fun b => w.heap.size ≤ b ∧ IsT w' 54 b) true ⟨4, [], 0, 0, l⟩ v ∧ Below w.heap.size w w' := by
 have HC := hid (mI S own l v _ (hr.below (br.alloc nl (.cells #[.int .i64 0, .slice none 0 0, .int .i64 0, .int .i64 0, .slice none 0 0] 25)) nl) h47)
 have h0 := heap_alloc_new w (.cells #[.int .i64 0, .slice none 0 0, .int .i64 0, .int .i64 0, .slice none 0 0] 25)
 have hb0 : Below w.heap.size w (w.alloc (.cells #[.int .i64 0, .slice none 0 0, .int .i64 0, .int .i64 0, .slice none 0 0] 25)) := br.alloc nl _
 have hs0 : (w.alloc (.cells #[.int .i64 0, .slice none 0 0, .int .i64 0, .int .i64 0, .slice none 0 0] 25)).heap.size = w.heap.size + 1 := World.size_alloc _ _
 have H0 := hid (And.intro h0 (And.intro hb0 hs0))
 clear h0 hb0 hs0 hr
 go_enter Tryz.func23, Tryz.ntmps23
 go_wp2_with fail
 refine HC.out.mono ?_
 rintro e w1 ⟨v1, rfl, hown1, hb1⟩
 obtain ⟨h0, hb0, hs0⟩ := H0.out
 have g0 : w1.heap[w.heap.size]? = some (.cells #[.int .i64 0, .slice none 0 0, .int .i64 0, .int .i64 0, .slice none 0 0] 25 (0, 0)) := (hb1.block _ (by omega)).trans h0
 obtain ⟨ad, cap, rfl⟩ := ag hown1
 have H1 := hid (And.intro hown1 (hb0.trans (hb1.mono (by omega))))
 have hz1 := hb1.size
 clear hown1 hb1 hb0 h0
 go_wp2_with (refine wpList_store_row rfl 25 (.tmp 2) (.tmp 5) rfl rfl w.heap.size rfl _ rfl 25 _ g0 (by kernel_rfl) rfl (by simp [Value.oneCell']) ?_)
 refine bodyPost_ret (v := .agg #[.int .i64 4, .slice none 0 0, .int .i64 0, .int .i64 0, .slice ad l.length cap]) (results_cell_row rfl _ _ w.heap.size 25 _ _ _ rfl (setRow_heap _ _ _ _ _ _ g0) Tryz.underlying25 rfl (by kernel_rfl)) rfl ⟨_, rfl, ⟨_, _, rfl, bn.nil _ _ _, ((aX.of_ownsT H1.out.1).keep (aC (g := w.heap.size) (fun h => by have h : _ ≤ w.heap.size := h.1; omega)) (fun b hb h => by have h1 : _ ≤ b := h.1; exact ⟨by omega, h.2.keep (setRow_other _ _ _ _ (by omega))⟩))⟩, below_setRow H1.out.2 _ _ nl⟩
def pCf (c : Crt) (S : Nat → Prop) (v : Value) (w : World) : Prop := aL w S true c v
theorem iM (c : Crt) : eG (pCf c) := fun S S' v w w' hk hs hS h => aL.keep h hk hS
def pCT (T : TypeId) (c : Crt) (S : Nat → Prop) (v : Value) (w : World) : Prop := aL w (fun b => S b ∧ IsT w T b) true c v
theorem xy (T : TypeId) (c : Crt) : eG (pCT T c) := fun S S' v w w' hk hs hS h => aL.keep (w := w) h (fun b h1 h2 => hk b h1.1 h2) (fun b hb h => ⟨hS b hb h.1, h.2.keep (hk b h.1 hb)⟩)
theorem uy {S : Nat → Prop} {own : Bool} {c : Crt} {v : Value} {w : World} (h : aL w S own c v) : ∃ cs, v = .agg cs ∧ cs.size = 5 ∧ ∀ x ∈ cs.toList, x.oneCell' = true := by
 obtain ⟨ad, cp, ad', cp', rfl, _⟩ := h.shape
 exact ⟨_, rfl, rfl, by simp [Value.oneCell']⟩
theorem uz {c : Crt} : ∀ (S : Nat → Prop) (v : Value) (w : World), (Pr.of (pCf c)).holds S w v → ∃ cs, v = .agg cs ∧ cs.size = 5 ∧ ∀ x ∈ cs.toList, x.oneCell' = true := fun _ _ _ h => uy (own := true) h
theorem uA {T : TypeId} {c : Crt} : ∀ (S : Nat → Prop) (v : Value) (w : World), (Pr.of (pCT T c)).holds S w v → ∃ cs, v = .agg cs ∧ cs.size = 5 ∧ ∀ x ∈ cs.toList, x.oneCell' = true := fun _ _ _ h => uy (own := true) h
theorem aL.wider {w : World} {S S' : Nat → Prop} {own : Bool} {c : Crt} {v : Value} (h : aL w S own c v) (hS : ∀ b, b < w.heap.size → S b → S' b) : aL w S' own c v := h.keep (fun _ _ _ => rfl) hS
structure Cx (T : TypeId) (g : Nat) (S : Nat → Prop) (c : Crt) (cs : Array Value) (w : World) : Prop where
 h : w.heap[g]? = some (.cells cs T (0, 0))
 r : aL w S false c (.agg cs)
theorem Cx.below {B : Nat} {T : TypeId} {g : Nat} {S : Nat → Prop} {c : Crt} {cs : Array Value} {w w' : World} (h : Cx T g S c cs w) (hb : Below B w w') (hB : w.heap.size ≤ B) : Cx T g S c cs w' :=
 ⟨(hb.block _ (Nat.lt_of_lt_of_le (Array.getElem?_eq_some_iff.1 h.h).1 hB)).trans h.h, h.r.below hb hB⟩
theorem Cx.lt {T : TypeId} {g : Nat} {S : Nat → Prop} {c : Crt} {cs : Array Value} {w : World} (h : Cx T g S c cs w) : g < w.heap.size := (Array.getElem?_eq_some_iff.1 h.h).1
theorem Cx.cells {T : TypeId} {g : Nat} {S : Nat → Prop} {c : Crt} {a0 a1 a2 a3 a4 : Value} {w : World} (h : Cx T g S c #[a0, a1, a2, a3, a4] w) : w.cell? ⟨g, 0, none⟩ = some a0 ∧ w.cell? ⟨g, 1, none⟩ = some a1 ∧ w.cell? ⟨g, 2, none⟩ = some a2 ∧ w.cell? ⟨g, 3, none⟩ = some a3 ∧ w.cell? ⟨g, 4, none⟩ = some a4 := by
 refine ⟨?_, ?_, ?_, ?_, ?_⟩
 ·rw [cell_of_row w _ 0 _ _ _ h.h]; rfl
 ·rw [cell_of_row w _ 1 _ _ _ h.h]; rfl
 ·rw [cell_of_row w _ 2 _ _ _ h.h]; rfl
 ·rw [cell_of_row w _ 3 _ _ _ h.h]; rfl
 ·rw [cell_of_row w _ 4 _ _ _ h.h]; rfl
def Crt.put (c : Crt) : List UInt8 := if c.right then c.bytes else []
def Crt.err (c : Crt) : Int := if c.right then 0 else 280
theorem Cy.uni {w w' : World} {c : Crt} {e : Ending} (h : Cy w c e w') : ∃ u, e = .returned (.tuple #[u, .int .i64 c.err]) ∧ au w' (fun b => w.heap.size ≤ b) true c.put u ∧ Below w.heap.size w w' := by
 obtain ⟨h, hb⟩ := h
 unfold Crt.put Crt.err
 rcases h with ⟨hr, u, rfl, hu⟩ | ⟨hr, rfl⟩
 ·exact ⟨u, by rw [hr]; rfl, by rw [hr]; exact hu, hb⟩
 ·exact ⟨_, by rw [hr]; rfl, by rw [hr]; exact Sl.nil _ _ _ _, hb⟩
theorem kT (k p q : Int) (ad ad' : Option Addr) (n m cp cp' : Nat) (w : World) :
  Calls Tryz.prog 5 #[.agg #[.int .i64 k, .slice ad n cp, .int .i64 p, .int .i64 q, .slice ad' m cp'], .int .i64 40] w fun e w' => e = .returned (.bool (decide (n ≤ 40) && decide (m ≤ 40))) ∧ Below w.heap.size w w' :=
 wT k p q ad ad' n m cp cp' 40 w (by omega)
def ed1 : Ed := ⟨0, 1, 1, 5, 1, 1, 2, 1, -1⟩
def ct1 : Crt := ⟨1, [1, 0], 0, 0, []⟩
def ct2 : Crt := ⟨2, [], 300, 0, []⟩
def ct3 : Crt := ⟨4, [], 0, 0, [ed1]⟩
theorem qU : ct1.right = true ∧ ct2.right = true ∧ ct3.right = true := by decide +kernel
theorem pI : ct1.bytes.length = 9 := by decide +kernel
theorem DY : (ct1.bytes.drop 0).take 5 = [17, 3, 2, 1, 0] := by decide +kernel
theorem pJ : ct2.bytes.length = 9 := by decide +kernel
theorem DZ : (ct2.bytes.drop 0).take 5 = [18, 3, 172, 2, 0] := by decide +kernel
theorem pK : ct3.bytes.length = 16 := by decide +kernel
theorem Ea : (ct3.bytes.drop 0).take 12 = [20, 10, 1, 0, 1, 1, 5, 1, 1, 2, 1, 0] := by decide +kernel
theorem CR : ct1.text = [115, 101, 114, 105, 97, 108, 32, 49, 32, 48] := by decide +kernel
theorem CU : ct2.text = [100, 105, 114, 116, 121, 32, 51, 48, 48, 32, 48] := by decide +kernel
theorem CV : ct3.text = [99, 121, 99, 108, 101, 32, 48, 32, 119, 119, 32, 49, 32, 53, 32, 49, 46, 49, 32, 50, 46, 49, 32, 45, 49] := by decide +kernel
theorem kU : ct1.nums ∧ ct2.nums ∧ ct3.nums := by
 refine ⟨?_, ?_, ?_⟩ <;> simp [Crt.nums, ct1, ct2, ct3, ed1, Ed.nums, i64]
theorem bE {w w0 w1 : World} (h : Below w.heap.size w w0) (h1 : Below w0.heap.size w0 w1) : Below w.heap.size w w1 := h.trans (h1.mono h.size)
theorem dB (w : World) (b : Obj) : Below w.heap.size w (w.alloc b) := br.alloc nl _
theorem kw {w w' : World} {c : Crt} {e : Ending} (h : Cy w c e w') (hr : c.right = true) : ∃ u, e = .returned (.tuple #[u, .int .i64 0]) ∧ au w' (fun b => w.heap.size ≤ b) true c.bytes u ∧ Below w.heap.size w w' := by
 obtain ⟨⟨_, u, h1, h2⟩ | ⟨h, _⟩, hb⟩ := h
 ·exact ⟨u, h1, h2, hb⟩
 ·rw [hr] at h; cases h
theorem bA (w : World) (hL : Lq w.heap.size w) : Calls Tryz.prog 6 #[] w fun e w' => e = .returned (.bool true) ∧ Below w.heap.size w w' := by
 have HQ : Hid (∀ wx, Below w.heap.size w wx → Lq wx.heap.size wx) := hid (fun wx hb => (hL.below hb).mono hb.size)
 clear hL
 have HBNOW : Hid (Below w.heap.size w w) := hid br
 go_enter Tryz.func6, Tryz.ntmps6
 have hI1 : bn (w.alloc (.cells #[.int .i64 1, .int .i64 0] 3)) (fun b => b = w.heap.size) true [1, 0] (.slice (some ⟨w.heap.size, 0, none⟩) 2 2) := kS (cs := #[.int .i64 1, .int .i64 0]) (heap_alloc_new _ _) rfl (by simp)
 have HO1 := hid (qI _ _ _ _ _ hI1 (by simp))
 have HA1 : Hid (Below w.heap.size w (w.alloc (.cells #[.int .i64 1, .int .i64 0] 3))) := hid (dB _ _)
 clear hI1
 go_wp2_with fail
 refine HO1.out.mono ?_
 rintro e w1 ⟨v1, rfl, hr1, hb1⟩
 have HR1 := hid hr1
 have HS1 : Hid (Below w.heap.size w w1) := hid (bE HA1.out hb1)
 have HB1 : Hid (Below w.heap.size w w1) := hid (bE HBNOW.out HS1.out)
 clear hr1 hb1 HBNOW HA1 HO1
 have HBNOW := HB1
 have HP2 := hid (bU _ _ ct1 v1 w1 HR1.out kU.1 (by simp [ct1]) (HQ.out _ HBNOW.out))
 go_wp2_with fail
 refine HP2.out.mono ?_
 intro e w2 hp
 obtain ⟨u2, rfl, hr, hb⟩ := kw hp qU.1
 obtain ⟨-, ad2, cap2, rfl, hcap2⟩ := hr.shape
 obtain ⟨bl2, off2, rfl, -, -⟩ := au.at8 hr (j := 0) (by rw [pI]; omega)
 have HU2 := hid hr
 rw [pI] at hcap2
 rw [pI]
 have HS2 : Hid (Below w1.heap.size w1 w2) := hid hb
 have HB2 : Hid (Below w.heap.size w w2) := hid (bE HBNOW.out hb)
 clear hp hr hb HP2 HBNOW
 have HBNOW := HB2
 have hr0 : aL w2 (fun b => True) true ct2 (.agg #[.int .i64 2, .slice none 0 0, .int .i64 300, .int .i64 0, .slice none 0 0]) := ⟨_, _, rfl, bn.nil _ _ _, aX.nil _ _ _⟩
 have HP3 := hid (bU _ _ ct2 _ w2 hr0 kU.2.1 (by simp [ct2]) (HQ.out _ HBNOW.out))
 go_wp2_with fail
 refine HP3.out.mono ?_
 intro e w3 hp
 obtain ⟨u3, rfl, hr, hb⟩ := kw hp qU.2.1
 obtain ⟨-, ad3, cap3, rfl, hcap3⟩ := hr.shape
 obtain ⟨bl3, off3, rfl, -, -⟩ := au.at8 hr (j := 0) (by rw [pJ]; omega)
 have HU3 := hid hr
 rw [pJ] at hcap3
 rw [pJ]
 have HS3 : Hid (Below w2.heap.size w2 w3) := hid hb
 have HB3 : Hid (Below w.heap.size w w3) := hid (bE HBNOW.out hb)
 clear hp hr hb HP3 HBNOW
 have HBNOW := HB3
 have g3 := heap_alloc_new w3 (.cells #[.int .i64 0, .int .i64 0, .int .i64 0, .int .u64 0, .int .u64 0, .int .u64 0, .int .u64 0, .int .u64 0, .int .i64 0] 54)
 go_upto_region 4 with (refine wpList_store_row rfl 54 (.tmp 5) (.tmp 22) rfl rfl w3.heap.size rfl _ rfl 54 _ g3 (by kernel_rfl) rfl (by simp [Value.oneCell']) ?_)
 have hS4 := setRow_heap _ _ _ #[.int .i64 0, .int .i64 1, .int .i64 1, .int .u64 5, .int .u64 1, .int .u64 1, .int .u64 2, .int .u64 1, .int .i64 (-1)] _ _ g3
 have hB4 : Below w3.heap.size w3 ((w3.alloc (.cells #[.int .i64 0, .int .i64 0, .int .i64 0, .int .u64 0, .int .u64 0, .int .u64 0, .int .u64 0, .int .u64 0, .int .i64 0] 54)).setRow w3.heap.size #[.int .i64 0, .int .i64 1, .int .i64 1, .int .u64 5, .int .u64 1, .int .u64 1, .int .u64 2, .int .u64 1, .int .i64 (-1)]) := below_setRow (dB _ _) _ _ nl
 generalize ((w3.alloc (.cells #[.int .i64 0, .int .i64 0, .int .i64 0, .int .u64 0, .int .u64 0, .int .u64 0, .int .u64 0, .int .u64 0, .int .i64 0] 54)).setRow w3.heap.size #[.int .i64 0, .int .i64 1, .int .i64 1, .int .u64 5, .int .u64 1, .int .u64 1, .int .u64 2, .int .u64 1, .int .i64 (-1)]) = w4 at hS4 hB4 ⊢
 have HS4 : Hid (Below w3.heap.size w3 w4) := hid hB4
 have HG4 : Hid (w4.heap[w3.heap.size]? = some (.cells #[.int .i64 0, .int .i64 1, .int .i64 1, .int .u64 5, .int .u64 1, .int .u64 1, .int .u64 2, .int .u64 1, .int .i64 (-1)] 54 (0, 0)) ∧ w3.heap.size < w4.heap.size) := hid ⟨hS4, (Array.getElem?_eq_some_iff.1 hS4).1⟩
 have HB4 : Hid (Below w.heap.size w w4) := hid (bE HBNOW.out hB4)
 clear HBNOW
 have HBNOW := HB4
 clear g3 hB4 hr0
 have z0 : w4.cell? ⟨w3.heap.size, 0, none⟩ = some (.int .i64 0) := by rw [cell_of_row w4 _ 0 _ _ _ hS4]; rfl
 have z1 : w4.cell? ⟨w3.heap.size, 1, none⟩ = some (.int .i64 1) := by rw [cell_of_row w4 _ 1 _ _ _ hS4]; rfl
 have z2 : w4.cell? ⟨w3.heap.size, 2, none⟩ = some (.int .i64 1) := by rw [cell_of_row w4 _ 2 _ _ _ hS4]; rfl
 have z3 : w4.cell? ⟨w3.heap.size, 3, none⟩ = some (.int .u64 5) := by rw [cell_of_row w4 _ 3 _ _ _ hS4]; rfl
 have z4 : w4.cell? ⟨w3.heap.size, 4, none⟩ = some (.int .u64 1) := by rw [cell_of_row w4 _ 4 _ _ _ hS4]; rfl
 have z5 : w4.cell? ⟨w3.heap.size, 5, none⟩ = some (.int .u64 1) := by rw [cell_of_row w4 _ 5 _ _ _ hS4]; rfl
 have z6 : w4.cell? ⟨w3.heap.size, 6, none⟩ = some (.int .u64 2) := by rw [cell_of_row w4 _ 6 _ _ _ hS4]; rfl
 have z7 : w4.cell? ⟨w3.heap.size, 7, none⟩ = some (.int .u64 1) := by rw [cell_of_row w4 _ 7 _ _ _ hS4]; rfl
 have z8 : w4.cell? ⟨w3.heap.size, 8, none⟩ = some (.int .i64 (-1)) := by rw [cell_of_row w4 _ 8 _ _ _ hS4]; rfl
 clear hS4
 have hW5 : aX (w4.alloc (.cells #[.int .i64 0, .int .i64 1, .int .i64 1, .int .u64 5, .int .u64 1, .int .u64 1, .int .u64 2, .int .u64 1, .int .i64 (-1)] 54)) (fun b => w4.heap.size ≤ b) true [ed1] (.slice (some ⟨w4.heap.size, 0, none⟩) 1 1) := aX.of_owns (T := 54) ⟨rfl, .inr ⟨w4.heap.size, 1, _, rfl, Nat.le_refl _, heap_alloc_new _ _, Nat.le_refl _, by unfold maxLen; omega, rfl, rfl⟩⟩
 have HO5 := hid (lJ _ _ [ed1] _ _ hW5 (by simp))
 have HA5 : Hid (Below w4.heap.size w4 (w4.alloc (.cells #[.int .i64 0, .int .i64 1, .int .i64 1, .int .u64 5, .int .u64 1, .int .u64 1, .int .u64 2, .int .u64 1, .int .i64 (-1)] 54))) := hid (dB _ _)
 clear hW5
 go_wp2_with fail
 refine HO5.out.mono ?_
 rintro e w5 ⟨v5, rfl, hr5, hb5⟩
 have HR5 := hid hr5
 have HS5 : Hid (Below w4.heap.size w4 w5) := hid (bE HA5.out hb5)
 have HB5 : Hid (Below w.heap.size w w5) := hid (bE HBNOW.out HS5.out)
 clear hr5 hb5 HBNOW HA5 HO5
 have HBNOW := HB5
 clear z0 z1 z2 z3 z4 z5 z6 z7 z8
 have HP6 := hid (bU _ _ ct3 v5 w5 HR5.out kU.2.2 (by simp [ct3]) (HQ.out _ HBNOW.out))
 go_wp2_with fail
 refine HP6.out.mono ?_
 intro e w6 hp
 obtain ⟨u6, rfl, hr, hb⟩ := kw hp qU.2.2
 obtain ⟨-, ad6, cap6, rfl, hcap6⟩ := hr.shape
 obtain ⟨bl6, off6, rfl, -, -⟩ := au.at8 hr (j := 0) (by rw [pK]; omega)
 have HU6 := hid hr
 rw [pK] at hcap6
 rw [pK]
 have HS6 : Hid (Below w5.heap.size w5 w6) := hid hb
 have HB6 : Hid (Below w.heap.size w w6) := hid (bE HBNOW.out hb)
 clear hp hr hb HP6 HBNOW
 have HBNOW := HB6
 have HU2 := hid (HU2.out.below (bE HS3.out (bE HS4.out (bE HS5.out HS6.out))) nl)
 have HU3 := hid (HU3.out.below (bE HS4.out (bE HS5.out HS6.out)) nl)
 have HS : Hid (Below w4.heap.size w4 w6) := hid (bE HS5.out HS6.out)
 have hc7 : au (w6.alloc (.cells #[.int .u8 17, .int .u8 3, .int .u8 2, .int .u8 1, .int .u8 0] 5)) (fun b => w1.heap.size ≤ b) true [17, 3, 2, 1, 0] (.slice (some ⟨bl2, off2, none⟩) 5 cap2) := by
  have h := (au.cut HU2.out 0 5 cap2 (by rw [pI]; omega) (by omega)).below (dB _ (.cells #[.int .u8 17, .int .u8 3, .int .u8 2, .int .u8 1, .int .u8 0] 5)) nl
  rw [DY] at h
  exact h
 have hl7 : au (w6.alloc (.cells #[.int .u8 17, .int .u8 3, .int .u8 2, .int .u8 1, .int .u8 0] 5)) (fun b => b = w6.heap.size) true [17, 3, 2, 1, 0] (.slice (some ⟨w6.heap.size, 0, none⟩) 5 5) := kS (cs := #[.int .u8 17, .int .u8 3, .int .u8 2, .int .u8 1, .int .u8 0]) (heap_alloc_new _ _) rfl (by simp)
 have hs7 := dV _ _ _ _ _ _ _ _ _ hc7 hl7
 rw [decide_eq_true (rfl : [17, 3, 2, 1, 0] = ([17, 3, 2, 1, 0] : List UInt8))] at hs7
 have HM7 := hid hs7
 clear hc7 hl7 hs7
 go_wp2_with fail
 refine HM7.out.mono ?_
 rintro e w7 ⟨rfl, hb⟩
 have HN7 : Hid (Below w6.heap.size w6 w7) := hid (bE (dB _ _) hb)
 have HU2 := hid (HU2.out.below HN7.out nl)
 have HU3 := hid (HU3.out.below HN7.out nl)
 have HU6 := hid (HU6.out.below HN7.out nl)
 have HS := hid (bE HS.out HN7.out)
 have HBN := hid (bE HBNOW.out HN7.out)
 clear hb HBNOW HM7
 have HBNOW := HBN
 clear HBN
 have hc8 : au (w7.alloc (.cells #[.int .u8 18, .int .u8 3, .int .u8 172, .int .u8 2, .int .u8 0] 5)) (fun b => w2.heap.size ≤ b) true [18, 3, 172, 2, 0] (.slice (some ⟨bl3, off3, none⟩) 5 cap3) := by
  have h := (au.cut HU3.out 0 5 cap3 (by rw [pJ]; omega) (by omega)).below (dB _ (.cells #[.int .u8 18, .int .u8 3, .int .u8 172, .int .u8 2, .int .u8 0] 5)) nl
  rw [DZ] at h
  exact h
 have hl8 : au (w7.alloc (.cells #[.int .u8 18, .int .u8 3, .int .u8 172, .int .u8 2, .int .u8 0] 5)) (fun b => b = w7.heap.size) true [18, 3, 172, 2, 0] (.slice (some ⟨w7.heap.size, 0, none⟩) 5 5) := kS (cs := #[.int .u8 18, .int .u8 3, .int .u8 172, .int .u8 2, .int .u8 0]) (heap_alloc_new _ _) rfl (by simp)
 have hs8 := dV _ _ _ _ _ _ _ _ _ hc8 hl8
 rw [decide_eq_true (rfl : [18, 3, 172, 2, 0] = ([18, 3, 172, 2, 0] : List UInt8))] at hs8
 have HM8 := hid hs8
 clear hc8 hl8 hs8
 go_wp2_with fail
 refine HM8.out.mono ?_
 rintro e w8 ⟨rfl, hb⟩
 have HN8 : Hid (Below w7.heap.size w7 w8) := hid (bE (dB _ _) hb)
 have HU2 := hid (HU2.out.below HN8.out nl)
 have HU3 := hid (HU3.out.below HN8.out nl)
 have HU6 := hid (HU6.out.below HN8.out nl)
 have HS := hid (bE HS.out HN8.out)
 have HBN := hid (bE HBNOW.out HN8.out)
 clear hb HBNOW HM8
 have HBNOW := HBN
 clear HBN
 have hc9 : au (w8.alloc (.cells #[.int .u8 20, .int .u8 10, .int .u8 1, .int .u8 0, .int .u8 1, .int .u8 1, .int .u8 5, .int .u8 1, .int .u8 1, .int .u8 2, .int .u8 1, .int .u8 0] 5)) (fun b => w5.heap.size ≤ b) true [20, 10, 1, 0, 1, 1, 5, 1, 1, 2, 1, 0] (.slice (some ⟨bl6, off6, none⟩) 12 cap6) := by
  have h := (au.cut HU6.out 0 12 cap6 (by rw [pK]; omega) (by omega)).below (dB _ (.cells #[.int .u8 20, .int .u8 10, .int .u8 1, .int .u8 0, .int .u8 1, .int .u8 1, .int .u8 5, .int .u8 1, .int .u8 1, .int .u8 2, .int .u8 1, .int .u8 0] 5)) nl
  rw [Ea] at h
  exact h
 have hl9 : au (w8.alloc (.cells #[.int .u8 20, .int .u8 10, .int .u8 1, .int .u8 0, .int .u8 1, .int .u8 1, .int .u8 5, .int .u8 1, .int .u8 1, .int .u8 2, .int .u8 1, .int .u8 0] 5)) (fun b => b = w8.heap.size) true [20, 10, 1, 0, 1, 1, 5, 1, 1, 2, 1, 0] (.slice (some ⟨w8.heap.size, 0, none⟩) 12 12) := kS (cs := #[.int .u8 20, .int .u8 10, .int .u8 1, .int .u8 0, .int .u8 1, .int .u8 1, .int .u8 5, .int .u8 1, .int .u8 1, .int .u8 2, .int .u8 1, .int .u8 0]) (heap_alloc_new _ _) rfl (by simp)
 have hs9 := dV _ _ _ _ _ _ _ _ _ hc9 hl9
 rw [decide_eq_true (rfl : [20, 10, 1, 0, 1, 1, 5, 1, 1, 2, 1, 0] = ([20, 10, 1, 0, 1, 1, 5, 1, 1, 2, 1, 0] : List UInt8))] at hs9
 have HM9 := hid hs9
 clear hc9 hl9 hs9
 go_wp2_with fail
 refine HM9.out.mono ?_
 rintro e w9 ⟨rfl, hb⟩
 have HN9 : Hid (Below w8.heap.size w8 w9) := hid (bE (dB _ _) hb)
 have HU2 := hid (HU2.out.below HN9.out nl)
 have HU3 := hid (HU3.out.below HN9.out nl)
 have HU6 := hid (HU6.out.below HN9.out nl)
 have HS := hid (bE HS.out HN9.out)
 have HBN := hid (bE HBNOW.out HN9.out)
 clear hb HBNOW HM9
 have HBNOW := HBN
 clear HBN
 have hI10 : bn (w9.alloc (.cells #[.int .i64 1, .int .i64 0] 3)) (fun b => b = w9.heap.size) true [1, 0] (.slice (some ⟨w9.heap.size, 0, none⟩) 2 2) := kS (cs := #[.int .i64 1, .int .i64 0]) (heap_alloc_new _ _) rfl (by simp)
 have HO10 := hid (qI _ _ _ _ _ hI10 (by simp))
 have HA10 : Hid (Below w9.heap.size w9 (w9.alloc (.cells #[.int .i64 1, .int .i64 0] 3))) := hid (dB _ _)
 clear hI10
 go_wp2_with fail
 refine HO10.out.mono ?_
 rintro e w10 ⟨v10, rfl, hr10, hb10⟩
 have HR10 := hid hr10
 have HS10 : Hid (Below w9.heap.size w9 w10) := hid (bE HA10.out hb10)
 have HB10 : Hid (Below w.heap.size w w10) := hid (bE HBNOW.out HS10.out)
 clear hr10 hb10 HBNOW HA10 HO10
 have HBNOW := HB10
 have HS := hid (bE HS.out HS10.out)
 have ht11 := aT _ _ ct1 v10 w10 HR10.out kU.1 (.inl (by simp [ct1])) (by simp [ct1]) (HQ.out _ HBNOW.out)
 rw [CR] at ht11
 have HT11 := hid ht11
 clear ht11
 go_wp2_with fail
 refine HT11.out.mono ?_
 rintro e w11 ⟨rfl, hb⟩
 have HS := hid (bE HS.out hb)
 have HBN := hid (bE HBNOW.out hb)
 clear hb HBNOW HT11
 have HBNOW := HBN
 clear HBN
 have hr0 : aL w11 (fun b => True) true ct2 (.agg #[.int .i64 2, .slice none 0 0, .int .i64 300, .int .i64 0, .slice none 0 0]) := ⟨_, _, rfl, bn.nil _ _ _, aX.nil _ _ _⟩
 have ht12 := aT _ _ ct2 _ w11 hr0 kU.2.1 (.inl (by simp [ct2])) (by simp [ct2]) (HQ.out _ HBNOW.out)
 rw [CU] at ht12
 have HT12 := hid ht12
 clear ht12
 go_wp2_with fail
 refine HT12.out.mono ?_
 rintro e w12 ⟨rfl, hb⟩
 have HS := hid (bE HS.out hb)
 have HBN := hid (bE HBNOW.out hb)
 clear hb HBNOW HT12
 have HBNOW := HBN
 clear HBN
 clear hr0
 have hS4 := (HS.out.block _ HG4.out.2).trans HG4.out.1
 have z0 : w12.cell? ⟨w3.heap.size, 0, none⟩ = some (.int .i64 0) := by rw [cell_of_row w12 _ 0 _ _ _ hS4]; rfl
 have z1 : w12.cell? ⟨w3.heap.size, 1, none⟩ = some (.int .i64 1) := by rw [cell_of_row w12 _ 1 _ _ _ hS4]; rfl
 have z2 : w12.cell? ⟨w3.heap.size, 2, none⟩ = some (.int .i64 1) := by rw [cell_of_row w12 _ 2 _ _ _ hS4]; rfl
 have z3 : w12.cell? ⟨w3.heap.size, 3, none⟩ = some (.int .u64 5) := by rw [cell_of_row w12 _ 3 _ _ _ hS4]; rfl
 have z4 : w12.cell? ⟨w3.heap.size, 4, none⟩ = some (.int .u64 1) := by rw [cell_of_row w12 _ 4 _ _ _ hS4]; rfl
 have z5 : w12.cell? ⟨w3.heap.size, 5, none⟩ = some (.int .u64 1) := by rw [cell_of_row w12 _ 5 _ _ _ hS4]; rfl
 have z6 : w12.cell? ⟨w3.heap.size, 6, none⟩ = some (.int .u64 2) := by rw [cell_of_row w12 _ 6 _ _ _ hS4]; rfl
 have z7 : w12.cell? ⟨w3.heap.size, 7, none⟩ = some (.int .u64 1) := by rw [cell_of_row w12 _ 7 _ _ _ hS4]; rfl
 have z8 : w12.cell? ⟨w3.heap.size, 8, none⟩ = some (.int .i64 (-1)) := by rw [cell_of_row w12 _ 8 _ _ _ hS4]; rfl
 clear hS4
 have hW13 : aX (w12.alloc (.cells #[.int .i64 0, .int .i64 1, .int .i64 1, .int .u64 5, .int .u64 1, .int .u64 1, .int .u64 2, .int .u64 1, .int .i64 (-1)] 54)) (fun b => w12.heap.size ≤ b) true [ed1] (.slice (some ⟨w12.heap.size, 0, none⟩) 1 1) := aX.of_owns (T := 54) ⟨rfl, .inr ⟨w12.heap.size, 1, _, rfl, Nat.le_refl _, heap_alloc_new _ _, Nat.le_refl _, by unfold maxLen; omega, rfl, rfl⟩⟩
 have HO13 := hid (lJ _ _ [ed1] _ _ hW13 (by simp))
 have HA13 : Hid (Below w12.heap.size w12 (w12.alloc (.cells #[.int .i64 0, .int .i64 1, .int .i64 1, .int .u64 5, .int .u64 1, .int .u64 1, .int .u64 2, .int .u64 1, .int .i64 (-1)] 54))) := hid (dB _ _)
 clear hW13
 go_wp2_with fail
 refine HO13.out.mono ?_
 rintro e w13 ⟨v13, rfl, hr13, hb13⟩
 have HR13 := hid hr13
 have HS13 : Hid (Below w12.heap.size w12 w13) := hid (bE HA13.out hb13)
 have HB13 : Hid (Below w.heap.size w w13) := hid (bE HBNOW.out HS13.out)
 clear hr13 hb13 HBNOW HA13 HO13
 have HBNOW := HB13
 clear z0 z1 z2 z3 z4 z5 z6 z7 z8
 have HS := hid (bE HS.out HS13.out)
 have ht14 := aT _ _ ct3 v13 w13 HR13.out kU.2.2 (.inl (by simp [ct3])) (by simp [ct3]) (HQ.out _ HBNOW.out)
 rw [CV] at ht14
 have HT14 := hid ht14
 clear ht14
 go_wp2_with fail
 refine HT14.out.mono ?_
 rintro e w14 ⟨rfl, hb⟩
 have HS := hid (bE HS.out hb)
 have HBN := hid (bE HBNOW.out hb)
 clear hb HBNOW HT14
 have HBNOW := HBN
 clear HBN
 go_wp2_with fail
 go_ret
 exact ⟨rfl, HBNOW.out⟩
end Go.Proofs.YtagnalfkmdjajaaGreatDoor
