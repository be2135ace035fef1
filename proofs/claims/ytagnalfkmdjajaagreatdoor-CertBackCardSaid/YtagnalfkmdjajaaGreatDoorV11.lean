/- The examples of chapter 28 hold, wherever the library's variables are as laid: by contracts. Ahead of it: Walks: a certificate's text. Walks: a certificate's text, the reference's. Certificates made of rows, with what their blocks are made of; a certificate in a box. -/
import Derived.Test.YtagnalfkmdjajaaGreatDoorV10
import Derived.Test.YtagnalfkmdjajaaGreatDoorV23
import Derived.Deep.RegionHeld3
import Derived.Laws.Rows
import Derived.Deep.Cut
namespace Go.Proofs.YtagnalfkmdjajaaGreatDoor
open Go.RowKit Go
set_option linter.unusedVariables false
set_option linter.unusedSimpArgs false
theorem itoa_any (n : Int) (h0 : 0 ≤ n) (h1 : n ≤ 9223372036854775807) (w : World) (hL : Lq w.heap.size w) : Calls Tryz.prog 33 #[.int .i64 n] w fun e w' => e = .returned (.string ⟨(Lib.decDigits n.toNat).toArray⟩) ∧ Below w.heap.size w w' := by
  refine (Tryz.strconv_Itoa n (by omega) h1 w hL.lv.tab).mono fun e w' => ?_
  rintro ⟨rfl, k, os, rfl⟩
  exact ⟨by rw [itoa_of h0], Lib.below_grow _ _ (Nat.le_refl _) _ _⟩
theorem names_any (w : World) : Calls Tryz.prog 32 #[] w fun e w' => e = .returned (.agg #[.string ⟨#[]⟩, .string ⟨(crtWord 1).toArray⟩, .string ⟨(crtWord 2).toArray⟩, .string ⟨(crtWord 3).toArray⟩, .string ⟨(crtWord 4).toArray⟩]) ∧ Below w.heap.size w w' := by
  go_enter Tryz.func32, Tryz.ntmps32
  go_wp2_with fail
  exact bodyPost_ret (v := .agg #[.string ⟨#[]⟩, .string ⟨(crtWord 1).toArray⟩, .string ⟨(crtWord 2).toArray⟩, .string ⟨(crtWord 3).toArray⟩, .string ⟨(crtWord 4).toArray⟩]) (by simp [results, Tryz.results32, go_sem]; exact ⟨rfl, rfl, rfl, rfl⟩) rfl ⟨rfl, (Below.refl _ _).alloc (Nat.le_refl _) _⟩
theorem idxNames (k : Int) (hk : k = 1 ∨ k = 2 ∨ k = 3 ∨ k = 4) (W : World) : (Instr.index 73 (.agg #[.string ⟨#[]⟩, .string ⟨(crtWord 1).toArray⟩, .string ⟨(crtWord 2).toArray⟩, .string ⟨(crtWord 3).toArray⟩, .string ⟨(crtWord 4).toArray⟩]) (.int .i64 k)).run Tryz.prog W = .ok (.string ⟨(crtWord k).toArray⟩) W := by
  rcases hk with rfl | rfl | rfl | rfl <;> kernel_rfl
/-- The parts as far as the numbers. -/
def Crt.parts0 (c : Crt) : List (List UInt8) := crtWord c.k :: (if spotK c.k then [Lib.decDigits c.p.toNat, Lib.decDigits c.q.toNat] else [])
theorem Crt.parts_eq (c : Crt) : c.parts = c.parts0 ++ c.o.map (fun n => Lib.decDigits n.toNat) ++ edParts c.w := by simp [Crt.parts, Crt.parts0]
theorem sl_rowN {w : World} {g n : Nat} {cs : Array Value} {T : TypeId} (hg : w.heap[g]? = some (.cells cs T (0, 0))) (hn : cs.size = n) (h : n ≤ 1000) : Sl w (fun b => b = g) true 1 n cs.toList (.slice (some ⟨g, 0, none⟩) n n) := by
  refine ⟨by simp [hn], by omega, _, _, rfl, Nat.le_refl _, fun _ => ⟨_, _, rfl, rfl, fun j hj => ?_⟩⟩
  have hj2 : j < cs.size := by simpa using hj
  rw [cell_of_row _ _ (0 + j) cs T (0, 0) hg, frozen_of_row _ _ (0 + j) cs T hg]
  simp [hj2]
theorem RepC.rows {w : World} {S : Nat → Prop} {own : Bool} {c : Crt} {ov wv a b d : Value} (h : RepC w S own c (.agg #[a, ov, b, d, wv])) : RepI w S own c.o ov ∧ RepW w S own c.w wv := by
  obtain ⟨ov', wv', e, h1, h2⟩ := h
  simp only [Value.agg.injEq, Array.mk.injEq, List.cons.injEq, and_true] at e
  obtain ⟨_, rfl, _, _, rfl⟩ := e
  exact ⟨h1, h2⟩
theorem edParts_len (l : List Ed) : (edParts l).length ≤ 2 * l.length := by
  have : ∀ (l : List Ed) (k : Nat), ((l.zipIdx k).flatMap fun x => edPart x.1 x.2).length ≤ 2 * l.length := by
    intro l
    induction l with
    | nil => intro k; simp
    | cons e l ih =>
      intro k
      have h2 : (edPart e k).length ≤ 2 := by unfold edPart; split <;> simp
      have := ih (k + 1)
      simp only [List.zipIdx_cons, List.flatMap_cons, List.length_append, List.length_cons]
      omega
  exact this l 0
theorem edParts_mem {l : List Ed} (hn : ∀ e ∈ l, e.nums) : ∀ x ∈ edParts l, x.length ≤ 200 := by
  intro x hx
  unfold edParts at hx
  obtain ⟨⟨e, i⟩, he, hx⟩ := List.mem_flatMap.1 hx
  have hm : e ∈ l := by have := List.mem_zipIdx he; rw [this.2.2]; exact List.getElem_mem _
  have ht := Ed.text_len (hn e hm)
  unfold edPart at hx
  split at hx
  · simp only [List.mem_cons, List.not_mem_nil, or_false] at hx; subst hx; exact ht
  · simp only [List.mem_cons, List.not_mem_nil, or_false] at hx
    rcases hx with rfl | rfl
    · simp
    · exact ht
theorem Crt.parts_mem {c : Crt} (hn : c.nums) : ∀ x ∈ c.parts, x.length ≤ 200 := by
  intro x hx
  obtain ⟨n1, n2, n3, n4, n5⟩ := hn
  unfold i64 at n1 n2 n3
  unfold Crt.parts at hx
  simp only [List.mem_cons, List.mem_append, List.mem_map] at hx
  rcases hx with rfl | (hx | ⟨n, hm, rfl⟩) | hx
  · unfold crtWord; split <;> (try split) <;> (try split) <;> simp
  · split at hx
    · simp only [List.mem_cons, List.not_mem_nil, or_false] at hx
      rcases hx with rfl | rfl
      · have := decDigits_le20 c.p.toNat (by omega); omega
      · have := decDigits_le20 c.q.toNat (by omega); omega
    · cases hx
  · have := n4 n hm; unfold i64 at this; have := decDigits_le20 n.toNat (by omega); omega
  · exact edParts_mem n5 x hx
theorem Crt.parts_len {c : Crt} (hn : c.nums) (h1 : c.o.length ≤ 10000) (h2 : c.w.length ≤ 10000) : c.parts.length ≤ 1000000 := by
  have := edParts_len c.w
  unfold Crt.parts
  split <;> simp <;> omega
theorem Crt.told_len {c : Crt} (hn : c.nums) (h1 : c.o.length ≤ 10000) (h2 : c.w.length ≤ 10000) : (Lib.join c.parts [32]).length ≤ 140737488355328 := by
  have h := join_le [32] c.parts 200 1 (Crt.parts_mem hn) (by simp)
  have := Crt.parts_len hn h1 h2
  omega
set_option maxHeartbeats 4000000 in
set_option maxRecDepth 100000 in
theorem certText_any (S : Nat → Prop) (own : Bool) (c : Crt) (v : Value) (w : World) (h : RepC w S own c v) (hn : c.nums) (hlo : c.o.length ≤ 10000 ∨ c.right = false) (hl : c.w.length ≤ 10000) (hL : Lq w.heap.size w) : Calls Tryz.prog 9 #[v] w fun e w' => e = .returned (.string ⟨c.text.toArray⟩) ∧ Below w.heap.size w w' := by
  obtain ⟨i0, hi0, hz0, hz1, hz2⟩ := info_parts infoStr
  obtain ⟨ad, cp, ad', cp', rfl, ho, hv, _, _, k1, k2⟩ := h.shape
  clear h
  have hb0 : Below w.heap.size w (w.alloc (.cells #[.int .i64 c.k, .slice ad c.o.length cp, .int .i64 c.p, .int .i64 c.q, .slice ad' c.w.length cp'] 25)) := (Below.refl _ _).alloc (Nat.le_refl _) _
  have hz0' : (w.alloc (.cells #[.int .i64 c.k, .slice ad c.o.length cp, .int .i64 c.p, .int .i64 c.q, .slice ad' c.w.length cp'] 25)).heap.size = w.heap.size + 1 := World.size_alloc _ _
  have hrep : RepC (w.alloc (.cells #[.int .i64 c.k, .slice ad c.o.length cp, .int .i64 c.p, .int .i64 c.q, .slice ad' c.w.length cp'] 25)) S own c (.agg #[.int .i64 c.k, .slice ad c.o.length cp, .int .i64 c.p, .int .i64 c.q, .slice ad' c.w.length cp']) := ⟨_, _, rfl, ho.below hb0 (Nat.le_refl _), hv.below hb0 (Nat.le_refl _)⟩
  have hLq := (hL.below hb0).mono hb0.size
  have HR := Lib.hid (certRight_any S own c _ _ hrep hn.2.2.2.2 hLq)
  have HV := Lib.hid (And.intro hrep (And.intro hb0 (And.intro (heap_alloc_new w (.cells #[.int .i64 c.k, .slice ad c.o.length cp, .int .i64 c.p, .int .i64 c.q, .slice ad' c.w.length cp'] 25)) (And.intro hz0' hLq))))
  clear ho hv hb0 hz0' hL hrep hLq
  cases hr : c.right with
  | false =>
    rw [hr] at HR
    have HE : Hid ((⟨#[]⟩ : ByteArray) = ⟨c.text.toArray⟩) := Lib.hid (by unfold Crt.text; rw [hr]; rfl)
    clear hr
    go_enter Tryz.func9, Tryz.ntmps9
    go_wp2_with fail
    refine HR.out.mono ?_
    rintro e w1 ⟨rfl, hb1⟩
    go_wp2_with fail
    go_ret
    exact ⟨by rw [← HE.out]; rfl, HV.out.2.1.trans (hb1.mono HV.out.2.1.size)⟩
  | true =>
    rw [hr] at HR
    have hlo1 : c.o.length ≤ 10000 := by rcases hlo with h | h; exact h; rw [hr] at h; cases h
    have HE0 : Hid (Lib.join c.parts [32] = c.text) := Lib.hid (by unfold Crt.text; rw [hr]; rfl)
    have HN := Lib.hid (And.intro hn (Crt.nil_of hr))
    clear hr hn hlo
    go_enter Tryz.func9, Tryz.ntmps9
    go_wp2_with fail
    refine HR.out.mono ?_
    rintro e w1 ⟨rfl, hb1⟩
    obtain ⟨r1, r2, r3, r4, r5⟩ := HV.out
    have hs1 := hb1.size
    have hc1 : w1.heap[w.heap.size]? = some (.cells #[.int .i64 c.k, .slice ad c.o.length cp, .int .i64 c.p, .int .i64 c.q, .slice ad' c.w.length cp'] 25 (0, 0)) := (hb1.block _ (by omega)).trans r3
    have d0 : w1.cell? ⟨w.heap.size, 0, none⟩ = some (.int .i64 c.k) := by rw [cell_of_row w1 _ 0 _ _ _ hc1]; rfl
    have hcl : w.heap.size < w1.heap.size := by omega
    have H1 := Lib.hid (And.intro (r2.trans (hb1.mono r2.size)) (And.intro (r1.below hb1 (Nat.le_refl _)) (And.intro hc1 ((r5.below hb1).mono hs1))))
    clear r1 r2 r3 r4 r5 hb1 hc1
    go_upto_region 3 with fail
    go_cut [3] from 11 to 15 (fun sv wx => wx.ownsRow w1.heap.size 9 1 sv 1 (strs [crtWord c.k]) ∧ Below w1.heap.size w1 wx)
    case first =>
      have hk : c.k = 1 ∨ c.k = 2 ∨ c.k = 3 ∨ c.k = 4 := by have := HN.out.2.2.2.2; omega
      have hi := idxNames c.k hk
      clear hk
      go_region_held3 (fun w' => w'.cell? ⟨w.heap.size, 0, none⟩ = some (.int .i64 c.k)) (first | exact (hb2.cell (p := ⟨w.heap.size, 0, none⟩) hcl).trans d0 | go_keep) (first | (go_at_call 32; refine (names_any _).mono ?_; rintro e w2 ⟨rfl, hb2⟩) | fail)
      have HZ := Lib.hid (show (w2.alloc (.cells #[.string ⟨(crtWord c.k).toArray⟩] 9)).ownsRow w1.heap.size 9 1 (.slice (some ⟨w2.heap.size, 0, none⟩) 1 1) 1 (strs [crtWord c.k]) ∧ Below w1.heap.size w1 (w2.alloc (.cells #[.string ⟨(crtWord c.k).toArray⟩] 9)) from
        have hb : Below w1.heap.size w1 w2 := (Below.refl _ _).drew.trans hb2
        ⟨ownsRow_lit w2 w1.heap.size #[.string ⟨(crtWord c.k).toArray⟩] 9 hb.size (by simp), hb.alloc hb.size _⟩)
      go_simp
      (try (go_wp2_with fail))
      go_meet
      exact HZ.out
    obtain ⟨hown, hbc⟩ := hcut
    have hsc := hbc.size
    have hcc := (hbc.block w.heap.size hcl).trans H1.out.2.2.1
    have d0 : wc.cell? ⟨w.heap.size, 0, none⟩ = some (.int .i64 c.k) := by rw [cell_of_row wc _ 0 _ _ _ hcc]; rfl
    have d2 : wc.cell? ⟨w.heap.size, 2, none⟩ = some (.int .i64 c.p) := by rw [cell_of_row wc _ 2 _ _ _ hcc]; rfl
    have d3 : wc.cell? ⟨w.heap.size, 3, none⟩ = some (.int .i64 c.q) := by rw [cell_of_row wc _ 3 _ _ _ hcc]; rfl
    have HC := Lib.hid (And.intro hown hbc)
    have hclc : w.heap.size < wc.heap.size := by omega
    clear hown hbc hcc
    go_upto_region 4 with fail
    go_cut [23] from 16 to 22 (fun v wx => v = .bool (spotK c.k) ∧ wx = wc)
    case first =>
      by_cases h2 : c.k = 2
      · have t2 : (c.k == 2) = true := by simp [h2]
        have HS : Hid (spotK c.k = true) := Lib.hid (by simp [spotK, h2])
        clear h2
        go_wp2_with fail
        go_meet
        exact ⟨by rw [HS.out], rfl⟩
      · have t2 : (c.k == 2) = false := by simp [h2]
        have HS : Hid (spotK c.k = (c.k == 3)) := Lib.hid (by simp [spotK, h2])
        clear h2
        generalize hb3 : (c.k == 3) = b3 at HS
        cases b3 <;> (go_wp2_with fail; go_meet; exact ⟨by rw [HS.out], rfl⟩)
    obtain ⟨rfl, rfl⟩ := hcut
    obtain ⟨sa, sc, rfl⟩ := owns_slice HC.out.1
    have HQ := Lib.hid ((H1.out.2.2.2.below HC.out.2).mono HC.out.2.size)
    generalize hsp : spotK c.k = sp
    have HSP := Lib.hid hsp
    clear hsp
    go_upto_if 23 with fail
    go_cut [3] from 24 to 32 (fun sv wx => wx.ownsRow w1.heap.size 9 1 sv c.parts0.length (strs c.parts0) ∧ Below w1.heap.size w1 wx)
    case first =>
      cases sp with
      | false =>
        have HP0 : Hid (c.parts0 = [crtWord c.k]) := Lib.hid (by unfold Crt.parts0; rw [HSP.out]; rfl)
        go_wp2_with fail
        go_meet
        rw [HP0.out]
        exact ⟨HC.out.1, HC.out.2⟩
      | true =>
        have HP0 : Hid (c.parts0 = [crtWord c.k] ++ [Lib.decDigits c.p.toNat, Lib.decDigits c.q.toNat]) := Lib.hid (by unfold Crt.parts0; rw [HSP.out]; rfl)
        go_upto_region 5 with fail
        have e2 : w1.cell? ⟨w.heap.size, 2, none⟩ = some (.int .i64 c.p) := by rw [cell_of_row w1 _ 2 _ _ _ H1.out.2.2.1]; rfl
        have e3 : w1.cell? ⟨w.heap.size, 3, none⟩ = some (.int .i64 c.q) := by rw [cell_of_row w1 _ 3 _ _ _ H1.out.2.2.1]; rfl
        have hbW : Below wc.heap.size wc wc := Below.refl _ _
        have g1 : 0 ≤ c.p := by have := HN.out.2.2.2.2.2.2.1; omega
        have g2 : c.p ≤ 9223372036854775807 := HN.out.1.2.1.2
        have g3 : 0 ≤ c.q := by have := HN.out.2.2.2.2.2.2.2.1; omega
        have g4 : c.q ≤ 9223372036854775807 := HN.out.1.2.2.1.2
        have HPC := Lib.hid (fun W (hL : Lq W.heap.size W) => itoa_any c.p g1 g2 W hL)
        have HQC := Lib.hid (fun W (hL : Lq W.heap.size W) => itoa_any c.q g3 g4 W hL)
        have HJ := Lib.hid (show strs [Lib.decDigits c.p.toNat, Lib.decDigits c.q.toNat] = [.string ⟨(Lib.decDigits c.p.toNat).toArray⟩, .string ⟨(Lib.decDigits c.q.toNat).toArray⟩] from rfl)
        generalize (⟨(Lib.decDigits c.p.toNat).toArray⟩ : ByteArray) = DP at HPC HJ
        generalize (⟨(Lib.decDigits c.q.toNat).toArray⟩ : ByteArray) = DQ at HQC HJ
        clear g1 g2 g3 g4
        go_region_held3 (fun w' => w'.cell? ⟨w.heap.size, 2, none⟩ = some (.int .i64 c.p) ∧ w'.cell? ⟨w.heap.size, 3, none⟩ = some (.int .i64 c.q)) (first | exact ⟨(hbW.cell (p := ⟨w.heap.size, 2, none⟩) hclc).trans d2, (hbW.cell (p := ⟨w.heap.size, 3, none⟩) hclc).trans d3⟩ | exact ⟨(hB4.cell (p := ⟨w.heap.size, 2, none⟩) hcl).trans e2, (hB4.cell (p := ⟨w.heap.size, 3, none⟩) hcl).trans e3⟩ | go_keep) (first
          | (go_at_call 33; (first | go_fit (HPC.out _ ((HQ.out.below hbW).mono hbW.size)) | go_fit (HPC.out _ ((HQ.out.below hbW.drew).mono hbW.drew.size)) | go_fit (HQC.out _ ((HQ.out.below hbW).mono hbW.size)) | go_fit (HQC.out _ ((HQ.out.below hbW.drew).mono hbW.drew.size))); rintro e w2 ⟨rfl, hbx⟩; replace hbW : Below wc.heap.size wc w2 := (by first | exact hbW.trans (hbx.mono hbW.size) | exact hbW.drew.trans (hbx.mono hbW.drew.size)); clear hbx)
          | (refine step_append_sl _ (by rfl) (.tmp 24) (.tmp 31) 55 (by rfl) w1.heap.size 9 i0 _ 1 16 Tryz.underlying55 hi0 hz0 hz1 hz2 rfl (by omega) (.slice sa 1 sc) 1 (strs [crtWord c.k]) (by rfl) ((ownsRow_below HC.out.1 hbW (Nat.le_refl _)).alloc _) _ _ 2 [.string DP, .string DQ] _ (by rfl) (sl_litF _ #[.string DP, .string DQ] 9 2 rfl (by omega)) (by simp [Value.oneCell']) (by unfold maxLen; omega) (by omega) (by have := hbW.size; have := HC.out.2.size; simp; omega) ?_; intro v4 w4 hown4 hgrow4 hat4; have hB4 : Below w1.heap.size w1 w4 := (((HC.out.2.trans (hbW.mono HC.out.2.size)).alloc (by have := hbW.size; have := HC.out.2.size; omega) _).grown hgrow4 (by have := hbW.size; have := HC.out.2.size; simp; omega) (fun k hk => (HC.out.1.lt k hk).1)))
          | fail)
        all_goals
          have hlo := HC.out.1.lt
          have hsz := HC.out.2.size
          have hsW := hbW.size
          have HZ := Lib.hid (show w4.ownsRow w1.heap.size 9 1 v4 c.parts0.length (strs c.parts0) ∧ Below w1.heap.size w1 w4 from
            ⟨by rw [HP0.out, strs_append, HJ.out]; simpa using hown4, hB4⟩)
          clear hown4 hgrow4 hat4 hlo hbW hB4
          go_simp
          (try (go_wp2_with fail))
          go_meet
          exact HZ.out
    obtain ⟨hown, hbc⟩ := hcut
    have hs0 := hbc.size
    have hcc := (hbc.block w.heap.size hcl).trans H1.out.2.2.1
    have u1 : wc.cell? ⟨w.heap.size, 1, none⟩ = some (.slice ad c.o.length cp) := by rw [cell_of_row wc _ 1 _ _ _ hcc]; rfl
    have HO := Lib.hid (And.intro hown hbc)
    have hp0 : c.parts0.length ≤ 3 := by unfold Crt.parts0; split <;> simp
    clear hown hbc hcc d0 d2 d3 hclc HC HQ
    go_wp2_with fail
    go_loopw [3, 36] (fun sv i wr => ∃ j : Nat, j ≤ c.o.length ∧ i = .int .i64 j ∧ Hid (wr.ownsRow w1.heap.size 9 1 sv (c.parts0 ++ (c.o.take j).map (fun n => Lib.decDigits n.toNat)).length (strs (c.parts0 ++ (c.o.take j).map (fun n => Lib.decDigits n.toNat))) ∧ Below w1.heap.size w1 wr)) (fun _ i _ => c.o.length - (intOf i).toNat)
    case atStart => exact ⟨0, by omega, rfl, Lib.hid ⟨by simpa using HO.out.1, HO.out.2⟩⟩
    case round =>
      clear HO u1
      obtain ⟨j, hj, rfl, HQ⟩ := hrel
      by_cases hlt : j < c.o.length
      · obtain ⟨bl, off, rfl, _, hbl, hcell⟩ := (RepC.rows H1.out.2.1).1.cell (by omega)
        have g : wr.cell? ⟨bl, off + j, none⟩ = some (.int .i64 c.o[j]) := (HQ.out.2.cell (p := ⟨bl, off + j, none⟩) hbl).trans (hcell j hlt).1
        have h0 := HN.out.2.2.2.2.2.2.2.2.1 c.o[j] (List.getElem_mem hlt)
        have h1 := (HN.out.1.2.2.2.1 c.o[j] (List.getElem_mem hlt)).2
        have hsz := HQ.out.2.size
        have HT : Hid (c.parts0 ++ (c.o.take (j + 1)).map (fun n => Lib.decDigits n.toNat) = c.parts0 ++ (c.o.take j).map (fun n => Lib.decDigits n.toNat) ++ [Lib.decDigits c.o[j].toNat]) := Lib.hid (by rw [List.take_succ_eq_append_getElem hlt, List.map_append, ← List.append_assoc]; rfl)
        have hln : (c.parts0 ++ (c.o.take j).map (fun n => Lib.decDigits n.toNat)).length ≤ 20000 := by simp; omega
        have x1 : (0 : Int) ≤ (j : Int) := by omega
        have x2 : (j : Int) < (c.o.length : Int) := by omega
        have HI := Lib.hid (itoa_any c.o[j] h0 h1 wr ((H1.out.2.2.2.below HQ.out.2).mono hsz))
        have HDS : Hid (strs [Lib.decDigits c.o[j].toNat] = [.string ⟨(Lib.decDigits c.o[j].toNat).toArray⟩]) := Lib.hid rfl
        generalize (⟨(Lib.decDigits c.o[j].toNat).toArray⟩ : ByteArray) = DP at HI HDS
        generalize c.parts0 ++ (c.o.take j).map (fun n => Lib.decDigits n.toNat) = L at HQ HT hln
        obtain ⟨N, hN⟩ : ∃ N, N = L.length := ⟨_, rfl⟩
        rw [← hN] at HQ hln
        have HNL := Lib.hid hN
        obtain ⟨sa, sc, rfl⟩ := owns_slice HQ.out.1
        clear hcell h0 h1 hN
        go_wp2_with fail
        refine HI.out.mono ?_
        rintro e w2 ⟨rfl, hb2⟩
        have hs2 := hb2.size
        have HO2 := Lib.hid (And.intro (ownsRow_below HQ.out.1 hb2 (Nat.le_refl _)) (HQ.out.2.trans (hb2.mono hsz)))
        clear hb2 g
        go_wp2_with (at_builtin; go_loud (refine wpList_append_sl _ rfl (.tmp 40) (.tmp 43) _ rfl w1.heap.size 9 i0 _ 1 16 Tryz.underlying55 hi0 hz0 hz1 hz2 rfl (by omega) _ N (strs L) rfl (HO2.out.1.alloc _) _ _ 1 [.string DP] _ rfl (sl_litF _ #[.string DP] 9 1 rfl (by omega)) (by simp [Value.oneCell']) (by unfold maxLen; omega) (by omega) (by simp; omega) ?_); intro v' w3 hown3 hgrow hat)
        have hlo := HO2.out.1.lt
        have HN3 : Hid (w3.ownsRow w1.heap.size 9 1 v' (c.parts0 ++ (c.o.take (j + 1)).map (fun n => Lib.decDigits n.toNat)).length (strs (c.parts0 ++ (c.o.take (j + 1)).map (fun n => Lib.decDigits n.toNat))) ∧ Below w1.heap.size w1 w3) := Lib.hid (by
          rw [HT.out, strs_append, HDS.out, List.length_append, ← HNL.out]
          exact ⟨hown3, (HO2.out.2.alloc (by omega) _).grown hgrow (by simp; omega) (fun k hk => (hlo k hk).1)⟩)
        clear hown3 hgrow hat hlo
        go_wp2_with fail
        go_roundw
        case rel => exact ⟨j + 1, by omega, by go_num, HN3⟩
        case measure => simp [intOf]; omega
      · have hj2 : j = c.o.length := by omega
        subst hj2
        rw [List.take_length] at HQ
        have hsz := HQ.out.2.size
        have hcc := (HQ.out.2.block w.heap.size hcl).trans H1.out.2.2.1
        have u4 : wr.cell? ⟨w.heap.size, 4, none⟩ = some (.slice ad' c.w.length cp') := by rw [cell_of_row wr _ 4 _ _ _ hcc]; rfl
        have HO := HQ
        have hlL : (c.parts0 ++ c.o.map (fun n => Lib.decDigits n.toNat)).length ≤ 10003 := by simp; omega
        have HPE := Lib.hid (Crt.parts_eq c)
        generalize c.parts0 ++ c.o.map (fun n => Lib.decDigits n.toNat) = L0 at HO HPE hlL
        clear HQ hcc hj
        go_wp2_with fail
        go_loopw [3, 49] (fun sv i wr => ∃ j : Nat, j ≤ c.w.length ∧ i = .int .i64 j ∧ Hid (wr.ownsRow w1.heap.size 9 1 sv (L0 ++ edParts (c.w.take j)).length (strs (L0 ++ edParts (c.w.take j))) ∧ Below w1.heap.size w1 wr)) (fun _ i _ => c.w.length - (intOf i).toNat)
        case atStart => exact ⟨0, by omega, rfl, Lib.hid ⟨by simpa [edParts_nil] using HO.out.1, HO.out.2⟩⟩
        case round =>
          clear HO u4
          obtain ⟨j, hj, rfl, HQ⟩ := hrel
          by_cases hlt2 : j < c.w.length
          · obtain ⟨bl, off, rfl, _, hbl, hcell⟩ := (RepC.rows H1.out.2.1).2.cell (by omega)
            have hsz := HQ.out.2.size
            obtain ⟨⟨s0, s1, s2, s3, s4, s5, s6, s7, s8⟩, _⟩ := hcell j hlt2
            have g0 := (HQ.out.2.cell (p := ⟨bl, off + j * 9, none⟩) hbl).trans s0
            have g1 := (HQ.out.2.cell (p := ⟨bl, off + j * 9 + 1, none⟩) hbl).trans s1
            have g2 := (HQ.out.2.cell (p := ⟨bl, off + j * 9 + 2, none⟩) hbl).trans s2
            have g3 := (HQ.out.2.cell (p := ⟨bl, off + j * 9 + 3, none⟩) hbl).trans s3
            have g4 := (HQ.out.2.cell (p := ⟨bl, off + j * 9 + 4, none⟩) hbl).trans s4
            have g5 := (HQ.out.2.cell (p := ⟨bl, off + j * 9 + 5, none⟩) hbl).trans s5
            have g6 := (HQ.out.2.cell (p := ⟨bl, off + j * 9 + 6, none⟩) hbl).trans s6
            have g7 := (HQ.out.2.cell (p := ⟨bl, off + j * 9 + 7, none⟩) hbl).trans s7
            have g8 := (HQ.out.2.cell (p := ⟨bl, off + j * 9 + 8, none⟩) hbl).trans s8
            have x1 : (0 : Int) ≤ (j : Int) := by omega
            have x2 : (j : Int) < (c.w.length : Int) := by omega
            have HPT := Lib.hid (edParts_take c.w j hlt2)
            have hln : (L0 ++ edParts (c.w.take j)).length ≤ 50000 := by have := edParts_len (c.w.take j); have h2 : (c.w.take j).length ≤ c.w.length := (by simp; omega); simp; omega
            have HE : Hid (∀ W, Below wr.heap.size wr W → Calls Tryz.prog 28 #[.agg #[.int .i64 c.w[j].a, .int .i64 c.w[j].b, .int .i64 c.w[j].k, .int .u64 (c.w[j].x : Nat), .int .u64 (c.w[j].sw : Nat), .int .u64 (c.w[j].sn : Nat), .int .u64 (c.w[j].mw : Nat), .int .u64 (c.w[j].mn : Nat), .int .i64 c.w[j].p]] W fun e w' => e = .returned (.string ⟨c.w[j].text.toArray⟩) ∧ Below W.heap.size W w') := Lib.hid (fun W hb => by
              have hd := edText_any (e := c.w[j]) (HN.out.1.2.2.2.2 _ (List.getElem_mem hlt2)) W (((H1.out.2.2.2.below HQ.out.2).mono hsz |>.below hb).mono hb.size)
              simp only [Ed.vals, str] at hd
              exact hd)
            have HE5G : ∀ W, Lq W.heap.size W → Calls Tryz.prog 28 #[.agg #[.int .i64 c.w[j].a, .int .i64 c.w[j].b, .int .i64 c.w[j].k, .int .u64 (c.w[j].x : Nat), .int .u64 (c.w[j].sw : Nat), .int .u64 (c.w[j].sn : Nat), .int .u64 (c.w[j].mw : Nat), .int .u64 (c.w[j].mn : Nat), .int .i64 c.w[j].p]] W fun e w' => e = .returned (.string ⟨c.w[j].text.toArray⟩) ∧ Below W.heap.size W w' := fun W hL => by
              have hd := edText_any (e := c.w[j]) (HN.out.1.2.2.2.2 _ (List.getElem_mem hlt2)) W hL
              simp only [Ed.vals, str] at hd
              exact hd
            have HEG := Lib.hid HE5G
            clear HE5G
            have HDS : Hid (strs [c.w[j].text] = [.string ⟨c.w[j].text.toArray⟩]) := Lib.hid rfl
            have hbe : Below wr.heap.size wr (wr.alloc (.cells #[.int .i64 c.w[j].a, .int .i64 c.w[j].b, .int .i64 c.w[j].k, .int .u64 (c.w[j].x : Nat), .int .u64 (c.w[j].sw : Nat), .int .u64 (c.w[j].sn : Nat), .int .u64 (c.w[j].mw : Nat), .int .u64 (c.w[j].mn : Nat), .int .i64 c.w[j].p] 54)) := (Below.refl _ _).alloc (Nat.le_refl _) _
            have HBE := Lib.hid hbe
            clear hcell s0 s1 s2 s3 s4 s5 s6 s7 s8 hbe
            by_cases hj0 : j = 0
            · have HT : Hid (L0 ++ edParts (c.w.take (j + 1)) = L0 ++ edParts (c.w.take j) ++ [c.w[j].text]) := Lib.hid (by rw [HPT.out, ← List.append_assoc]; unfold edPart; rw [if_pos hj0])
              have hg0 : decide (0 < j) = false := by simp [hj0]
              generalize (⟨c.w[j].text.toArray⟩ : ByteArray) = DA at HE HEG HDS
              generalize L0 ++ edParts (c.w.take j) = L at HQ HT hln
              obtain ⟨N, hN⟩ : ∃ N, N = L.length := ⟨_, rfl⟩
              rw [← hN] at HQ hln
              have HNL := Lib.hid hN
              obtain ⟨sa, sc, rfl⟩ := owns_slice HQ.out.1
              clear hN hj0 HPT
              go_wp2_with fail
              refine (HE.out _ HBE.out).mono ?_
              rintro e w4 ⟨rfl, hb4⟩
              have hs4 := hb4.size
              (try simp only [World.size_alloc] at hs4)
              have HO4 := Lib.hid (And.intro (ownsRow_below (HQ.out.1.alloc _) hb4 (Nat.le_refl _)) ((HQ.out.2.alloc (by omega) _).trans (hb4.mono (by simp; omega))))
              clear hb4
              go_wp2_with (at_builtin; go_loud (refine wpList_append_sl _ rfl (.tmp 59) (.tmp 62) _ rfl w1.heap.size 9 i0 _ 1 16 Tryz.underlying55 hi0 hz0 hz1 hz2 rfl (by omega) _ N (strs L) rfl (HO4.out.1.alloc _) _ _ 1 [.string DA] _ rfl (sl_litF _ #[.string DA] 9 1 rfl (by omega)) (by simp [Value.oneCell']) (by unfold maxLen; omega) (by omega) (by simp; omega) ?_); intro v' w3 hown3 hgrow hat)
              have hlo := HO4.out.1.lt
              have HN3 : Hid (w3.ownsRow w1.heap.size 9 1 v' (L0 ++ edParts (c.w.take (j + 1))).length (strs (L0 ++ edParts (c.w.take (j + 1)))) ∧ Below w1.heap.size w1 w3) := Lib.hid (by
                rw [HT.out, strs_append, HDS.out, List.length_append, ← HNL.out]
                exact ⟨hown3, (HO4.out.2.alloc (by omega) _).grown hgrow (by simp; omega) (fun k hk => (hlo k hk).1)⟩)
              clear hown3 hgrow hat hlo
              go_wp2_with fail
              go_roundw
              case rel => exact ⟨j + 1, by omega, by go_num, HN3⟩
              case measure => simp [intOf]; omega
            · have HT : Hid (L0 ++ edParts (c.w.take (j + 1)) = L0 ++ edParts (c.w.take j) ++ [[59]] ++ [c.w[j].text]) := Lib.hid (by rw [HPT.out, ← List.append_assoc]; unfold edPart; rw [if_neg hj0]; simp)
              have hg0 : decide (0 < j) = true := by simp; omega
              generalize (⟨c.w[j].text.toArray⟩ : ByteArray) = DA at HE HEG HDS
              generalize L0 ++ edParts (c.w.take j) = L at HQ HT hln
              obtain ⟨N, hN⟩ : ∃ N, N = L.length := ⟨_, rfl⟩
              rw [← hN] at HQ hln
              have HNL := Lib.hid hN
              have HN5 : Hid ((L ++ [[59]]).length = N + 1) := Lib.hid (by rw [hN]; simp)
              obtain ⟨sa, sc, rfl⟩ := owns_slice HQ.out.1
              clear hN hj0 HPT
              go_upto_region 16 with (at_builtin; go_loud (refine wpList_append_sl _ rfl (.tmp 56) (.tmp 57) _ rfl w1.heap.size 9 i0 _ 1 16 Tryz.underlying55 hi0 hz0 hz1 hz2 rfl (by omega) _ N (strs L) rfl ((HQ.out.1.alloc _).alloc _) _ _ 1 [.string ⟨#[59]⟩] _ rfl (sl_litG _ #[.string ⟨#[59]⟩] 9 1 (wr.heap.size + 1) rfl (by omega) (by simp)) (by simp [Value.oneCell']) (by unfold maxLen; omega) (by omega) (by simp; omega) ?_); intro v' w5 hown5 hgrow hat)
              have hlo5 := HQ.out.1.lt
              have hB5 : Below wr.heap.size wr w5 → True := fun _ => trivial
              have HQ9 : Hid (∀ o, w5.cell? ⟨wr.heap.size, o, none⟩ = (#[.int .i64 c.w[j].a, .int .i64 c.w[j].b, .int .i64 c.w[j].k, .int .u64 (c.w[j].x : Nat), .int .u64 (c.w[j].sw : Nat), .int .u64 (c.w[j].sn : Nat), .int .u64 (c.w[j].mw : Nat), .int .u64 (c.w[j].mn : Nat), .int .i64 c.w[j].p] : Array Value)[o]?) := Lib.hid (fun o => by
                rw [hgrow.cell_far ⟨wr.heap.size, o, none⟩ (by simp; omega) (fun e => by have h : wr.heap.size < wr.heap.size := (hlo5 _ e.symm).2; omega)]
                exact cell_of_row _ _ o _ _ _ ((Below.heap_alloc _ _ _ (by simp)).trans (heap_alloc_new wr _)))
              have q0 : w5.cell? ⟨wr.heap.size, 0, none⟩ = some (.int .i64 c.w[j].a) := HQ9.out 0
              have q1 : w5.cell? ⟨wr.heap.size, 1, none⟩ = some (.int .i64 c.w[j].b) := HQ9.out 1
              have q2 : w5.cell? ⟨wr.heap.size, 2, none⟩ = some (.int .i64 c.w[j].k) := HQ9.out 2
              have q3 : w5.cell? ⟨wr.heap.size, 3, none⟩ = some (.int .u64 (c.w[j].x : Nat)) := HQ9.out 3
              have q4 : w5.cell? ⟨wr.heap.size, 4, none⟩ = some (.int .u64 (c.w[j].sw : Nat)) := HQ9.out 4
              have q5 : w5.cell? ⟨wr.heap.size, 5, none⟩ = some (.int .u64 (c.w[j].sn : Nat)) := HQ9.out 5
              have q6 : w5.cell? ⟨wr.heap.size, 6, none⟩ = some (.int .u64 (c.w[j].mw : Nat)) := HQ9.out 6
              have q7 : w5.cell? ⟨wr.heap.size, 7, none⟩ = some (.int .u64 (c.w[j].mn : Nat)) := HQ9.out 7
              have q8 : w5.cell? ⟨wr.heap.size, 8, none⟩ = some (.int .i64 c.w[j].p) := HQ9.out 8
              have hs5 := hgrow.size
              simp only [World.size_alloc] at hs5
              have HO5 : Hid (w5.ownsRow w1.heap.size 9 1 v' (N + 1) (strs (L ++ [[59]])) ∧ Below w1.heap.size w1 w5 ∧ Lq w5.heap.size w5) := Lib.hid (by
                have hb : Below w1.heap.size w1 w5 := (((HQ.out.2.alloc (by omega) _).alloc (by simp; omega) _).grown hgrow (by simp; omega) (fun k hk => (hlo5 k hk).1))
                refine ⟨by rw [strs_append]; exact hown5, hb, (H1.out.2.2.2.below hb).mono (by omega)⟩)
              have HE5 : Hid (Calls Tryz.prog 28 #[.agg #[.int .i64 c.w[j].a, .int .i64 c.w[j].b, .int .i64 c.w[j].k, .int .u64 (c.w[j].x : Nat), .int .u64 (c.w[j].sw : Nat), .int .u64 (c.w[j].sn : Nat), .int .u64 (c.w[j].mw : Nat), .int .u64 (c.w[j].mn : Nat), .int .i64 c.w[j].p]] w5 fun e w' => e = .returned (.string DA) ∧ Below w5.heap.size w5 w') := Lib.hid (HEG.out w5 HO5.out.2.2)
              obtain ⟨va, vc, rfl⟩ := owns_slice hown5
              clear hown5 hgrow hat hlo5 hB5
              go_wp2_with fail
              refine HE5.out.mono ?_
              rintro e w4 ⟨rfl, hb4⟩
              have hs4 := hb4.size
              (try simp only [World.size_alloc] at hs4)
              have HO4 := Lib.hid (And.intro (ownsRow_below HO5.out.1 hb4 (Nat.le_refl _)) (HO5.out.2.1.trans (hb4.mono (by omega))))
              clear hb4
              go_wp2_with (at_builtin; go_loud (refine wpList_append_sl _ rfl (.tmp 59) (.tmp 62) _ rfl w1.heap.size 9 i0 _ 1 16 Tryz.underlying55 hi0 hz0 hz1 hz2 rfl (by omega) _ (N + 1) (strs (L ++ [[59]])) rfl (HO4.out.1.alloc _) _ _ 1 [.string DA] _ rfl (sl_litF _ #[.string DA] 9 1 rfl (by omega)) (by simp [Value.oneCell']) (by unfold maxLen; omega) (by omega) (by simp; omega) ?_); intro v' w3 hown3 hgrow hat)
              have hlo := HO4.out.1.lt
              have HN3 : Hid (w3.ownsRow w1.heap.size 9 1 v' (L0 ++ edParts (c.w.take (j + 1))).length (strs (L0 ++ edParts (c.w.take (j + 1)))) ∧ Below w1.heap.size w1 w3) := Lib.hid (by
                rw [HT.out, strs_append, HDS.out, List.length_append, HN5.out]
                exact ⟨hown3, (HO4.out.2.alloc (by omega) _).grown hgrow (by simp; omega) (fun k hk => (hlo k hk).1)⟩)
              clear hown3 hgrow hat hlo
              go_wp2_with fail
              go_roundw
              case rel => exact ⟨j + 1, by omega, by go_num, HN3⟩
              case measure => simp [intOf]; omega
          · have hj2 : j = c.w.length := by omega
            subst hj2
            rw [List.take_length, ← HPE.out] at HQ
            have hsz := HQ.out.2.size
            obtain ⟨sa, sc, rfl⟩ := owns_slice HQ.out.1
            have HJ := Lib.hid (joinS_any _ c.parts _ [32] wr (Sl.of_owns HQ.out.1 (by omega)) (Crt.parts_len HN.out.1 hlo1 hl) (Crt.told_len HN.out.1 hlo1 hl))
            clear hj
            go_wp2_with fail
            refine HJ.out.mono ?_
            rintro e w5 ⟨rfl, hb5⟩
            have HF := Lib.hid (H1.out.1.trans ((HQ.out.2.trans (hb5.mono hsz)).mono H1.out.1.size))
            rw [HE0.out]
            go_wp2_with fail
            go_ret
            exact ⟨rfl, HF.out⟩
end Go.Proofs.YtagnalfkmdjajaaGreatDoor
namespace Go.Proofs.YtagnalfkmdjajaaGreatDoor
open Go.RowKit Go
set_option linter.unusedVariables false
set_option linter.unusedSimpArgs false
end Go.Proofs.YtagnalfkmdjajaaGreatDoor
namespace Go.Proofs.YtagnalfkmdjajaaGreatDoor
open Go.RowKit Go
set_option linter.unusedVariables false
set_option linter.unusedSimpArgs false
/-- A block made of such cells. -/
def IsT (w : World) (T : TypeId) (b : Nat) : Prop := ∃ cs fr, w.heap[b]? = some (.cells cs T fr)
theorem IsT.keep {w w' : World} {T : TypeId} {b : Nat} (h : IsT w T b) (e : w'.heap[b]? = w.heap[b]?) : IsT w' T b := by
  obtain ⟨cs, fr, h⟩ := h
  exact ⟨cs, fr, e.trans h⟩
theorem IsT.ne {w : World} {T T' : TypeId} {b : Nat} (h : IsT w T b) (h' : IsT w T' b) : T = T' := by
  obtain ⟨cs, fr, h⟩ := h
  obtain ⟨cs', fr', h'⟩ := h'
  rw [h] at h'
  cases h'
  rfl
theorem RepC.wider {w : World} {S S' : Nat → Prop} {own : Bool} {c : Crt} {v : Value} (h : RepC w S own c v) (hS : ∀ b, b < w.heap.size → S b → S' b) : RepC w S' own c v := h.keep (fun _ _ _ => rfl) hS
/-- A certificate in a box. -/
structure Cx (T : TypeId) (g : Nat) (S : Nat → Prop) (c : Crt) (cs : Array Value) (w : World) : Prop where
  h : w.heap[g]? = some (.cells cs T (0, 0))
  r : RepC w S false c (.agg cs)
theorem Cx.below {B : Nat} {T : TypeId} {g : Nat} {S : Nat → Prop} {c : Crt} {cs : Array Value} {w w' : World} (h : Cx T g S c cs w) (hb : Below B w w') (hB : w.heap.size ≤ B) : Cx T g S c cs w' :=
  ⟨(hb.block _ (Nat.lt_of_lt_of_le (Array.getElem?_eq_some_iff.1 h.h).1 hB)).trans h.h, h.r.below hb hB⟩
theorem Cx.lt {T : TypeId} {g : Nat} {S : Nat → Prop} {c : Crt} {cs : Array Value} {w : World} (h : Cx T g S c cs w) : g < w.heap.size := (Array.getElem?_eq_some_iff.1 h.h).1
theorem Cx.cells {T : TypeId} {g : Nat} {S : Nat → Prop} {c : Crt} {a0 a1 a2 a3 a4 : Value} {w : World} (h : Cx T g S c #[a0, a1, a2, a3, a4] w) : w.cell? ⟨g, 0, none⟩ = some a0 ∧ w.cell? ⟨g, 1, none⟩ = some a1 ∧ w.cell? ⟨g, 2, none⟩ = some a2 ∧ w.cell? ⟨g, 3, none⟩ = some a3 ∧ w.cell? ⟨g, 4, none⟩ = some a4 := by
  refine ⟨?_, ?_, ?_, ?_, ?_⟩
  · rw [cell_of_row w _ 0 _ _ _ h.h]; rfl
  · rw [cell_of_row w _ 1 _ _ _ h.h]; rfl
  · rw [cell_of_row w _ 2 _ _ _ h.h]; rfl
  · rw [cell_of_row w _ 3 _ _ _ h.h]; rfl
  · rw [cell_of_row w _ 4 _ _ _ h.h]; rfl
/-- What a certificate's Put answers, in one. -/
def Crt.put (c : Crt) : List UInt8 := if c.right then c.bytes else []
def Crt.err (c : Crt) : Int := if c.right then 0 else 280
theorem PutC.uni {w w' : World} {c : Crt} {e : Ending} (h : PutC w c e w') : ∃ u, e = .returned (.tuple #[u, .int .i64 c.err]) ∧ RepB w' (fun b => w.heap.size ≤ b) true c.put u ∧ Below w.heap.size w w' := by
  obtain ⟨h, hb⟩ := h
  unfold Crt.put Crt.err
  rcases h with ⟨hr, u, rfl, hu⟩ | ⟨hr, rfl⟩
  · exact ⟨u, by rw [hr]; rfl, by rw [hr]; exact hu, hb⟩
  · exact ⟨_, by rw [hr]; rfl, by rw [hr]; exact Sl.nil _ _ _ _, hb⟩
theorem few40_any (k p q : Int) (ad ad' : Option Addr) (n m cp cp' : Nat) (w : World) :
    Calls Tryz.prog 5 #[.agg #[.int .i64 k, .slice ad n cp, .int .i64 p, .int .i64 q, .slice ad' m cp'], .int .i64 40] w fun e w' => e = .returned (.bool (decide (n ≤ 40) && decide (m ≤ 40))) ∧ Below w.heap.size w w' :=
  fewCert_any k p q ad ad' n m cp cp' 40 w (by omega)
end Go.Proofs.YtagnalfkmdjajaaGreatDoor
namespace Go.Proofs.YtagnalfkmdjajaaGreatDoor
open Go.RowKit Go
set_option linter.unusedVariables false
set_option linter.unusedSimpArgs false
def ed1 : Ed := ⟨0, 1, 1, 5, 1, 1, 2, 1, -1⟩
def ct1 : Crt := ⟨1, [1, 0], 0, 0, []⟩
def ct2 : Crt := ⟨2, [], 300, 0, []⟩
def ct3 : Crt := ⟨4, [], 0, 0, [ed1]⟩
theorem ct_right : ct1.right = true ∧ ct2.right = true ∧ ct3.right = true := by decide +kernel
theorem ct_len1 : ct1.bytes.length = 9 := by decide +kernel
theorem ct_cut1 : (ct1.bytes.drop 0).take 5 = [17, 3, 2, 1, 0] := by decide +kernel
theorem ct_len2 : ct2.bytes.length = 9 := by decide +kernel
theorem ct_cut2 : (ct2.bytes.drop 0).take 5 = [18, 3, 172, 2, 0] := by decide +kernel
theorem ct_len3 : ct3.bytes.length = 16 := by decide +kernel
theorem ct_cut3 : (ct3.bytes.drop 0).take 12 = [20, 10, 1, 0, 1, 1, 5, 1, 1, 2, 1, 0] := by decide +kernel
theorem ct_text1 : ct1.text = [115, 101, 114, 105, 97, 108, 32, 49, 32, 48] := by decide +kernel
theorem ct_text2 : ct2.text = [100, 105, 114, 116, 121, 32, 51, 48, 48, 32, 48] := by decide +kernel
theorem ct_text3 : ct3.text = [99, 121, 99, 108, 101, 32, 48, 32, 119, 119, 32, 49, 32, 53, 32, 49, 46, 49, 32, 50, 46, 49, 32, 45, 49] := by decide +kernel
theorem ct_nums : ct1.nums ∧ ct2.nums ∧ ct3.nums := by
  refine ⟨?_, ?_, ?_⟩ <;> simp [Crt.nums, ct1, ct2, ct3, ed1, Ed.nums, i64]
theorem bstep {w w0 w1 : World} (h : Below w.heap.size w w0) (h1 : Below w0.heap.size w0 w1) : Below w.heap.size w w1 := h.trans (h1.mono h.size)
theorem balloc (w : World) (b : Obj) : Below w.heap.size w (w.alloc b) := (Below.refl _ _).alloc (Nat.le_refl _) _
theorem putYes {w w' : World} {c : Crt} {e : Ending} (h : PutC w c e w') (hr : c.right = true) : ∃ u, e = .returned (.tuple #[u, .int .i64 0]) ∧ RepB w' (fun b => w.heap.size ≤ b) true c.bytes u ∧ Below w.heap.size w w' := by
  obtain ⟨⟨_, u, h1, h2⟩ | ⟨h, _⟩, hb⟩ := h
  · exact ⟨u, h1, h2, hb⟩
  · rw [hr] at h; cases h
set_option maxHeartbeats 8000000 in
set_option maxRecDepth 100000 in
theorem works28_any (w : World) (hL : Lq w.heap.size w) : Calls Tryz.prog 6 #[] w fun e w' => e = .returned (.bool true) ∧ Below w.heap.size w w' := by
  have HQ : Hid (∀ wx, Below w.heap.size w wx → Lq wx.heap.size wx) := Lib.hid (fun wx hb => (hL.below hb).mono hb.size)
  clear hL
  have HBNOW : Hid (Below w.heap.size w w) := Lib.hid (Below.refl _ _)
  go_enter Tryz.func6, Tryz.ntmps6
  have hI1 : RepI (w.alloc (.cells #[.int .i64 1, .int .i64 0] 3)) (fun b => b = w.heap.size) true [1, 0] (.slice (some ⟨w.heap.size, 0, none⟩) 2 2) := sl_rowN (cs := #[.int .i64 1, .int .i64 0]) (heap_alloc_new _ _) rfl (by simp)
  have HO1 := Lib.hid (certOf_any _ _ _ _ _ hI1 (by simp))
  have HA1 : Hid (Below w.heap.size w (w.alloc (.cells #[.int .i64 1, .int .i64 0] 3))) := Lib.hid (balloc _ _)
  clear hI1
  go_wp2_with fail
  refine HO1.out.mono ?_
  rintro e w1 ⟨v1, rfl, hr1, hb1⟩
  have HR1 := Lib.hid hr1
  have HS1 : Hid (Below w.heap.size w w1) := Lib.hid (bstep HA1.out hb1)
  have HB1 : Hid (Below w.heap.size w w1) := Lib.hid (bstep HBNOW.out HS1.out)
  clear hr1 hb1 HBNOW HA1 HO1
  have HBNOW := HB1
  have HP2 := Lib.hid (certPut_any _ _ ct1 v1 w1 HR1.out ct_nums.1 (by simp [ct1]) (HQ.out _ HBNOW.out))
  go_wp2_with fail
  refine HP2.out.mono ?_
  intro e w2 hp
  obtain ⟨u2, rfl, hr, hb⟩ := putYes hp ct_right.1
  obtain ⟨-, ad2, cap2, rfl, hcap2⟩ := hr.shape
  obtain ⟨bl2, off2, rfl, -, -⟩ := RepB.at8 hr (j := 0) (by rw [ct_len1]; omega)
  have HU2 := Lib.hid hr
  rw [ct_len1] at hcap2
  rw [ct_len1]
  have HS2 : Hid (Below w1.heap.size w1 w2) := Lib.hid hb
  have HB2 : Hid (Below w.heap.size w w2) := Lib.hid (bstep HBNOW.out hb)
  clear hp hr hb HP2 HBNOW
  have HBNOW := HB2
  have hr0 : RepC w2 (fun b => True) true ct2 (.agg #[.int .i64 2, .slice none 0 0, .int .i64 300, .int .i64 0, .slice none 0 0]) := ⟨_, _, rfl, RepI.nil _ _ _, RepW.nil _ _ _⟩
  have HP3 := Lib.hid (certPut_any _ _ ct2 _ w2 hr0 ct_nums.2.1 (by simp [ct2]) (HQ.out _ HBNOW.out))
  go_wp2_with fail
  refine HP3.out.mono ?_
  intro e w3 hp
  obtain ⟨u3, rfl, hr, hb⟩ := putYes hp ct_right.2.1
  obtain ⟨-, ad3, cap3, rfl, hcap3⟩ := hr.shape
  obtain ⟨bl3, off3, rfl, -, -⟩ := RepB.at8 hr (j := 0) (by rw [ct_len2]; omega)
  have HU3 := Lib.hid hr
  rw [ct_len2] at hcap3
  rw [ct_len2]
  have HS3 : Hid (Below w2.heap.size w2 w3) := Lib.hid hb
  have HB3 : Hid (Below w.heap.size w w3) := Lib.hid (bstep HBNOW.out hb)
  clear hp hr hb HP3 HBNOW
  have HBNOW := HB3
  have g3 := heap_alloc_new w3 (.cells #[.int .i64 0, .int .i64 0, .int .i64 0, .int .u64 0, .int .u64 0, .int .u64 0, .int .u64 0, .int .u64 0, .int .i64 0] 54)
  go_upto_region 4 with (refine wpList_store_row rfl 54 (.tmp 5) (.tmp 22) rfl rfl w3.heap.size rfl _ rfl 54 _ g3 (by kernel_rfl) rfl (by simp [Value.oneCell']) ?_)
  have hS4 := setRow_heap _ _ _ #[.int .i64 0, .int .i64 1, .int .i64 1, .int .u64 5, .int .u64 1, .int .u64 1, .int .u64 2, .int .u64 1, .int .i64 (-1)] _ _ g3
  have hB4 : Below w3.heap.size w3 ((w3.alloc (.cells #[.int .i64 0, .int .i64 0, .int .i64 0, .int .u64 0, .int .u64 0, .int .u64 0, .int .u64 0, .int .u64 0, .int .i64 0] 54)).setRow w3.heap.size #[.int .i64 0, .int .i64 1, .int .i64 1, .int .u64 5, .int .u64 1, .int .u64 1, .int .u64 2, .int .u64 1, .int .i64 (-1)]) := below_setRow (balloc _ _) _ _ (Nat.le_refl _)
  generalize ((w3.alloc (.cells #[.int .i64 0, .int .i64 0, .int .i64 0, .int .u64 0, .int .u64 0, .int .u64 0, .int .u64 0, .int .u64 0, .int .i64 0] 54)).setRow w3.heap.size #[.int .i64 0, .int .i64 1, .int .i64 1, .int .u64 5, .int .u64 1, .int .u64 1, .int .u64 2, .int .u64 1, .int .i64 (-1)]) = w4 at hS4 hB4 ⊢
  have HS4 : Hid (Below w3.heap.size w3 w4) := Lib.hid hB4
  have HG4 : Hid (w4.heap[w3.heap.size]? = some (.cells #[.int .i64 0, .int .i64 1, .int .i64 1, .int .u64 5, .int .u64 1, .int .u64 1, .int .u64 2, .int .u64 1, .int .i64 (-1)] 54 (0, 0)) ∧ w3.heap.size < w4.heap.size) := Lib.hid ⟨hS4, (Array.getElem?_eq_some_iff.1 hS4).1⟩
  have HB4 : Hid (Below w.heap.size w w4) := Lib.hid (bstep HBNOW.out hB4)
  clear HBNOW
  have HBNOW := HB4
  clear g3 hB4 hr0
  have z0 : w4.cell? ⟨w3.heap.size, 0, none⟩ = some (.int .i64 0) := by rw [cell_of_row w4 _ 0 _ _ _ hS4]; rfl
  have z1 : w4.cell? ⟨w3.heap.size, 1, none⟩ = some (.int .i64 1) := by rw [cell_of_row w4 _ 1 _ _ _ hS4]; rfl
  have z2 : w4.cell? ⟨w3.heap.size, 2, none⟩ = some (.int .i64 1) := by rw [cell_of_row w4 _ 2 _ _ _ hS4]; rfl
  have z3 : w4.cell? ⟨w3.heap.size, 3, none⟩ = some (.int .u64 5) := by rw [cell_of_row w4 _ 3 _ _ _ hS4]; rfl
  have z4 : w4.cell? ⟨w3.heap.size, 4, none⟩ = some (.int .u64 1) := by rw [cell_of_row w4 _ 4 _ _ _ hS4]; rfl
  have z5 : w4.cell? ⟨w3.heap.size, 5, none⟩ = some (.int .u64 1) := by rw [cell_of_row w4 _ 5 _ _ _ hS4]; rfl
  have z6 : w4.cell? ⟨w3.heap.size, 6, none⟩ = some (.int .u64 2) := by rw [cell_of_row w4 _ 6 _ _ _ hS4]; rfl
  have z7 : w4.cell? ⟨w3.heap.size, 7, none⟩ = some (.int .u64 1) := by rw [cell_of_row w4 _ 7 _ _ _ hS4]; rfl
  have z8 : w4.cell? ⟨w3.heap.size, 8, none⟩ = some (.int .i64 (-1)) := by rw [cell_of_row w4 _ 8 _ _ _ hS4]; rfl
  clear hS4
  have hW5 : RepW (w4.alloc (.cells #[.int .i64 0, .int .i64 1, .int .i64 1, .int .u64 5, .int .u64 1, .int .u64 1, .int .u64 2, .int .u64 1, .int .i64 (-1)] 54)) (fun b => w4.heap.size ≤ b) true [ed1] (.slice (some ⟨w4.heap.size, 0, none⟩) 1 1) := RepW.of_owns (T := 54) ⟨rfl, .inr ⟨w4.heap.size, 1, _, rfl, Nat.le_refl _, heap_alloc_new _ _, Nat.le_refl _, by unfold maxLen; omega, rfl, rfl⟩⟩
  have HO5 := Lib.hid (certRound_any _ _ [ed1] _ _ hW5 (by simp))
  have HA5 : Hid (Below w4.heap.size w4 (w4.alloc (.cells #[.int .i64 0, .int .i64 1, .int .i64 1, .int .u64 5, .int .u64 1, .int .u64 1, .int .u64 2, .int .u64 1, .int .i64 (-1)] 54))) := Lib.hid (balloc _ _)
  clear hW5
  go_wp2_with fail
  refine HO5.out.mono ?_
  rintro e w5 ⟨v5, rfl, hr5, hb5⟩
  have HR5 := Lib.hid hr5
  have HS5 : Hid (Below w4.heap.size w4 w5) := Lib.hid (bstep HA5.out hb5)
  have HB5 : Hid (Below w.heap.size w w5) := Lib.hid (bstep HBNOW.out HS5.out)
  clear hr5 hb5 HBNOW HA5 HO5
  have HBNOW := HB5
  clear z0 z1 z2 z3 z4 z5 z6 z7 z8
  have HP6 := Lib.hid (certPut_any _ _ ct3 v5 w5 HR5.out ct_nums.2.2 (by simp [ct3]) (HQ.out _ HBNOW.out))
  go_wp2_with fail
  refine HP6.out.mono ?_
  intro e w6 hp
  obtain ⟨u6, rfl, hr, hb⟩ := putYes hp ct_right.2.2
  obtain ⟨-, ad6, cap6, rfl, hcap6⟩ := hr.shape
  obtain ⟨bl6, off6, rfl, -, -⟩ := RepB.at8 hr (j := 0) (by rw [ct_len3]; omega)
  have HU6 := Lib.hid hr
  rw [ct_len3] at hcap6
  rw [ct_len3]
  have HS6 : Hid (Below w5.heap.size w5 w6) := Lib.hid hb
  have HB6 : Hid (Below w.heap.size w w6) := Lib.hid (bstep HBNOW.out hb)
  clear hp hr hb HP6 HBNOW
  have HBNOW := HB6
  have HU2 := Lib.hid (HU2.out.below (bstep HS3.out (bstep HS4.out (bstep HS5.out HS6.out))) (Nat.le_refl _))
  have HU3 := Lib.hid (HU3.out.below (bstep HS4.out (bstep HS5.out HS6.out)) (Nat.le_refl _))
  have HS : Hid (Below w4.heap.size w4 w6) := Lib.hid (bstep HS5.out HS6.out)
  have hc7 : RepB (w6.alloc (.cells #[.int .u8 17, .int .u8 3, .int .u8 2, .int .u8 1, .int .u8 0] 5)) (fun b => w1.heap.size ≤ b) true [17, 3, 2, 1, 0] (.slice (some ⟨bl2, off2, none⟩) 5 cap2) := by
    have h := (RepB.cut HU2.out 0 5 cap2 (by rw [ct_len1]; omega) (by omega)).below (balloc _ (.cells #[.int .u8 17, .int .u8 3, .int .u8 2, .int .u8 1, .int .u8 0] 5)) (Nat.le_refl _)
    rw [ct_cut1] at h
    exact h
  have hl7 : RepB (w6.alloc (.cells #[.int .u8 17, .int .u8 3, .int .u8 2, .int .u8 1, .int .u8 0] 5)) (fun b => b = w6.heap.size) true [17, 3, 2, 1, 0] (.slice (some ⟨w6.heap.size, 0, none⟩) 5 5) := sl_rowN (cs := #[.int .u8 17, .int .u8 3, .int .u8 2, .int .u8 1, .int .u8 0]) (heap_alloc_new _ _) rfl (by simp)
  have hs7 := sameBytes_any _ _ _ _ _ _ _ _ _ hc7 hl7
  rw [decide_eq_true (rfl : [17, 3, 2, 1, 0] = ([17, 3, 2, 1, 0] : List UInt8))] at hs7
  have HM7 := Lib.hid hs7
  clear hc7 hl7 hs7
  go_wp2_with fail
  refine HM7.out.mono ?_
  rintro e w7 ⟨rfl, hb⟩
  have HN7 : Hid (Below w6.heap.size w6 w7) := Lib.hid (bstep (balloc _ _) hb)
  have HU2 := Lib.hid (HU2.out.below HN7.out (Nat.le_refl _))
  have HU3 := Lib.hid (HU3.out.below HN7.out (Nat.le_refl _))
  have HU6 := Lib.hid (HU6.out.below HN7.out (Nat.le_refl _))
  have HS := Lib.hid (bstep HS.out HN7.out)
  have HBN := Lib.hid (bstep HBNOW.out HN7.out)
  clear hb HBNOW HM7
  have HBNOW := HBN
  clear HBN
  have hc8 : RepB (w7.alloc (.cells #[.int .u8 18, .int .u8 3, .int .u8 172, .int .u8 2, .int .u8 0] 5)) (fun b => w2.heap.size ≤ b) true [18, 3, 172, 2, 0] (.slice (some ⟨bl3, off3, none⟩) 5 cap3) := by
    have h := (RepB.cut HU3.out 0 5 cap3 (by rw [ct_len2]; omega) (by omega)).below (balloc _ (.cells #[.int .u8 18, .int .u8 3, .int .u8 172, .int .u8 2, .int .u8 0] 5)) (Nat.le_refl _)
    rw [ct_cut2] at h
    exact h
  have hl8 : RepB (w7.alloc (.cells #[.int .u8 18, .int .u8 3, .int .u8 172, .int .u8 2, .int .u8 0] 5)) (fun b => b = w7.heap.size) true [18, 3, 172, 2, 0] (.slice (some ⟨w7.heap.size, 0, none⟩) 5 5) := sl_rowN (cs := #[.int .u8 18, .int .u8 3, .int .u8 172, .int .u8 2, .int .u8 0]) (heap_alloc_new _ _) rfl (by simp)
  have hs8 := sameBytes_any _ _ _ _ _ _ _ _ _ hc8 hl8
  rw [decide_eq_true (rfl : [18, 3, 172, 2, 0] = ([18, 3, 172, 2, 0] : List UInt8))] at hs8
  have HM8 := Lib.hid hs8
  clear hc8 hl8 hs8
  go_wp2_with fail
  refine HM8.out.mono ?_
  rintro e w8 ⟨rfl, hb⟩
  have HN8 : Hid (Below w7.heap.size w7 w8) := Lib.hid (bstep (balloc _ _) hb)
  have HU2 := Lib.hid (HU2.out.below HN8.out (Nat.le_refl _))
  have HU3 := Lib.hid (HU3.out.below HN8.out (Nat.le_refl _))
  have HU6 := Lib.hid (HU6.out.below HN8.out (Nat.le_refl _))
  have HS := Lib.hid (bstep HS.out HN8.out)
  have HBN := Lib.hid (bstep HBNOW.out HN8.out)
  clear hb HBNOW HM8
  have HBNOW := HBN
  clear HBN
  have hc9 : RepB (w8.alloc (.cells #[.int .u8 20, .int .u8 10, .int .u8 1, .int .u8 0, .int .u8 1, .int .u8 1, .int .u8 5, .int .u8 1, .int .u8 1, .int .u8 2, .int .u8 1, .int .u8 0] 5)) (fun b => w5.heap.size ≤ b) true [20, 10, 1, 0, 1, 1, 5, 1, 1, 2, 1, 0] (.slice (some ⟨bl6, off6, none⟩) 12 cap6) := by
    have h := (RepB.cut HU6.out 0 12 cap6 (by rw [ct_len3]; omega) (by omega)).below (balloc _ (.cells #[.int .u8 20, .int .u8 10, .int .u8 1, .int .u8 0, .int .u8 1, .int .u8 1, .int .u8 5, .int .u8 1, .int .u8 1, .int .u8 2, .int .u8 1, .int .u8 0] 5)) (Nat.le_refl _)
    rw [ct_cut3] at h
    exact h
  have hl9 : RepB (w8.alloc (.cells #[.int .u8 20, .int .u8 10, .int .u8 1, .int .u8 0, .int .u8 1, .int .u8 1, .int .u8 5, .int .u8 1, .int .u8 1, .int .u8 2, .int .u8 1, .int .u8 0] 5)) (fun b => b = w8.heap.size) true [20, 10, 1, 0, 1, 1, 5, 1, 1, 2, 1, 0] (.slice (some ⟨w8.heap.size, 0, none⟩) 12 12) := sl_rowN (cs := #[.int .u8 20, .int .u8 10, .int .u8 1, .int .u8 0, .int .u8 1, .int .u8 1, .int .u8 5, .int .u8 1, .int .u8 1, .int .u8 2, .int .u8 1, .int .u8 0]) (heap_alloc_new _ _) rfl (by simp)
  have hs9 := sameBytes_any _ _ _ _ _ _ _ _ _ hc9 hl9
  rw [decide_eq_true (rfl : [20, 10, 1, 0, 1, 1, 5, 1, 1, 2, 1, 0] = ([20, 10, 1, 0, 1, 1, 5, 1, 1, 2, 1, 0] : List UInt8))] at hs9
  have HM9 := Lib.hid hs9
  clear hc9 hl9 hs9
  go_wp2_with fail
  refine HM9.out.mono ?_
  rintro e w9 ⟨rfl, hb⟩
  have HN9 : Hid (Below w8.heap.size w8 w9) := Lib.hid (bstep (balloc _ _) hb)
  have HU2 := Lib.hid (HU2.out.below HN9.out (Nat.le_refl _))
  have HU3 := Lib.hid (HU3.out.below HN9.out (Nat.le_refl _))
  have HU6 := Lib.hid (HU6.out.below HN9.out (Nat.le_refl _))
  have HS := Lib.hid (bstep HS.out HN9.out)
  have HBN := Lib.hid (bstep HBNOW.out HN9.out)
  clear hb HBNOW HM9
  have HBNOW := HBN
  clear HBN
  have hI10 : RepI (w9.alloc (.cells #[.int .i64 1, .int .i64 0] 3)) (fun b => b = w9.heap.size) true [1, 0] (.slice (some ⟨w9.heap.size, 0, none⟩) 2 2) := sl_rowN (cs := #[.int .i64 1, .int .i64 0]) (heap_alloc_new _ _) rfl (by simp)
  have HO10 := Lib.hid (certOf_any _ _ _ _ _ hI10 (by simp))
  have HA10 : Hid (Below w9.heap.size w9 (w9.alloc (.cells #[.int .i64 1, .int .i64 0] 3))) := Lib.hid (balloc _ _)
  clear hI10
  go_wp2_with fail
  refine HO10.out.mono ?_
  rintro e w10 ⟨v10, rfl, hr10, hb10⟩
  have HR10 := Lib.hid hr10
  have HS10 : Hid (Below w9.heap.size w9 w10) := Lib.hid (bstep HA10.out hb10)
  have HB10 : Hid (Below w.heap.size w w10) := Lib.hid (bstep HBNOW.out HS10.out)
  clear hr10 hb10 HBNOW HA10 HO10
  have HBNOW := HB10
  have HS := Lib.hid (bstep HS.out HS10.out)
  have ht11 := certText_any _ _ ct1 v10 w10 HR10.out ct_nums.1 (.inl (by simp [ct1])) (by simp [ct1]) (HQ.out _ HBNOW.out)
  rw [ct_text1] at ht11
  have HT11 := Lib.hid ht11
  clear ht11
  go_wp2_with fail
  refine HT11.out.mono ?_
  rintro e w11 ⟨rfl, hb⟩
  have HS := Lib.hid (bstep HS.out hb)
  have HBN := Lib.hid (bstep HBNOW.out hb)
  clear hb HBNOW HT11
  have HBNOW := HBN
  clear HBN
  have hr0 : RepC w11 (fun b => True) true ct2 (.agg #[.int .i64 2, .slice none 0 0, .int .i64 300, .int .i64 0, .slice none 0 0]) := ⟨_, _, rfl, RepI.nil _ _ _, RepW.nil _ _ _⟩
  have ht12 := certText_any _ _ ct2 _ w11 hr0 ct_nums.2.1 (.inl (by simp [ct2])) (by simp [ct2]) (HQ.out _ HBNOW.out)
  rw [ct_text2] at ht12
  have HT12 := Lib.hid ht12
  clear ht12
  go_wp2_with fail
  refine HT12.out.mono ?_
  rintro e w12 ⟨rfl, hb⟩
  have HS := Lib.hid (bstep HS.out hb)
  have HBN := Lib.hid (bstep HBNOW.out hb)
  clear hb HBNOW HT12
  have HBNOW := HBN
  clear HBN
  clear hr0
  have hS4 := (HS.out.block _ HG4.out.2).trans HG4.out.1
  have z0 : w12.cell? ⟨w3.heap.size, 0, none⟩ = some (.int .i64 0) := by rw [cell_of_row w12 _ 0 _ _ _ hS4]; rfl
  have z1 : w12.cell? ⟨w3.heap.size, 1, none⟩ = some (.int .i64 1) := by rw [cell_of_row w12 _ 1 _ _ _ hS4]; rfl
  have z2 : w12.cell? ⟨w3.heap.size, 2, none⟩ = some (.int .i64 1) := by rw [cell_of_row w12 _ 2 _ _ _ hS4]; rfl
  have z3 : w12.cell? ⟨w3.heap.size, 3, none⟩ = some (.int .u64 5) := by rw [cell_of_row w12 _ 3 _ _ _ hS4]; rfl
  have z4 : w12.cell? ⟨w3.heap.size, 4, none⟩ = some (.int .u64 1) := by rw [cell_of_row w12 _ 4 _ _ _ hS4]; rfl
  have z5 : w12.cell? ⟨w3.heap.size, 5, none⟩ = some (.int .u64 1) := by rw [cell_of_row w12 _ 5 _ _ _ hS4]; rfl
  have z6 : w12.cell? ⟨w3.heap.size, 6, none⟩ = some (.int .u64 2) := by rw [cell_of_row w12 _ 6 _ _ _ hS4]; rfl
  have z7 : w12.cell? ⟨w3.heap.size, 7, none⟩ = some (.int .u64 1) := by rw [cell_of_row w12 _ 7 _ _ _ hS4]; rfl
  have z8 : w12.cell? ⟨w3.heap.size, 8, none⟩ = some (.int .i64 (-1)) := by rw [cell_of_row w12 _ 8 _ _ _ hS4]; rfl
  clear hS4
  have hW13 : RepW (w12.alloc (.cells #[.int .i64 0, .int .i64 1, .int .i64 1, .int .u64 5, .int .u64 1, .int .u64 1, .int .u64 2, .int .u64 1, .int .i64 (-1)] 54)) (fun b => w12.heap.size ≤ b) true [ed1] (.slice (some ⟨w12.heap.size, 0, none⟩) 1 1) := RepW.of_owns (T := 54) ⟨rfl, .inr ⟨w12.heap.size, 1, _, rfl, Nat.le_refl _, heap_alloc_new _ _, Nat.le_refl _, by unfold maxLen; omega, rfl, rfl⟩⟩
  have HO13 := Lib.hid (certRound_any _ _ [ed1] _ _ hW13 (by simp))
  have HA13 : Hid (Below w12.heap.size w12 (w12.alloc (.cells #[.int .i64 0, .int .i64 1, .int .i64 1, .int .u64 5, .int .u64 1, .int .u64 1, .int .u64 2, .int .u64 1, .int .i64 (-1)] 54))) := Lib.hid (balloc _ _)
  clear hW13
  go_wp2_with fail
  refine HO13.out.mono ?_
  rintro e w13 ⟨v13, rfl, hr13, hb13⟩
  have HR13 := Lib.hid hr13
  have HS13 : Hid (Below w12.heap.size w12 w13) := Lib.hid (bstep HA13.out hb13)
  have HB13 : Hid (Below w.heap.size w w13) := Lib.hid (bstep HBNOW.out HS13.out)
  clear hr13 hb13 HBNOW HA13 HO13
  have HBNOW := HB13
  clear z0 z1 z2 z3 z4 z5 z6 z7 z8
  have HS := Lib.hid (bstep HS.out HS13.out)
  have ht14 := certText_any _ _ ct3 v13 w13 HR13.out ct_nums.2.2 (.inl (by simp [ct3])) (by simp [ct3]) (HQ.out _ HBNOW.out)
  rw [ct_text3] at ht14
  have HT14 := Lib.hid ht14
  clear ht14
  go_wp2_with fail
  refine HT14.out.mono ?_
  rintro e w14 ⟨rfl, hb⟩
  have HS := Lib.hid (bstep HS.out hb)
  have HBN := Lib.hid (bstep HBNOW.out hb)
  clear hb HBNOW HT14
  have HBNOW := HBN
  clear HBN
  go_wp2_with fail
  go_ret
  exact ⟨rfl, HBNOW.out⟩
end Go.Proofs.YtagnalfkmdjajaaGreatDoor
