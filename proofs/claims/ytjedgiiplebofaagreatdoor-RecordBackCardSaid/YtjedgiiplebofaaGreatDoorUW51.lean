/- Walks: the words of a pred, as the program tells them. -/
import Derived.Test.YtjedgiiplebofaaGreatDoorU49
import Derived.Test.YtjedgiiplebofaaGreatDoorUW29
import Derived.Test.YtjedgiiplebofaaGreatDoorU31
import Derived.Test.YtjedgiiplebofaaGreatDoorU18
import Derived.Test.YtjedgiiplebofaaGreatDoorU20
import Derived.Deep.RegionHeld3
import Derived.Deep.DeepFit
import Derived.Laws.Rows
namespace Go.Proofs.YtjedgiiplebofaaGreatDoor
open Go.RowKit Go
set_option linter.unusedVariables false
set_option linter.unusedSimpArgs false
theorem entTold_join (e : Ent) : Lib.join [Lib.decDigits e.x, verT e.w e.n, flagT e.m] [58] = e.told := by
  rw [Lib.join_cons]
  simp [Lib.joinTail, Ent.told]
theorem flagDigits (m : Bool) (q : Nat) (hq : q = if m then 1 else 0) : Lib.decDigits q = flagT m := by
  subst hq
  cases m
  · simp [flagT, Lib.decDigits]
  · simp [flagT, Lib.decDigits]
structure Te (x a n : Nat) (m : Bool) (q : Nat) (EX EV EF EN : ByteArray) : Prop where
  dx : ∀ W : World, Lv W.heap.size W → Calls Tryz.prog 102 #[.int .u64 (x : Nat)] W fun r w' => r = .returned (.string EX) ∧ Below W.heap.size W w'
  tt : ∀ W : World, Lv W.heap.size W → Calls Tryz.prog 39 #[.agg #[.int .u64 (a : Nat), .int .u64 (n : Nat)]] W fun r w' => r = .returned (.string EV) ∧ Below W.heap.size W w'
  fl : ∀ W : World, Calls Tryz.prog 235 #[.bool m] W fun r w' => r = .returned (.int .u8 (q : Int)) ∧ w' = W
  df : ∀ W : World, Lv W.heap.size W → Calls Tryz.prog 102 #[.int .u64 (q : Nat)] W fun r w' => r = .returned (.string EF) ∧ Below W.heap.size W w'
  jn : ∀ W : World, Calls Tryz.prog 144 #[.slice (some ⟨W.heap.size, 0, none⟩) 3 3, .string ⟨#[58]⟩] (W.alloc (.cells #[.string EX, .string EV, .string EF] 9)) fun r w' => r = .returned (.string EN) ∧ Below W.heap.size W w'
  en : EN = ⟨(Ent.told ⟨x, a, n, m⟩).toArray⟩
theorem Te.mk' (x a n : Nat) (m : Bool) (h : Ent.ok ⟨x, a, n, m⟩) (q : Nat) (hq : q = if m then 1 else 0) : ∃ EX EV EF EN, Te x a n m q EX EV EF EN := by
  have hq2 : q < 18446744073709551616 := by rw [hq]; split <;> omega
  have hfd := flagDigits m q hq
  have e := entTold_join ⟨x, a, n, m⟩
  simp only at e
  have hl : (Lib.join [Lib.decDigits x, verT a n, flagT m] [58]).length ≤ 140737488355328 := by
    rw [e]
    have h1 := decDigits_le20 _ h.1
    have h2 := decDigits_le20 _ h.2.1
    have h3 := decDigits_le20 _ h.2.2
    have h4 : (flagT m).length = 1 := by unfold flagT; split <;> rfl
    simp only [Ent.told, verT, List.length_append, List.length_cons] at h1 h2 h3 ⊢; omega
  refine ⟨_, _, ⟨(flagT m).toArray⟩, ⟨(Ent.told ⟨x, a, n, m⟩).toArray⟩, fun W hL => recDigits_any _ W h.1 hL, fun W hL => recVText_any _ _ W h.2.1 h.2.2 hL, fun W => ?_, fun W hL => ?_, fun W => ?_, rfl⟩
  · refine (recFlag_any m q hq W).mono ?_
    rintro r w' ⟨rfl, rfl⟩
    exact ⟨rfl, rfl⟩
  · rw [← hfd]; exact recDigits_any _ W hq2 hL
  · have hj := joinS_any _ [Lib.decDigits x, verT a n, flagT m] _ [58] _ (RepS.alloc W [Lib.decDigits x, verT a n, flagT m] 9 (by simp)) (by simp) hl
    rw [e] at hj
    refine Calls.mono hj ?_
    rintro r w' ⟨rfl, hb⟩
    exact ⟨rfl, ((Below.refl _ _).alloc (Nat.le_refl _) _).trans (hb.mono (by simp))⟩
set_option maxHeartbeats 8000000 in
set_option maxRecDepth 100000 in
theorem wordsK_pred : WordsK 5 239 := by
  intro S own r k0 k1 k2 k3 k4 k5 k6 n6 k7 w hn6 hkk hsz hle hnums hr he hes hL
  obtain ⟨i0, hi0, hz0, hz1, hz2⟩ := info_parts infoStr
  have HI := Lib.hid (And.intro hi0 (And.intro hz0 (And.intro hz1 hz2)))
  clear hi0 hz0 hz1 hz2
  have htl : r.tail = r.p.told :: r.es.map Ent.told := by unfold Rec.tail; simp [hkk]
  have hpr : r.p.right = true := ((Rec.right_iff r).1 hr).2.2.1 hkk
  have hpt : r.p.text = r.p.told := by unfold Ex.text; simp [hpr]
  have hb0 : Below w.heap.size w (w.alloc (.cells #[.int .i64 r.k, .int .u64 r.t, .int .u64 r.x, .int .u64 r.w, .int .u64 r.n, .int .u64 r.v, .int .i64 k0, .int .u64 k1, .int .u64 k2, .slice k3 k4 k5, .slice k6 n6 k7] 31)) := (Below.refl _ _).alloc (Nat.le_refl _) _
  have hh0 : (w.alloc (.cells #[.int .i64 r.k, .int .u64 r.t, .int .u64 r.x, .int .u64 r.w, .int .u64 r.n, .int .u64 r.v, .int .i64 k0, .int .u64 k1, .int .u64 k2, .slice k3 k4 k5, .slice k6 n6 k7] 31)).heap[w.heap.size]? = some (.cells #[.int .i64 r.k, .int .u64 r.t, .int .u64 r.x, .int .u64 r.w, .int .u64 r.n, .int .u64 r.v, .int .i64 k0, .int .u64 k1, .int .u64 k2, .slice k3 k4 k5, .slice k6 n6 k7] 31 (0, 0)) := heap_alloc_at _ _ _ rfl
  have HL0 := Lib.hid ((hL.below hb0).mono hb0.size)
  have HL := Lib.hid hL
  have HB0 := Lib.hid (And.intro hb0 hh0)
  have HN := Lib.hid (And.intro hn6 (And.intro htl (And.intro he hes)))
  have HPT := Lib.hid hpt
  rw [← hn6] at hle
  clear hn6 hkk hr he hes hL hb0 hh0 htl hpr hpt
  go_enter Tryz.func239, Tryz.ntmps239
  go_wp2_with fail
  refine (predText_any S own r.p _ _ hsz (HN.out.2.2.1.below HB0.out.1 (Nat.le_refl _)) HL0.out).mono ?_
  rintro e w1 ⟨rfl, hb1⟩
  rw [HPT.out]
  obtain ⟨PT, hPT⟩ : ∃ PT : ByteArray, PT = ⟨r.p.told.toArray⟩ := ⟨_, rfl⟩
  rw [← hPT]
  have hz1 := hb1.size
  simp only [World.size_alloc] at hz1
  have hh1 : w1.heap[w.heap.size]? = some (.cells #[.int .i64 r.k, .int .u64 r.t, .int .u64 r.x, .int .u64 r.w, .int .u64 r.n, .int .u64 r.v, .int .i64 k0, .int .u64 k1, .int .u64 k2, .slice k3 k4 k5, .slice k6 n6 k7] 31 (0, 0)) := (hb1.block _ (by simp)).trans HB0.out.2
  have b10 : w1.cell? ⟨w.heap.size, 10, none⟩ = some (.slice k6 n6 k7) := by rw [cell_of_row w1 _ 10 _ _ _ hh1]; rfl
  have hB1 : Below w.heap.size w w1 := HB0.out.1.trans (hb1.mono (by simp))
  have l0 : w.heap.size < w1.heap.size := by omega
  obtain ⟨base, hbase⟩ : ∃ base, base = w1.heap.size := ⟨_, rfl⟩
  have HPH := Lib.hid (And.intro hPT hbase)
  have HB1 := Lib.hid hB1
  clear hb1 hh1 hB1 hPT hbase
  go_wp2_with fail
  go_loopw [3, 13] (fun sl i wr => ∃ j : Nat, j ≤ n6 ∧ i = .int .i64 (j : Nat) ∧ Below w.heap.size w wr ∧ base ≤ wr.heap.size ∧ wr.ownsRow base 9 1 sl (j + 1) (strs (r.p.told :: (r.es.take j).map Ent.told))) (fun _ i _ => n6 - (intOf i).toNat)
  case atStart =>
    refine ⟨0, by omega, rfl, HB1.out.alloc HB1.out.size _, by rw [HPH.out.2]; simp, ?_⟩
    rw [HPH.out.2]
    have h := ownsRow_lit w1 w1.heap.size #[.string PT] 9 (Nat.le_refl _) (by simp)
    rw [HPH.out.1] at h ⊢
    exact h
  case round =>
    obtain ⟨j, hj, rfl, hbel, hbs, hown⟩ := hrel
    by_cases hlt : j < n6
    · have hltE : j < r.es.length := by rw [← HN.out.1]; exact hlt
      have hes := HN.out.2.2.2
      rw [HN.out.1] at hes
      obtain ⟨bl, off, hk6, _, d0, d1, d2, d3, _⟩ := (hes.below hbel (Nat.le_refl _)).part j hltE
      have hok := hnums.2.2.2.2.2.2 r.es[j] (List.getElem_mem hltE)
      have htk := take_snoc r.es j hltE
      obtain ⟨en, hen⟩ : ∃ en, en = r.es[j] := ⟨_, rfl⟩
      rw [← hen] at d0 d1 d2 d3 hok htk
      have HTK := Lib.hid htk
      obtain ⟨X, Wn, Nn, M⟩ := en
      simp only at d0 d1 d2 d3
      obtain ⟨q, hq⟩ : ∃ q : Nat, q = if M then 1 else 0 := ⟨_, rfl⟩
      have hq2 : q ≤ 1 := by rw [hq]; split <;> omega
      obtain ⟨EX, EV, EF, EN, hTe⟩ := Te.mk' X Wn Nn M hok q hq
      have HTE := Lib.hid hTe
      obtain ⟨sa, sc, rfl⟩ := owns_slice hown
      have hob := hown.lt
      have HLv := Lib.hid ((HL.out.below hbel).mono hbel.size)
      have HO := Lib.hid (And.intro hbel hown)
      have hqw : IntKind.u64.wrap (q : Int) = (q : Int) := by rw [IntKind.wrap_u64]; omega
      have y1 : (0 : Int) ≤ (q : Int) := by omega
      have y2 : (q : Int) < 256 := by omega
      have hlrs := hbel.size
      rw [hk6]
      clear hes hk6 hok hq hTe hown hbel htk hen b10
      go_wp2_with fail
      obtain ⟨w3, hw3⟩ : ∃ w3, w3 = wr.alloc (.cells #[.int .u64 (X : Nat), .int .u64 (Wn : Nat), .int .u64 (Nn : Nat), .bool M] 145) := ⟨_, rfl⟩
      obtain ⟨eb, heb⟩ : ∃ eb, eb = wr.heap.size := ⟨_, rfl⟩
      have hb3 : Below wr.heap.size wr w3 := by rw [hw3]; exact (Below.refl _ _).alloc (Nat.le_refl _) _
      have hh3 : w3.heap[eb]? = some (.cells #[.int .u64 (X : Nat), .int .u64 (Wn : Nat), .int .u64 (Nn : Nat), .bool M] 145 (0, 0)) := by rw [hw3, heb]; exact heap_alloc_at _ _ _ rfl
      have l3 : eb < w3.heap.size := (Array.getElem?_eq_some_iff.1 hh3).1
      have g0 : w3.cell? ⟨eb, 0, none⟩ = some (.int .u64 (X : Nat)) := by rw [cell_of_row w3 _ 0 _ _ _ hh3]; rfl
      have g1 : w3.cell? ⟨eb, 1, none⟩ = some (.int .u64 (Wn : Nat)) := by rw [cell_of_row w3 _ 1 _ _ _ hh3]; rfl
      have g2 : w3.cell? ⟨eb, 2, none⟩ = some (.int .u64 (Nn : Nat)) := by rw [cell_of_row w3 _ 2 _ _ _ hh3]; rfl
      have g3 : w3.cell? ⟨eb, 3, none⟩ = some (.bool M) := by rw [cell_of_row w3 _ 3 _ _ _ hh3]; rfl
      rw [← hw3, ← heb]
      have hz3 := hb3.size
      have heb2 : wr.heap.size ≤ eb := by omega
      have HB3 := Lib.hid hb3
      have HL3 := Lib.hid ((HLv.out.below hb3).mono hb3.size)
      have HO3 := Lib.hid (ownsRow_below HO.out.2 hb3 (Nat.le_refl _))
      clear hw3 hb3 hh3 heb d0 d1 d2 d3
      have hbW : Below w3.heap.size w3 w3 := Below.refl _ _
      go_region_held3 (fun w' => w'.cell? ⟨eb, 0, none⟩ = some (.int .u64 (X : Nat)) ∧ w'.cell? ⟨eb, 1, none⟩ = some (.int .u64 (Wn : Nat)) ∧ w'.cell? ⟨eb, 2, none⟩ = some (.int .u64 (Nn : Nat)) ∧ w'.cell? ⟨eb, 3, none⟩ = some (.bool M))
        (first
          | exact ⟨(hbW.cell l3).trans g0, (hbW.cell l3).trans g1, (hbW.cell l3).trans g2, (hbW.cell l3).trans g3⟩
          | exact ⟨k0, k1, k2, k3⟩
          | go_keep)
        (first
          | (go_at_call 102; go_fit (HTE.out.dx _ (by first | exact (HL3.out.below hbW).mono hbW.size | exact (HL3.out.below hbW.drew).mono hbW.drew.size)); rintro e w4 ⟨rfl, hbx⟩; replace hbW := (by first | exact hbW.drew.trans (hbx.mono hbW.size) | exact hbW.trans (hbx.mono hbW.size)); clear hbx)
          | (go_at_call 39; go_fit (HTE.out.tt _ ((HL3.out.below hbW).mono hbW.size)); rintro e w5 ⟨rfl, hbx⟩; replace hbW := hbW.trans (hbx.mono hbW.size); clear hbx)
          | (go_at_call 235; go_fit (HTE.out.fl _); rintro e w6 ⟨rfl, rfl⟩)
          | (go_at_call 102; go_fit (HTE.out.df _ ((HL3.out.below hbW).mono hbW.size)); rintro e w7 ⟨rfl, hbx⟩; replace hbW := hbW.trans (hbx.mono hbW.size); clear hbx)
          | (go_at_call 144; go_fit (HTE.out.jn _); rintro e w8 ⟨rfl, hbx⟩; replace hbW := hbW.trans (hbx.mono hbW.size); clear hbx)
          | (refine step_append_lies _ (by rfl) (.tmp 17) (.tmp 31) 81 (by rfl) base 9 i0 _ 1 16 Tryz.underlying81 HI.out.1 HI.out.2.1 HI.out.2.2.1 HI.out.2.2.2 rfl (by omega) (.slice sa (j + 1) sc) (j + 1) (strs (r.p.told :: (r.es.take j).map Ent.told)) (by rfl) ((ownsRow_below HO3.out hbW (Nat.le_refl _)).alloc _)
              ⟨w8.heap.size, 0, none⟩ 1 1 [.string EN] (by rfl) (by rfl) (World.news_of_block (cs := #[.string EN]) (t := 9) (fr := (0, 0)) (heap_alloc_new w8 _)) (by simp [Value.oneCell']) (by omega) (by unfold maxLen; omega) (by omega) (by have := hbW.size; simp at this ⊢; omega) (w8.heap.size + 1) (by simp) ?_; intro gg gcap w9 hown2 hgrow hat hlt2
             have hne : some eb ≠ (Value.slice sa (j + 1) sc).ownBlock := fun e => (by have := hob _ e.symm; omega)
             have hzz : eb < w8.heap.size := (by have := hbW.size; omega)
             have k0 : w9.cell? ⟨eb, 0, none⟩ = some (.int .u64 (X : Nat)) := (by rw [hgrow.cell_far _ (by simp; omega) hne, World.cell?_alloc_past _ _ _ hzz]; exact (hbW.cell l3).trans g0)
             have k1 : w9.cell? ⟨eb, 1, none⟩ = some (.int .u64 (Wn : Nat)) := (by rw [hgrow.cell_far _ (by simp; omega) hne, World.cell?_alloc_past _ _ _ hzz]; exact (hbW.cell l3).trans g1)
             have k2 : w9.cell? ⟨eb, 2, none⟩ = some (.int .u64 (Nn : Nat)) := (by rw [hgrow.cell_far _ (by simp; omega) hne, World.cell?_alloc_past _ _ _ hzz]; exact (hbW.cell l3).trans g2)
             have k3 : w9.cell? ⟨eb, 3, none⟩ = some (.bool M) := (by rw [hgrow.cell_far _ (by simp; omega) hne, World.cell?_alloc_past _ _ _ hzz]; exact (hbW.cell l3).trans g3))
          | fail)
      have hz8 := hbW.size
      have HR : Hid (Below w.heap.size w w9 ∧ base ≤ w9.heap.size ∧ w9.ownsRow base 9 1 (.slice (some ⟨gg, 0, none⟩) (j + 1 + 1) gcap) (j + 1 + 1) (strs (r.p.told :: (r.es.take (j + 1)).map Ent.told))) := by
        refine Lib.hid ⟨?_, ?_, ?_⟩
        · exact Below.grown' (base := base) (HO.out.1.trans ((HB3.out.trans (hbW.mono (by omega))).mono (by omega))) hgrow (fun k hk => by have := hob k hk; omega) (by omega) (by have := HPH.out.2; have := HB1.out.size; omega)
        · have := hgrow.size; simp at this; omega
        · rw [HTK.out, List.map_append]
          have h := hown2
          rw [show ([Value.string EN] : List Value) = strs [(Ent.told ⟨X, Wn, Nn, M⟩)] from by rw [HTE.out.en]; rfl, ← strs_append] at h
          exact h
      clear hown2 hgrow hat hne k0 k1 k2 k3 hbW g0 g1 g2 g3
      go_wp2_with fail
      go_roundw
      case rel => exact ⟨j + 1, by omega, by go_num, HR.out.1, HR.out.2.1, HR.out.2.2⟩
      case measure => simp [intOf]; omega
    · have hj2 : j = n6 := by omega
      subst hj2
      obtain ⟨sa, sc, rfl⟩ := owns_slice hown
      have HR : Hid (RepS wr (fun b => w.heap.size ≤ b) r.tail (.slice sa (j + 1) sc) ∧ Below w.heap.size w wr) := Lib.hid ⟨by
        have h := hown
        rw [HN.out.1, List.take_length] at h
        rw [HN.out.2.1]
        have h2 := Sl.of_owns h (by omega)
        have hl : (r.p.told :: r.es.map Ent.told).length = r.es.length + 1 := by simp
        unfold RepS
        rw [hl, HN.out.1]
        exact Sl.keep h2 (by omega) (fun _ _ _ => rfl) (fun b _ (hb : _ ∧ base ≤ b) => Nat.le_trans HB1.out.size (by rw [← HPH.out.2]; exact hb.2)), hbel⟩
      clear hown hbel
      go_wp2_with fail
      go_ret
      exact ⟨_, rfl, HR.out.1, HR.out.2⟩
end Go.Proofs.YtjedgiiplebofaaGreatDoor
