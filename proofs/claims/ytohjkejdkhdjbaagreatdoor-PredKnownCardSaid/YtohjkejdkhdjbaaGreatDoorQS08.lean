/- Walks: the program's reader of texts: number. -/
import Derived.Test.YtohjkejdkhdjbaaGreatDoorQS07
import Derived.BigQuiet
import Derived.Deep.QuietTactic
namespace Go.Proofs.YtohjkejdkhdjbaaGreatDoor
open Go.RowKit Go
set_option linter.unusedVariables false
set_option linter.unusedSimpArgs false
theorem takeWhile_len (l : List UInt8) : l.take (l.length - (l.dropWhile isD).length) = l.takeWhile isD ∧ (l.dropWhile isD).length ≤ l.length := by
  have h := List.takeWhile_append_dropWhile (p := isD) (l := l)
  have h2 := congrArg List.length h
  simp only [List.length_append] at h2
  refine ⟨?_, by omega⟩
  conv => lhs; arg 2; rw [← h]
  rw [show l.length - (l.dropWhile isD).length = (l.takeWhile isD).length from by omega, List.take_left']
  rfl
theorem rd_two {w : World} {rb : Nat} {s : ByteArray} {n : Int} {bad : Bool} (h : Rd w rb s n bad) (s' : ByteArray) (bad' : Bool) : Rd ((w.setCell ⟨rb, 2, none⟩ (.bool bad')).setCell ⟨rb, 0, none⟩ (.string s')) rb s' n bad' :=
  heap_set_at (heap_set_at h rfl) (by simp)
set_option maxHeartbeats 2000000 in
set_option maxRecDepth 100000 in
theorem number_any (rb : Nat) (s : ByteArray) (n : Int) (bad : Bool) (w : World) (hs : s.size ≤ 100000) (hr : Rd w rb s n bad) (hL : Lv rb w) :
    Calls Tryz.prog 59 #[.pointer (some ⟨rb, 0, none⟩)] w (NumRd rb s.data.toList n bad w) := by
  obtain ⟨c0, c1, c2, f⟩ := hr.cells
  have f0 := f 0
  have hlt := hr.lt
  have HR := Lib.hid hr
  have HL := Lib.hid hL
  clear hr f hL
  obtain ⟨hd1, hd2⟩ := takeWhile_len s.data.toList
  rw [ba_size] at hd1 hd2
  go_enter Tryz.func59, Tryz.ntmps59
  go_wp2_with (go_at_call 80; refine (trimDigits s _).mono ?_; rintro e w1 ⟨rfl, hb1⟩)
  obtain ⟨rest, hrest⟩ : ∃ rest : ByteArray, rest = ⟨(s.data.toList.dropWhile isD).toArray⟩ := ⟨_, rfl⟩
  rw [← hrest]
  have hrs : rest.data.toList = s.data.toList.dropWhile isD := by rw [hrest]
  have hrz : rest.size = (s.data.toList.dropWhile isD).length := by rw [← ba_size, hrs]
  have hrl : rest.size ≤ s.size := by omega
  rw [← hrz] at hd1 hd2
  have hds : (s.extract 0 (s.size - rest.size)).data.toList = s.data.toList.takeWhile isD := by rw [ba_extract, List.drop_zero, Nat.sub_zero]; exact hd1
  have hdz : (s.extract 0 (s.size - rest.size)).size ≤ s.size := by rw [ByteArray.size_extract]; omega
  obtain ⟨hx1, hy1⟩ := bcell hb1
  have hz1 : rb < w1.heap.size := by have := hb1.size; omega
  have k0 : w1.cell? ⟨rb, 0, none⟩ = some (.string s) := (hx1 _ _ hlt).trans c0
  have HRS := Lib.hid hrs
  have HDS := Lib.hid hds
  have HB1 := Lib.hid hb1
  clear hrest hrs hrz hd1 hd2 hds hx1 hy1 hb1
  go_wp2_with fail
  go_quiet (fail)
  obtain ⟨ds, hds⟩ : ∃ ds, ds = s.extract 0 (s.size - rest.size) := ⟨_, rfl⟩
  rw [← hds] at HDS hdz ⊢
  clear hds
  generalize hwd : w1.drewN _ = wd
  have hbd : Below w.heap.size w wd := hwd ▸ below_drewN HB1.out _
  have hLd : Lv wd.heap.size wd := (HL.out.below (hbd.mono (by omega))).mono (by have := hbd.size; omega)
  have hdg : ∀ c ∈ ds.data.toList, isD c = true := by rw [HDS.out]; exact takeWhile_all _
  have HPU := Lib.hid (parse_any ds wd hLd (by omega) hdg)
  have hzd : rb < wd.heap.size := by have := hbd.size; omega
  have k2 : wd.cell? ⟨rb, 2, none⟩ = some (.bool bad) := (hbd.cell hlt).trans c2
  have k0d : wd.cell? ⟨rb, 0, none⟩ = some (.string s) := (hbd.cell hlt).trans c0
  have HBD := Lib.hid hbd
  clear hwd hLd hdg hbd k0
  go_wp2_with fail
  refine HPU.out.mono ?_
  rintro e w2 ⟨v, er, rfl, hv, hcase, hb2⟩
  obtain ⟨hx2, hy2⟩ := bcell hb2
  have hz2 : rb < w2.heap.size := by have := hb2.size; omega
  have m2 : w2.cell? ⟨rb, 2, none⟩ = some (.bool bad) := (hx2 _ _ hzd).trans k2
  have m0 : w2.cell? ⟨rb, 0, none⟩ = some (.string s) := (hx2 _ _ hzd).trans k0d
  have hbw2 : Below w.heap.size w w2 := HBD.out.trans (hb2.mono (by have := HBD.out.size; omega))
  have fr : ∀ o, w2.frozen? ⟨rb, o, none⟩ = false := fun o => by rw [hbw2.frozen hlt]; exact HR.out.cells.2.2.2 o
  have fr0 := fr 0
  have fr2 := fr 2
  have HR2 := Lib.hid (show Rd w2 rb s n bad from (hbw2.block _ hlt).trans HR.out)
  have HB2 := Lib.hid hbw2
  clear hx2 hy2 hb2 k2 k0d fr hbw2
  have fin : ∀ (W : World) (v : Nat) (b : Bool), v < 18446744073709551616 → Rd W rb s n bad → Rg rb w W → (b = (bad || (rdNum s.data.toList).isNone)) → (∀ v' r, rdNum s.data.toList = some (v', r) → v = v' ∧ rest.data.toList = r) →
      NumRd rb s.data.toList n bad w (.returned (.int .u64 v)) ((W.setCell ⟨rb, 2, none⟩ (.bool b)).setCell ⟨rb, 0, none⟩ (.string rest)) := by
    intro W v b hv hW hg hb he
    exact ⟨v, rest, rfl, hv, by rw [← hb]; exact rd_two hW _ _, he, (hg.setCell _ _).setCell _ _, by rw [ba_size]; exact hrl⟩
  have HF := Lib.hid fin
  clear fin
  have hrd : rdNum s.data.toList = if ds.data.toList ≠ [] ∧ Lib.decDigits (numOf ds.data.toList) = ds.data.toList ∧ numOf ds.data.toList < 18446744073709551616 then some (numOf ds.data.toList, rest.data.toList) else none := by
    rw [HRS.out, HDS.out]; rfl
  have HRD := Lib.hid hrd
  clear hrd
  rcases hcase with ⟨e1, e2, rfl, rfl⟩ | ⟨hno, te, pe, rfl⟩
  · obtain ⟨m, hm⟩ : ∃ m, m = numOf ds.data.toList := ⟨_, rfl⟩
    rw [← hm] at hv e2 ⊢
    have HM := Lib.hid hm
    have HE1 := Lib.hid e1
    clear hm e1
    cases bad with
    | true =>
      go_wp2_with fail
      go_ret
      refine HF.out _ _ _ hv HR2.out (Rg.of_below HB2.out) rfl (fun v' r h => ?_)
      rw [HRD.out] at h
      split at h
      · injection h with h; injection h with h3 h4; exact ⟨by rw [HM.out]; exact h3, h4⟩
      · cases h
    | false =>
      have HD := Lib.hid (predDigits_any m w2 hv ((HL.out.below (HB2.out.mono (by omega))).tab))
      go_wp2_with fail
      refine HD.out.mono ?_
      rintro e w3 ⟨rfl, hb3⟩
      obtain ⟨hx3, hy3⟩ := bcell hb3
      have hz3 : rb < w3.heap.size := by have := hb3.size; omega
      have j2 : w3.cell? ⟨rb, 2, none⟩ = some (.bool false) := (hx3 _ _ hz2).trans m2
      have j0 : w3.cell? ⟨rb, 0, none⟩ = some (.string s) := (hx3 _ _ hz2).trans m0
      have fr30 : w3.frozen? ⟨rb, 0, none⟩ = false := (hy3 _ _ hz2).trans fr0
      have fr32 : w3.frozen? ⟨rb, 2, none⟩ = false := (hy3 _ _ hz2).trans fr2
      have HR3 := Lib.hid (show Rd w3 rb s n false from (hb3.block _ hz2).trans HR2.out)
      have HB3 := Lib.hid (HB2.out.trans (hb3.mono (by have := HB2.out.size; omega)))
      clear hx3 hy3 hb3 m0 m2 fr0 fr2
      go_wp2_with fail
      go_ret
      refine HF.out _ _ _ hv HR3.out (Rg.of_below HB3.out) ?_ (fun v' r h => ?_)
      · rw [HRD.out, ByteArray.toList_eq]
        by_cases hq : Lib.decDigits m = ds.data.toList
        · rw [if_pos ⟨HE1.out, by rw [← HM.out]; exact hq, by rw [← HM.out]; exact e2⟩]; simp [hq]
        · rw [if_neg (fun h => hq (by rw [HM.out]; exact h.2.1))]; simp [hq]
      · rw [HRD.out] at h
        split at h
        · injection h with h; injection h with h3 h4; exact ⟨by rw [HM.out]; exact h3, h4⟩
        · cases h
  · have hn : rdNum s.data.toList = none := by rw [HRD.out, if_neg (fun h => hno ⟨h.1, h.2.2⟩)]
    have HN := Lib.hid hn
    clear hn hno
    cases bad with
    | true =>
      go_wp2_with fail
      go_ret
      exact HF.out _ _ _ hv HR2.out (Rg.of_below HB2.out) (by rw [HN.out]; rfl) (fun v' r h => by rw [HN.out] at h; cases h)
    | false =>
      go_wp2_with fail
      go_ret
      exact HF.out _ _ _ hv HR2.out (Rg.of_below HB2.out) (by rw [HN.out]; rfl) (fun v' r h => by rw [HN.out] at h; cases h)
end Go.Proofs.YtohjkejdkhdjbaaGreatDoor
