/- Walks. -/
import Derived.Test.YtmgbhhmipmgcpaaGreatDoorYW40
set_option maxHeartbeats 4000000
set_option maxRecDepth 100000
namespace Go.Proofs.YtmgbhhmipmgcpaaGreatDoor
open Go.RowKit Go
set_option linter.unusedVariables false
set_option linter.unusedSimpArgs false
theorem BU (v : Nat) (h : v < 18446744073709551616) : bits BinOp.and IntKind.u64 (v : Int) 9223372036854775807 = ((v % 9223372036854775808 : Nat) : Int) := by
 have h1 := bits_and_u64_nat v 9223372036854775807 h (by omega)
 have h2 : v &&& 9223372036854775807 = v % 9223372036854775808 := Nat.and_two_pow_sub_one_eq_mod v 63
 rw [h2] at h1
 exact h1
theorem VrS.move {w : World} {rb : Nat} {l : List UInt8} {sv : Value} (h : VrS w rb l sv none) (a : Nat) (ha : a ≤ l.length) : VrS (w.setCell ⟨rb, 0, none⟩ (.int .i64 a)) rb l sv none := by
 obtain ⟨a', e, h, h2⟩ := h
 refine ⟨a, e, h.move a ha, ?_⟩
 by_cases he : e = 0
 ·rw [if_pos he] at h2; cases h2
 ·rw [if_neg he]
theorem VrS.cell0 {w : World} {rb : Nat} {l : List UInt8} {sv : Value} {s : Option (List UInt8)} (h : VrS w rb l sv s) : ∃ a : Nat, w.cell? ⟨rb, 0, none⟩ = some (.int .i64 a) ∧ w.frozen? ⟨rb, 0, none⟩ = false := by
 obtain ⟨a', e, h, h2⟩ := h
 exact ⟨a', h.cells.1, h.cells.2.2.2 0⟩
theorem uT (rb : Nat) (l : List UInt8) (sv : Value) (s : Option (List UInt8)) (w : World) (h : VrS w rb l sv s) :
  Calls Tryz.prog 164 #[.pointer (some ⟨rb, 0, none⟩)] w (AY rb l sv (bR s).1 (bR s).2 w) := by
 have HWl := hid (nu rb l sv s w h)
 have hlt := h.lt
 cases s with
 | none =>
  have H := hid h
  clear h
  go_enter Tryz.func164, Tryz.ntmps164
  go_wp2_with fail
  refine HWl.out.mono ?_
  rintro r w0 ⟨rfl, rfl⟩
  go_wp2_with fail
  go_ret
  exact ⟨_, rfl, H.out, Rg.refl _ _, World.ownsRow_nil _ _ _ _⟩
 | some rest =>
  obtain ⟨a, e, h, he⟩ := h
  have he0 : e = 0 := by
   by_cases h0 : e = 0
   ·exact h0
   ·rw [if_neg h0] at he; cases he
  subst he0
  rw [if_pos rfl] at he
  injection he with he
  obtain ⟨c0, c1, c2, f⟩ := h.cells
  have ha := h.2.2.1
  have H := hid h
  have HE := hid he
  clear h f he c1 c2
  go_enter Tryz.func164, Tryz.ntmps164
  go_wp2_with fail
  refine HWl.out.mono ?_
  rintro r w0 ⟨rfl, rfl⟩
  go_wp2_with fail
  refine (jh rb a l sv w H.out).mono ?_
  rintro r w1 ⟨v, a', e', rfl, hv, hv1, hg1, haa, h1, h2⟩
  have hm := BU v hv
  by_cases he' : e' = 0
  ·subst he'
   have hget := h1 rfl
   have HT : Hid (bR (some rest) = bX v (some (l.drop a'))) := hid (by unfold bR; rw [HE.out, aG hget])
   have hl1 := hv1.2.2
   by_cases hbig : v ≤ 9223372036854775807
   ·have q1 : v % 9223372036854775808 = v := Nat.mod_eq_of_lt (by omega)
    have q2 : IntKind.i64.wrap (v : Int) = (v : Int) := IntWalk.i64_in _ (by omega)
    rw [q1] at hm
    have t1 : decide ((9223372036854775807 : Int) < (v : Int)) = false := by simp; omega
    have HV1 := hid (And.intro hv1 hg1)
    clear h1 h2 hget hv1 hg1 q1
    go_wp2_with fail
    refine (pM rb v l sv (some (l.drop a')) w1 ⟨a', 0, HV1.out.1, by simp⟩ hbig).mono ?_
    rintro r w2 ⟨u, rfl, hs2, hg2, ho2⟩
    obtain ⟨sa, sc, rfl⟩ := aD ho2
    have HS2 := hid (And.intro hs2 (And.intro (HV1.out.2.trans hg2) (gJ ho2 HV1.out.2.size)))
    have HW2 := hid (nu rb l sv _ w2 hs2)
    clear hs2 hg2 ho2
    cases hst : (bX v (some (l.drop a'))).2 with
    | some r2 =>
     rw [hst] at HW2
     have HST := hid hst
     clear hst
     go_wp2_with fail
     refine HW2.out.mono ?_
     rintro r w0 ⟨rfl, rfl⟩
     go_wp2_with fail
     go_ret
     rw [HT.out]
     exact ⟨_, rfl, HS2.out.1, HS2.out.2.1, HS2.out.2.2⟩
    | none =>
     rw [hst] at HW2
     have HST := hid hst
     obtain ⟨a2, k0, f0⟩ := HS2.out.1.cell0
     clear hst
     go_wp2_with fail
     refine HW2.out.mono ?_
     rintro r w0 ⟨rfl, rfl⟩
     go_wp2_with fail
     go_ret
     rw [HT.out]
     have hmv := HS2.out.1
     rw [HST.out] at hmv
     refine ⟨_, rfl, ?_, HS2.out.2.1.setCell _ _, ?_⟩
     ·rw [HST.out]; exact hmv.move a ha
     ·exact dL HS2.out.2.2 (fun b hb _ => Below.heap_setCell _ _ _ _ (by simp; omega))
   ·have q1 : v % 9223372036854775808 = v - 9223372036854775808 := by omega
    rw [q1] at hm
    have q2 : IntKind.i64.wrap ((v - 9223372036854775808 : Nat) : Int) = ((v - 9223372036854775808 : Nat) : Int) := IntWalk.i64_in _ (by omega)
    have t1 : decide ((9223372036854775807 : Int) < (v : Int)) = true := by simp; omega
    have HV1 := hid (And.intro hv1 hg1)
    have HR : Hid (bX v (some (l.drop a')) = ([], none)) := hid (by show (if v ≤ (l.drop a').length then _ else _) = _; rw [if_neg (by simp; omega)])
    generalize v - 9223372036854775808 = m at hm q2
    clear h1 h2 hget hv1 hg1 q1
    go_wp2_with fail
    refine (iG rb a' 4 l sv w1 HV1.out.1).mono ?_
    rintro r w2 ⟨rfl, hv2, hg2, hz2⟩
    have HV2 := hid (And.intro hv2 (HV1.out.2.trans hg2))
    clear hv2 hg2
    go_wp2_with fail
    refine (mh rb a' 4 _ l sv w2 HV2.out.1 (by omega)).mono ?_
    rintro r w0 ⟨rfl, rfl⟩
    have hw2 := dE rb a' 4 l sv w2 HV2.out.1
    rw [show ((4 : Int) == 0) = false from rfl] at hw2
    have HW2 := hid hw2
    obtain ⟨k0, _, _, f⟩ := HV2.out.1.cells
    have f0 := f 0
    clear f hw2
    go_wp2_with fail
    refine HW2.out.mono ?_
    rintro r w0 ⟨rfl, rfl⟩
    go_wp2_with fail
    go_ret
    rw [HT.out, HR.out]
    exact ⟨_, rfl, ⟨a, 4, HV2.out.1.move a ha, by simp⟩, HV2.out.2.setCell _ _, World.ownsRow_nil _ _ _ _⟩
  ·obtain ⟨rfl, rfl, hget, hc⟩ := h2 he'
   have HT : Hid (bR (some rest) = ([], none)) := hid (by unfold bR; rw [HE.out, bM hget]; rfl)
   have HV1 := hid (And.intro hv1 hg1)
   have q2 : IntKind.i64.wrap ((0 : Nat) : Int) = ((0 : Nat) : Int) := IntWalk.i64_in _ (by omega)
   have hw2 := dE rb a' e' l sv w1 hv1
   rw [show (e' == 0) = false from by simpa using he'] at hw2
   have HW2 := hid hw2
   have HNE := hid he'
   obtain ⟨k0, _, _, f⟩ := hv1.cells
   have f0 := f 0
   clear f hw2 h1 h2 hget hc hv1 hg1 he'
   go_wp2_with fail
   refine (mh rb a' e' _ l sv w1 HV1.out.1 HNE.out).mono ?_
   rintro r w0 ⟨rfl, rfl⟩
   go_wp2_with fail
   refine HW2.out.mono ?_
   rintro r w0 ⟨rfl, rfl⟩
   go_wp2_with fail
   go_ret
   rw [HT.out]
   exact ⟨_, rfl, ⟨a', e', HV1.out.1.move a' ha, by rw [if_neg HNE.out]⟩, HV1.out.2.setCell _ _, World.ownsRow_nil _ _ _ _⟩
end Go.Proofs.YtmgbhhmipmgcpaaGreatDoor
