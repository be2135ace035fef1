/- A function asked at two rows of known bytes: the evaluation of its own is right. -/
import Derived.Test.YthfkgdjekmebgaaGreatDoorE02
import Derived.Test.YthfkgdjekmebgaaGreatDoorE14
namespace Go.Proofs.YthfkgdjekmebgaaGreatDoor
open Go.Ev Go
set_option linter.unusedVariables false
set_option linter.unusedSimpArgs false
theorem isBs_eq : ∀ {b : List Nat} {l : List AV}, isBs b l = true → l = b.map fun k => .i .u8 (.ofNat k)
  | [], [], _ => rfl
  | [], _ :: _, h => by simp [isBs] at h
  | _ :: _, [], h => by simp [isBs] at h
  | k :: b, x :: l, h => by
    simp only [isBs] at h
    split at h
    · split at h
      · rename_i n
        simp only [Bool.and_eq_true] at h
        have h1 := eq_of_beq ((@ieq_eq env0 _ _).symm.trans h.1)
        rw [h1, isBs_eq h.2]; rfl
      · cases h
    · cases h
theorem isRow_eq {b : List Nat} {e : TypeId} {o : Option AO} (h : isRow b e o = true) : o = some (bsRow b e) := by
  unfold isRow at h
  split at h
  · rename_i l e' tl
    simp only [Bool.and_eq_true] at h
    have h1 : tl = true := h.1
    have h2 := beq_t h.2.1
    rw [h1, h2, isBs_eq h.2.2]; rfl
  · cases h
theorem bs_row [E1 : Env] [E2 : Env] {m m' : Mp} {L : Ev.Loc} {b : List Nat} {e : TypeId} {w : World} (h : @RepO E1 Tryz.prog m L (bsRow b e) w) : @RepO E2 Tryz.prog m' L (bsRow b e) w := by
  obtain ⟨C, fr, h1, h2, h3, h4⟩ := h
  refine ⟨C, fr, h1, h2, fun i x hx => ?_, h4⟩
  obtain ⟨V, g1, g2⟩ := h3 i x hx
  refine ⟨V, g1, ?_⟩
  rw [List.getElem?_map] at hx
  cases hb : b[i]? with
  | none => rw [hb] at hx; cases hx
  | some k =>
    rw [hb] at hx; cases hx
    cases g2
    exact .i _ _
theorem gBB_at {b1 b2 : List Nat} {e : TypeId} {v : Bool} {n : Nat} {f : FuncId} {fn : Func} (hf : Tryz.prog.funcs[f]? = some fn) (hbd : fn.body.isSome = true) (hok : callOk fn = true)
    (hu : isAns v (evF Tryz.prog (fOp Tryz.prog) orc n f (bbArgs b1 b2) (bbH b1 b2 e) 8) = true) : @CallAt env0 Tryz.prog (gBB b1 b2 e v) f := by
  letI : Env := env0
  intro args H nx u h hb
  unfold gBB at h
  split at h
  · rename_i r k r' k'
    split at h
    · rename_i hne hk hk' hr hr'
      cases h
      have hk := beq_t hk
      have hk' := beq_t hk'
      have hr := isRow_eq hr
      have hr' := isRow_eq hr'
      have hne := beq_f hne
      refine ⟨keep_pure _ _ _ _ (live_or (live_bit hr) (live_bit hr')), fun X m w A hA hp => ?_⟩
      obtain ⟨V, W, rfl, g1, g2⟩ := arr2 hA
      obtain ⟨L1, e1, q1⟩ := hp.rep.rep r _ (hp.R r (or_l (bit_self r))) hr
      obtain ⟨L2, e2, q2⟩ := hp.rep.rep r' _ (hp.R r' (or_r (bit_self r'))) hr'
      have hbl : L1.block ≠ L2.block := hp.rep.inj r r' L1 L2 (hp.R r (or_l (bit_self r))) (hp.R r' (or_r (bit_self r'))) (by rw [hr]; simp) (by rw [hr']; simp) hne e1 e2
      have hm0 : ∃ m0 : Mp, m0 = fun q => if q = 0 then some L1 else if q = 1 then some L2 else none := ⟨_, rfl⟩
      obtain ⟨m0, hm0⟩ := hm0
      have m00 : m0 0 = some L1 := by rw [hm0]; rfl
      have m01 : m0 1 = some L2 := by rw [hm0]; rfl
      have m0n : ∀ q, 1 < q → m0 q = none := fun q hq => by rw [hm0]; dsimp only; rw [if_neg (by omega), if_neg (by omega)]
      have hH : ∀ q o, (bbH b1 b2 e).get q = some o → (q = 0 ∧ o = bsRow b1 e) ∨ (q = 1 ∧ o = bsRow b2 e) := fun q o hq => by
        unfold bbH at hq
        rw [Tr.get_set] at hq
        by_cases h1 : q = 1
        · rw [if_pos h1] at hq; cases hq; exact .inr ⟨h1, rfl⟩
        · rw [if_neg h1, Tr.get_set] at hq
          by_cases h0 : q = 0
          · rw [if_pos h0] at hq; cases hq; exact .inl ⟨h0, rfl⟩
          · rw [if_neg h0, Tr.get_e] at hq; cases hq
      have hlt : ∀ q, (bbH b1 b2 e).get q ≠ none → q < 8 := fun q hq => by
        obtain ⟨o, ho⟩ := Option.ne_none_iff_exists'.1 hq
        rcases hH q o ho with ⟨h, _⟩ | ⟨h, _⟩ <;> omega
      have hrep : RepOn Tryz.prog (fun q => q < 8) m0 (bbH b1 b2 e).get w := by
        refine ⟨fun q o _ ho => ?_, fun q q' La Lb _ _ h3 h4 hqq ea eb => ?_, trivial⟩
        · rcases hH q o ho with ⟨rfl, rfl⟩ | ⟨rfl, rfl⟩
          · exact ⟨L1, m00, bs_row q1⟩
          · exact ⟨L2, m01, bs_row q2⟩
        · obtain ⟨o, ho⟩ := Option.ne_none_iff_exists'.1 h3
          obtain ⟨o', ho'⟩ := Option.ne_none_iff_exists'.1 h4
          rcases hH q o ho with ⟨rfl, _⟩ | ⟨rfl, _⟩ <;> rcases hH q' o' ho' with ⟨rfl, _⟩ | ⟨rfl, _⟩
          · exact absurd rfl hqq
          · rw [m00] at ea; rw [m01] at eb; cases ea; cases eb; exact hbl
          · rw [m01] at ea; rw [m00] at eb; cases ea; cases eb; exact hbl.symm
          · exact absurd rfl hqq
      have hargs : RelL m0 (bbArgs b1 b2) [V, W] := by
        subst hk; subst hk'
        cases g1 with
        | slr _ _ _ _ La hLa hna =>
          rw [e1] at hLa; cases hLa
          cases g2 with
          | slr _ _ _ _ Lb hLb hnb =>
            rw [e2] at hLb; cases hLb
            exact .cons (.slr 0 0 _ 0 L1 m00 hna) (.cons (.slr 1 0 _ 0 L2 m01 hnb) (.nil _))
      generalize hE : evF Tryz.prog (fOp Tryz.prog) orc n f (bbArgs b1 b2) (bbH b1 b2 e) 8 = ou at hu
      cases ou with
      | none => cases hu
      | some u0 =>
        simp only [isAns] at hu
        split at hu
        · rename_i x hx
          simp only [Bool.and_eq_true, beq_iff_eq] at hu
          obtain ⟨hxv, hW⟩ := hu
          have hW := beq_t hW
          obtain ⟨k1, k2⟩ := ev_at (orc' := orc) orc_at n f (bbArgs b1 b2) (bbH b1 b2 e) 8 u0 hE hlt
          have key : ∀ V' w', (∃ m', Rel m' u0.v V' ∧ Mv u0.W 8 u0.nx m0 w m' w' ∧ RepOn Tryz.prog (fun r => r < 8 ∨ (8 ≤ r ∧ r < u0.nx)) m' u0.H.get w') →
              ∃ m', Rel m' (.b v) V' ∧ Mv 0 nx nx m w m' w' ∧ RepOn Tryz.prog (fun r => X r ∨ (nx ≤ r ∧ r < nx)) m' H.get w' := by
            rintro V' w' ⟨m', h1, h2, h3⟩
            rw [hx, hxv] at h1
            have hfr : ∀ b, b < w.heap.size → w'.heap[b]? = w.heap[b]? := fun b hb => h2.fr b hb fun q L hq => by rw [hW] at hq; simp at hq
            refine ⟨m, by cases h1; exact .b _, ⟨fun _ _ h => h, fun _ _ h => .inl h, h2.size, fun b hb _ => hfr b hb, h2.os, h2.tape, h2.output⟩, fun q o hq ho => ?_, fun q q' La Lb h4 h5 => hp.rep.inj q q' La Lb (h4.resolve_right (by omega)) (h5.resolve_right (by omega)), trivial⟩
            obtain ⟨L, p1, p2⟩ := hp.rep.rep q o (hq.resolve_right (by omega)) ho
            exact ⟨L, p1, p2.keep _ (fun _ _ h => h) (hfr _ p2.lt)⟩
          rcases k2 (fun q => q < 8) m0 w #[V, W] hargs ⟨hrep, fun q hq => hlt q (k1.rd q hq), fun q h1 _ => ⟨m0n q (by omega), by omega⟩⟩ with ⟨V', w', a1, a2⟩ | ⟨a1, a2⟩
          · exact .inl ⟨V', w', a1, key V' w' a2⟩
          · refine .inr ⟨a1, a2.mono fun e' w' => ?_⟩
            rintro ⟨V', rfl, h⟩
            exact ⟨V', rfl, key V' w' h⟩
        · cases hu
    · cases h
  · cases h
end Go.Proofs.YthfkgdjekmebgaaGreatDoor
