/- The law PhenomTexts returns true, for any phenomena and any text. -/
import Derived.Test.YtacbiajedbbnbaaGreatDoorU5
import Derived.Test.YtacbiajedbbnbaaGreatDoorUP10
import Derived.Test.YtacbiajedbbnbaaGreatDoorUE08
namespace Go.Proofs.YtacbiajedbbnbaaGreatDoor
open Go.Ev Go.RowKit Go
set_option linter.unusedVariables false
set_option linter.unusedSectionVars false
set_option linter.unusedSimpArgs false
def lawRho (p q y : Ph) (s : ByteArray) (n : Nat) : Value := if n = 20 then .string s else if 40 ≤ n then y.vals.getD (n - 40) undef else (p.vals ++ q.vals).getD n undef
theorem Ph.text_200 (p : Ph) (hn : p.nums) : p.text.length ≤ 200 := by
  unfold Ph.text
  split
  · rename_i ho
    obtain ⟨b0, b1, b2, b3, b4, b5, b6⟩ := hn
    have h1 := decDigits_le20 p.pos.toNat (by omega)
    have h2 := decDigits_le20 p.place.toNat (by omega)
    have h3 := decDigits_le20 p.t b3
    have h4 := decDigits_le20 p.x b4
    have h5 := @verT_le env0 _ _ b5 b6
    have h6 : (phWord p.k).length ≤ 12 := by unfold phWord; split <;> simp
    simp [Ph.told, Ph.words, Lib.join_cons, Lib.joinTail]
    omega
  · simp
theorem Ph.zero_nums : Ph.zero.nums := by simp [Ph.nums, Ph.zero]
section
variable {p q y : Ph} {s : ByteArray}
theorem den_ph0 : (phToks 0).map (·.den (lawRho p q y s) phF) = p.vals := rfl
theorem den_ph7 : (phToks 7).map (·.den (lawRho p q y s) phF) = q.vals := rfl
theorem den_ph40 : yToks.map (·.den (lawRho p q y s) phF) = y.vals := rfl
theorem den_tP : tP.den (lawRho p q y s) phF = str p.text := by
  show phF 12 ((phToks 0).map (·.den (lawRho p q y s) phF)) = _
  rw [den_ph0, @phF12 env0]
theorem den_tY : tY.den (lawRho p q y s) phF = str y.text := by
  show phF 12 (yToks.map (·.den (lawRho p q y s) phF)) = _
  rw [den_ph40, @phF12 env0]
theorem toks_rel [Env] [Sym (lawRho p q y s) phF] {m : Mp} {n : Nat} {z : Ph} (hz : z.nums) (h : (phToks n).map (·.den (lawRho p q y s) phF) = z.vals) : Rel m (.a ((phToks n).map .any)) (.agg z.vals.toArray) := by
  obtain ⟨b0, b1, b2, b3, b4, b5, b6⟩ := hz
  simp only [phToks, List.map_cons, List.map_nil, Ph.vals, List.cons.injEq, and_true] at h ⊢
  obtain ⟨h0, h1, h2, h3, h4, h5, h6⟩ := h
  refine .a_of ?_
  exact .cons (rel_tok (ρ := lawRho p q y s) (φ := phF) h0.symm (conf_i64 b0.1 b0.2)) (.cons (rel_tok (ρ := lawRho p q y s) (φ := phF) h1.symm (conf_i64 b1.1 b1.2)) (.cons (rel_tok (ρ := lawRho p q y s) (φ := phF) h2.symm (conf_i64 b2.1 b2.2)) (.cons (rel_tok (ρ := lawRho p q y s) (φ := phF) h3.symm (conf_u64 b3)) (.cons (rel_tok (ρ := lawRho p q y s) (φ := phF) h4.symm (conf_u64 b4)) (.cons (rel_tok (ρ := lawRho p q y s) (φ := phF) h5.symm (conf_u64 b5)) (.cons (rel_tok (ρ := lawRho p q y s) (φ := phF) h6.symm (conf_u64 b6)) (.nil _)))))))
theorem out_rel [Env] [Sym (lawRho p q y s) phF] {m : Mp} {o : Option Ph} (hy : y.nums) (ho : ∀ z, o = some z → z = y) : Rel m (rOut o.isSome) (phRes o) := by
  cases o with
  | none => exact .t_of (.cons (.a_of (.cons (.i _ _) (.cons (.i _ _) (.cons (.i _ _) (.cons (.i _ _) (.cons (.i _ _) (.cons (.i _ _) (.cons (.i _ _) (.nil _))))))))) (.cons (.i _ _) (.nil _)))
  | some z =>
    have := ho z rfl; subst this
    exact .t_of (.cons (toks_rel (p := p) (q := q) (s := s) hy den_ph40) (.cons (.i _ _) (.nil _)))
theorem works19_at [Env] (ρ : Nat → Value) [Sym ρ phF] : CallAt Tryz.prog (gPure (gIss [([], .b true)])) 4 := by
  refine gIss_at (ρ := ρ) (φ := phF) Tryz.func4 (by kernel_rfl) (by kernel_rfl) fun p hp m w hw => ?_
  simp only [List.mem_cons, List.not_mem_nil, or_false] at hp
  subst hp
  refine (calls_of_ev (A := #[]) evWorks19 (fun _ => .nil _) Tryz.func4 (by kernel_rfl) (by kernel_rfl) w).mono fun e w' => ?_
  rintro ⟨rfl, hb⟩
  exact ⟨_, rfl, .b _, hb⟩
theorem lawL_at [Env] [Sym (lawRho p q y s) phF] (hI : LqI) (hs : s.size ≤ 200) (hp : p.nums) (hy : y.nums) (ho : ∀ z, phRead s.data.toList = some z → z = y) {ok : Bool} (hok : ok = true → p.ok) : ∀ x ∈ lawL (phRead s.data.toList).isSome ok, CallAt Tryz.prog x.2 x.1 := by
  intro x hx
  simp only [lawL, List.mem_cons, List.not_mem_nil, or_false] at hx
  rcases hx with rfl | rfl | rfl | rfl | rfl
  · exact text_at (lawRho p q y s) hI
  · exact refText_at (lawRho p q y s) hI
  · refine gIss_at (ρ := lawRho p q y s) (φ := phF) Tryz.func7 (by kernel_rfl) (by kernel_rfl) fun x hx m w hw => ?_
    have hx : x = ([tS], rOut (phRead s.data.toList).isSome) ∨ (p.ok ∧ x = ([tP], pOut)) := by
      cases ok with
      | true =>
        simp only [if_true, List.mem_cons, List.not_mem_nil, or_false] at hx
        exact hx.imp id fun e => ⟨hok rfl, e⟩
      | false =>
        simp only [Bool.false_eq_true, if_false, List.mem_cons, List.not_mem_nil, or_false] at hx
        exact .inl hx
    rcases hx with rfl | ⟨hpo, rfl⟩
    · show Calls Tryz.prog 7 #[.string s] w _
      refine (phRead_any s hs w (hI m w hw)).mono fun e w' => ?_
      rintro ⟨rfl, hb⟩
      exact ⟨_, rfl, out_rel (p := p) (q := q) (s := s) hy ho, hb⟩
    · show Calls Tryz.prog 7 #[tP.den (lawRho p q y s) phF] w _
      rw [den_tP]
      have hl := p.text_200 hp
      refine (phRead_any ⟨p.text.toArray⟩ (by show p.text.toArray.size ≤ 200; simpa using hl) w (hI m w hw)).mono fun e w' => ?_
      rintro ⟨rfl, hb⟩
      have hr : phRead p.text.toArray.toList = some p := phRead_some.2 ⟨hpo, hp, by rw [Ph.text_ne hpo]⟩
      refine ⟨_, rfl, ?_, hb⟩
      rw [show (ByteArray.mk p.text.toArray).data.toList = p.text.toArray.toList from rfl, hr]
      exact .t_of (.cons (toks_rel (p := p) (q := q) (y := y) (s := s) hp den_ph0) (.cons (.i _ _) (.nil _)))
  · refine gIss_at (ρ := lawRho p q y s) (φ := phF) Tryz.func8 (by kernel_rfl) (by kernel_rfl) fun x hx m w hw => ?_
    simp only [List.mem_cons, List.not_mem_nil, or_false] at hx
    subst hx
    show Calls Tryz.prog 8 #[.string s] w _
    refine (refPhRead_any s hs w (hI m w hw)).mono fun e w' => ?_
    rintro ⟨rfl, hb⟩
    exact ⟨_, rfl, out_rel (p := p) (q := q) (s := s) hy ho, hb⟩
  · exact works19_at (lawRho p q y s)
end
def sgn (x y : Int) : Int := if x < y then -1 else if x = y then 0 else 1
theorem wΦ_ok {ρ : Nat → Value} {a b : Int} {x y : Tok} (hx : x.den ρ phF = .int .i64 a) (hy : y.den ρ phF = .int .i64 b) : FactsOk ρ phF (wΦ (sgn a b) x y) := by
  intro f hf
  have lt1 : ∀ (u v : Tok) (c d : Int) (r : Bool), u.den ρ phF = .int .i64 c → v.den ρ phF = .int .i64 d → decide (c < d) = r → Cm.lt.holds (u.den ρ phF) (v.den ρ phF) = some r := fun u v c d r h1 h2 h3 => by rw [h1, h2]; simp [Cm.holds, h3]
  have eq1 : ∀ (r : Bool), (a == b) = r → Cm.eq.holds (x.den ρ phF) (y.den ρ phF) = some r := fun r h => by rw [hx, hy]; simp [Cm.holds]; simpa using h
  rcases Int.lt_trichotomy a b with h | h | h
  · have e : sgn a b = -1 := if_pos h
    rw [e] at hf
    simp only [wΦ, cmpΦ, List.mem_cons] at hf
    simp at hf
    rcases hf with rfl | rfl | rfl
    · exact eq1 false (by simp; omega)
    · exact lt1 x y a b true hx hy (by simp [h])
    · exact lt1 y x b a false hy hx (by simp; omega)
  · subst h
    have e : sgn a a = 0 := by unfold sgn; rw [if_neg (by omega), if_pos rfl]
    rw [e] at hf
    simp [wΦ, cmpΦ] at hf
    rcases hf with rfl | rfl | rfl
    · exact eq1 true (by simp)
    · exact lt1 x y a a false hx hy (by simp)
    · exact lt1 y x a a false hy hx (by simp)
  · have e : sgn a b = 1 := by unfold sgn; rw [if_neg (by omega), if_neg (by omega)]
    rw [e] at hf
    simp [wΦ, cmpΦ] at hf
    rcases hf with rfl | rfl | rfl
    · exact eq1 false (by simp; omega)
    · exact lt1 x y a b false hx hy (by simp; omega)
    · exact lt1 y x b a true hy hx (by simp [h])
theorem sgn_mem (a b : Int) : sgn a b ∈ [(-1 : Int), 0, 1] := by unfold sgn; split <;> (try split) <;> simp
theorem phenomTexts_law (p q : Ph) (hp : p.nums) (hq : q.nums) (s : ByteArray) (hsz : s.size ≤ 9223372036854775807) (w : World) (hL : Lq w.heap.size w) : Calls Tryz.prog 3 #[.agg p.vals.toArray, .agg q.vals.toArray, .string s] w fun e w' => e = .returned (.bool true) ∧ Below w.heap.size w w' := by
  have fin : ∀ (y : Ph) {Φ : List Fact} {l : List (FuncId × Cl)} {t : Tok}, (∀ [Env] [Sym (lawRho p q y s) phF], LqI → ∀ x ∈ l, CallAt Tryz.prog x.2 x.1) → FactsOk (lawRho p q y s) phF Φ → isTrue (evS Φ l 3 (lawArgs t)) = true → t.den (lawRho p q y s) phF = .string s → conf t.srt (.string s) →
      Calls Tryz.prog 3 #[.agg p.vals.toArray, .agg q.vals.toArray, .string s] w fun e w' => e = .returned (.bool true) ∧ Below w.heap.size w w' := by
    intro y Φ l t h1 h2 h3 h4 h5
    letI : Env := envS w.heap.size w (lawRho p q y s) phF
    haveI : Sym (lawRho p q y s) phF := envS_sym _ _ _ _
    generalize hu : evS Φ l 3 (lawArgs t) = r at h3
    cases r with
    | none => cases h3
    | some u =>
      refine (evS_calls h2 (h1 (lqI_envS _ hL)) hu (.cons (toks_rel (p := p) (q := q) (y := y) (s := s) hp den_ph0) (.cons (toks_rel (p := p) (q := q) (y := y) (s := s) hq den_ph7) (.cons (rel_tok (ρ := lawRho p q y s) (φ := phF) h4.symm h5) (.nil _)))) Tryz.func3 (by kernel_rfl) (by kernel_rfl) w (envS_start w _)).mono fun e w' => ?_
      rintro ⟨V, m', rfl, hv, hb⟩
      refine ⟨?_, hb⟩
      unfold isTrue at h3
      split at h3
      · rename_i u' hu'
        cases hu'
        split at h3
        · rename_i ht; rw [ht] at hv; cases hv; rfl
        · cases h3
      · rename_i hu'; cases hu'
  by_cases hs : s.size ≤ 200
  · have hy : ((phRead s.data.toList).getD Ph.zero).nums := by
      cases h : phRead s.data.toList with
      | none => exact Ph.zero_nums
      | some z => exact (phRead_some.1 h).2.1
    have ev := evLaw
    simp only [List.all_eq_true] at ev
    have ev := ev (phRead s.data.toList).isSome (by cases (phRead s.data.toList).isSome <;> simp) (decide p.ok) (by cases decide p.ok <;> simp) (sgn p.pos q.pos) (sgn_mem _ _) (sgn p.place q.place) (sgn_mem _ _)
    refine fin ((phRead s.data.toList).getD Ph.zero) (fun hI => lawL_at (q := q) hI hs hp hy (fun z hz => by rw [hz]; rfl) fun h => by simpa using h) (fun f hf => ?_) ev rfl ⟨s, rfl, hs⟩
    simp only [lawΦ, List.mem_cons, List.mem_append] at hf
    rcases hf with rfl | rfl | (hf | hf) | hf
    · show Cm.lt.holds (.int .i64 200) (.int .i64 s.size) = some false
      simp [Cm.holds]; omega
    · show Cm.eq.holds (tP.den (lawRho p q _ s) phF) (str []) = _
      rw [den_tP, eqHolds]
      by_cases ho : p.ok
      · have := Ph.told_ne p
        simp [ho, Ph.text, this]
      · simp [ho, Ph.text]
    · cases h : phRead s.data.toList with
      | none => rw [h] at hf; simp at hf
      | some z =>
        rw [h] at hf
        simp at hf
        subst hf
        show Cm.eq.holds (tY.den (lawRho p q z s) phF) (.string s) = some true
        have hz := phRead_some.1 h
        rw [den_tY, eqHolds', Ph.text_ne hz.1, hz.2.2]; simp
    · exact wΦ_ok (a := p.pos) (b := q.pos) rfl rfl f hf
    · exact wΦ_ok (a := p.place) (b := q.place) rfl rfl f hf
  · refine fin Ph.zero (l := [(4, gPure (gIss [([], .b true)]))]) (fun hI x hx => ?_) (fun f hf => ?_) evLawL rfl ⟨s, rfl, hsz⟩
    · simp only [List.mem_cons, List.not_mem_nil, or_false] at hx
      subst hx
      exact works19_at (lawRho p q Ph.zero s)
    · simp only [List.mem_cons, List.not_mem_nil, or_false] at hf
      subst hf
      show Cm.lt.holds (.int .i64 200) (.int .i64 s.size) = some true
      simp [Cm.holds]; omega
end Go.Proofs.YtacbiajedbbnbaaGreatDoor
