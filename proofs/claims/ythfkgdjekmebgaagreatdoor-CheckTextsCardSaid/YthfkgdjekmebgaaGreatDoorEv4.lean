/- The evaluator's operations are the model's: those that only compute. Plain lemmas. -/
import Derived.Test.YthfkgdjekmebgaaGreatDoorEv3
import Derived.Laws.StructEq
namespace Go.Ev
open Go
set_option linter.unusedVariables false
set_option linter.unusedSimpArgs false
set_option linter.unusedSectionVars false
variable [Env]

theorem ieq_eq (a b : Int) : ieq a b = (a == b) := by
  rw [Bool.eq_iff_iff]
  cases a with
  | ofNat x => cases b with
    | ofNat y => simp [ieq, Nat.beq_eq] <;> omega
    | negSucc y => simp [ieq] <;> omega
  | negSucc x => cases b with
    | ofNat y => simp [ieq] <;> omega
    | negSucc y => simp [ieq, Nat.beq_eq] <;> omega
theorem ile_eq (a b : Int) : ile a b = decide (a ≤ b) := by
  rw [Bool.eq_iff_iff]
  cases a with
  | ofNat x => cases b with
    | ofNat y => simp [ile, Nat.ble_eq] <;> omega
    | negSucc y => simp [ile] <;> omega
  | negSucc x => cases b with
    | ofNat y => simp [ile] <;> omega
    | negSucc y => simp [ile, Nat.ble_eq] <;> omega
theorem seq'_eq : ∀ (x y : List UInt8), seq' x y = (x == y)
  | [], [] => rfl
  | [], _ :: _ => rfl
  | _ :: _, [] => rfl
  | a :: x, b :: y => by
    simp only [seq']
    cases h : Nat.beq a.toNat b.toNat with
    | true =>
      have := UInt8.toNat_inj.1 (beq_t h)
      subst this
      simp [seq'_eq x y]
    | false =>
      have : a ≠ b := fun e => beq_f h (by rw [e])
      simp [this]
theorem slt_eq : ∀ (x y : List UInt8), slt x y = Op.bytesLess x y
  | [], [] => rfl
  | _ :: _, [] => rfl
  | [], _ :: _ => rfl
  | a :: x, b :: y => by
    simp only [slt, Op.bytesLess]
    cases h : Nat.beq a.toNat b.toNat with
    | true =>
      have := UInt8.toNat_inj.1 (beq_t h)
      subst this
      simp [slt_eq x y]
    | false =>
      have : a ≠ b := fun e => beq_f h (by rw [e])
      have h2 : (a == b) = false := by simp [this]
      simp only [h2, Bool.false_and, Bool.or_false]
      rw [Bool.eq_iff_iff]
      simp [Nat.blt_eq, UInt8.lt_iff_toNat_lt]

section
variable {P : Program}
theorem run_v {x : Sem Value} {V : Value} {w w' : World} (h : x.run P w = .ok V w') : (x >>= fun y => (pure (Next.value y) : Sem Next)).run P w = .ok (.value V) w' := by
  rw [Sem.run_bind, h]; rfl
theorem run_u {x : Sem Unit} {w w' : World} (h : x.run P w = .ok () w') : (x >>= fun _ => (pure Next.skip : Sem Next)).run P w = .ok .skip w' := by
  rw [Sem.run_bind, h]; rfl
def OpR (m : Mp) (T : Tr AV) (ρ : Operand → Value) (op : Op) : Prop := ∀ x v, x ∈ op.operands.toList → evx T x = some v → Rel m v (ρ x)
def Goal (P : Program) (T : Tr AV) (H : Tr AO) (nx : Nat) (o : Oper) (u : Ou) : Prop :=
  Keep H nx u ∧ ∀ X m ρ w, OpR m T ρ o.op → Pre P X m H nx u w → Does P (execOp ρ o) X nx u m w
theorem lift_inv {H : Tr AO} {nx : Nat} {x : Option AV} {u : Ou} (h : lift H nx x = some (.ok u)) : ∃ v, x = some v ∧ u = ⟨v, H, nx, 0, 0⟩ := by
  cases x with
  | none => simp [lift] at h
  | some v => simp [lift, pure'] at h; exact ⟨v, rfl, h.symm⟩
theorem pure_inv {H : Tr AO} {nx : Nat} {v : AV} {u : Ou} (h : pure' H nx v = some (.ok u)) : u = ⟨v, H, nx, 0, 0⟩ := by
  simp [pure'] at h; exact h.symm
theorem goal_pure {T : Tr AV} {H : Tr AO} {nx : Nat} {o : Oper} {u : Ou} {v : AV} {R : Nat} (hu : u = ⟨v, H, nx, R, 0⟩)
    (h : ∀ X m ρ w, OpR m T ρ o.op → Pre P X m H nx u w → ∃ V, (execOp ρ o).run P w = .ok (.value V) w ∧ Rel m v V) (hR : ∀ r, R.testBit r = true → H.get r ≠ none := by exact live_0 _) : Goal P T H nx o u := by
  subst hu
  refine ⟨keep_pure _ _ _ _ hR, fun X m ρ w hr hp => ?_⟩
  obtain ⟨V, h1, h2⟩ := h X m ρ w hr hp
  exact does_pure hp h1 h2
theorem inB_t {i : Int} {n k : Nat} (h : inB i n = some k) : i = (k : Int) ∧ k < n := by
  unfold inB at h
  split at h
  · split at h
    · rename_i hb; cases h; exact ⟨rfl, blt_t hb⟩
    · cases h
  · cases h

theorem ok_move {T : Tr AV} {H : Tr AO} {nx : Nat} {o : Oper} {u : Ou} {x : Operand} (ho : o.op = .move x) (h : evOp P T H nx (.move x) = some (.ok u)) : Goal P T H nx o u := by
  simp only [evOp] at h
  obtain ⟨v, h1, hu⟩ := lift_inv h
  refine goal_pure hu fun X m ρ w hr hp => ⟨ρ x, ?_, hr x v (by rw [ho]; simp [Op.operands]) h1⟩
  unfold execOp; rw [ho]; rfl
theorem ok_assign {T : Tr AV} {H : Tr AO} {nx : Nat} {o : Oper} {u : Ou} {x : Operand} (ho : o.op = .assign x) (h : evOp P T H nx (.assign x) = some (.ok u)) : Goal P T H nx o u := by
  simp only [evOp] at h
  obtain ⟨v, h1, hu⟩ := lift_inv h
  refine goal_pure hu fun X m ρ w hr hp => ⟨ρ x, ?_, hr x v (by rw [ho]; simp [Op.operands]) h1⟩
  unfold execOp; rw [ho]; rfl
theorem ok_pick {T : Tr AV} {H : Tr AO} {nx : Nat} {o : Oper} {u : Ou} {c a b : Operand} (ho : o.op = .pick c a b) (h : evOp P T H nx (.pick c a b) = some (.ok u)) : Goal P T H nx o u := by
  simp only [evOp] at h
  split at h
  · rename_i hc
    obtain ⟨v, h1, hu⟩ := lift_inv h
    refine goal_pure hu fun X m ρ w hr hp => ⟨ρ a, ?_, hr a v (by rw [ho]; simp [Op.operands]) h1⟩
    have := hr c _ (by rw [ho]; simp [Op.operands]) hc
    unfold execOp; rw [ho]; simp only []
    generalize ρ c = C at this
    cases this
    simp [asBool]
  · rename_i hc
    obtain ⟨v, h1, hu⟩ := lift_inv h
    refine goal_pure hu fun X m ρ w hr hp => ⟨ρ b, ?_, hr b v (by rw [ho]; simp [Op.operands]) h1⟩
    have := hr c _ (by rw [ho]; simp [Op.operands]) hc
    unfold execOp; rw [ho]; simp only []
    generalize ρ c = C at this
    cases this
    simp [asBool]
  · cases h
theorem ok_extract {T : Tr AV} {H : Tr AO} {nx : Nat} {o : Oper} {u : Ou} {x : Operand} {i : Nat} (ho : o.op = .extract x i) (h : evOp P T H nx (.extract x i) = some (.ok u)) : Goal P T H nx o u := by
  simp only [evOp] at h
  split at h
  · rename_i l hx
    obtain ⟨v, h1, hu⟩ := lift_inv h
    refine goal_pure hu fun X m ρ w hr hp => ?_
    have := hr x _ (by rw [ho]; simp [Op.operands]) hx
    unfold execOp; rw [ho]
    simp only []
    generalize ρ x = C at this
    cases this
    rename_i A hl hA
    obtain ⟨V, g1, g2⟩ := RelL.get ⟨hl, hA⟩ h1
    refine ⟨V, run_v ?_, g2⟩
    have : A[i]? = some V := by rw [← Array.getElem?_toList]; exact g1
    simp [Instr.extract, this]
  · cases h
theorem ok_field {T : Tr AV} {H : Tr AO} {nx : Nat} {o : Oper} {u : Ou} {t : TypeId} {x : Operand} {f : Nat} (ho : o.op = .field t x f) (h : evOp P T H nx (.field t x f) = some (.ok u)) : Goal P T H nx o u := by
  simp only [evOp] at h
  split at h
  · rename_i v0 hx
    obtain ⟨v, h1, hu⟩ := lift_inv h
    refine goal_pure hu fun X m ρ w hr hp => ?_
    have := hr x _ (by rw [ho]; simp [Op.operands]) hx
    unfold execOp; rw [ho]
    simp only []
    generalize ρ x = C at this
    unfold evPart at h1
    split at h1
    · cases this
      rename_i A hl hA
      split at h1
      · rename_i fs hfs
        split at h1
        · rename_i fd hfd
          obtain ⟨V, g1, g2⟩ := run_part h1 ⟨hl, hA⟩ w
          exact ⟨V, run_v (by simp [Instr.field, run_und hfs, hfd, asAgg, g1]), g2⟩
        · cases h1
      · cases h1
    · cases h1
  · cases h
theorem ok_fieldAddr {T : Tr AV} {H : Tr AO} {nx : Nat} {o : Oper} {u : Ou} {t : TypeId} {x : Operand} {f : Nat} (ho : o.op = .fieldAddr t x f) (h : evOp P T H nx (.fieldAddr t x f) = some (.ok u)) : Goal P T H nx o u := by
  simp only [evOp] at h
  split at h
  · rename_i v0 hx
    obtain ⟨v, h1, hu⟩ := lift_inv h
    refine goal_pure hu fun X m ρ w hr hp => ?_
    have := hr x _ (by rw [ho]; simp [Op.operands]) hx
    unfold execOp; rw [ho]
    simp only []
    generalize ρ x = C at this
    unfold evField at h1
    split at h1
    · rename_i r off
      cases this
      rename_i L hL
      split at h1
      · rename_i fs hfs
        split at h1
        · rename_i fd hfd
          split at h1
          · rename_i n hn
            split at h1
            · cases h1
            · rename_i hz
              cases h1
              refine ⟨_, run_v (V := .pointer (some ⟨L.block, L.base + (off + fd.offset), none⟩)) ?_, .p _ _ L hL⟩
              have hz' := beq_f hz
              simp [Instr.fieldAt, run_und hfs, hfd, Instr.sureAddr, fieldPlace, run_size hn, hz', add_none, Nat.add_assoc]
          · cases h1
        · cases h1
      · cases h1
    · cases h1
  · cases h
theorem ok_indexAddr {T : Tr AV} {H : Tr AO} {nx : Nat} {o : Oper} {u : Ou} {t : TypeId} {x i : Operand} (ho : o.op = .indexAddr t x i) (h : evOp P T H nx (.indexAddr t x i) = some (.ok u)) : Goal P T H nx o u := by
  simp only [evOp] at h
  split at h
  · rename_i v0 k0 hx hi
    obtain ⟨v, h1, hu⟩ := lift_inv h
    refine goal_pure hu fun X m ρ w hr hp => ?_
    have hX := hr x _ (by rw [ho]; simp [Op.operands]) hx
    have hI := hr i _ (by rw [ho]; simp [Op.operands]) hi
    unfold execOp; rw [ho]
    simp only []
    generalize ρ x = C at hX
    generalize ρ i = D at hI
    unfold evIndexA at h1
    split at h1
    · rename_i q n
      cases hI
      split at h1
      · rename_i len e r off hd
        cases hX
        rename_i L hL
        split at h1
        · rename_i k z hk hz
          cases h1
          obtain ⟨rfl, hlt⟩ := inB_t hk
          refine ⟨_, run_v (V := .pointer (some ⟨L.block, L.base + (off + k * z), none⟩)) ?_, .p _ _ L hL⟩
          simp [Instr.indexAt, asIntOf, run_und hd, Instr.sureAddr, run_size hz, hlt, add_none, Nat.add_assoc]
        · cases h1
      · rename_i e r off len c rel hd
        have key : ∀ L, m r = some L → ∀ cp, C = .slice (some ⟨L.block, L.base + off, none⟩) len cp → ∃ V, (Instr.indexAt t C (.int q n) >>= fun y => (pure (Next.value y) : Sem Next)).run P w = .ok (.value V) w ∧ Rel m v V := by
          intro L hL cp hC
          subst hC
          split at h1
          · rename_i k z hk hz
            cases h1
            obtain ⟨rfl, hlt⟩ := inB_t hk
            refine ⟨_, run_v (V := .pointer (some ⟨L.block, L.base + (off + k * z), none⟩)) ?_, .p _ _ L hL⟩
            simp [Instr.indexAt, asIntOf, run_und hd, run_size hz, hlt, add_none, Nat.add_assoc]
          · cases h1
        cases hX
        · rename_i L hL; exact key L hL _ rfl
        · rename_i L hL hn; exact key L hL _ rfl
      · cases h1
    · cases h1
  · cases h
theorem ok_index {T : Tr AV} {H : Tr AO} {nx : Nat} {o : Oper} {u : Ou} {t : TypeId} {x i : Operand} (ho : o.op = .index t x i) (h : evOp P T H nx (.index t x i) = some (.ok u)) : Goal P T H nx o u := by
  simp only [evOp] at h
  split at h
  · rename_i v0 k0 hx hi
    obtain ⟨v, h1, hu⟩ := lift_inv h
    refine goal_pure hu fun X m ρ w hr hp => ?_
    have hX := hr x _ (by rw [ho]; simp [Op.operands]) hx
    have hI := hr i _ (by rw [ho]; simp [Op.operands]) hi
    unfold execOp; rw [ho]
    simp only []
    generalize ρ x = C at hX
    generalize ρ i = D at hI
    unfold evIndex at h1
    split at h1
    · rename_i q n
      cases hI
      split at h1
      · rename_i len e l hd
        cases hX
        rename_i A hl hA
        split at h1
        · rename_i k z hk hz
          obtain ⟨rfl, hlt⟩ := inB_t hk
          obtain ⟨V, g1, g2⟩ := run_part h1 ⟨hl, hA⟩ w
          exact ⟨V, run_v (by simp [Instr.index, asIntOf, run_und hd, run_size hz, hlt, g1]), g2⟩
        · cases h1
      · rename_i l hd
        cases hX
        rename_i S hS
        split at h1
        · rename_i k hk
          split at h1
          · rename_i c hc
            cases h1
            obtain ⟨rfl, hlt⟩ := inB_t hk
            have hget : S[k]? = some c := by
              rw [← hS] at hc
              have hk2 := (List.getElem?_eq_some_iff.1 hc)
              obtain ⟨h3, h4⟩ := hk2
              have h5 : k < S.size := by rw [Array.length_toList] at h3; exact h3
              rw [getElem?_pos S k h5, ← h4]
              rfl
            refine ⟨_, run_v (V := .int .u8 c.toNat) ?_, .i _ _⟩
            have e : (if (0 : Int) ≤ (k : Int) then S[((k : Int)).toNat]? else none) = some c := by rw [if_pos (by omega), Int.toNat_natCast]; exact hget
            simp only [Instr.index, asIntOf, Sem.run_bind, Sem.run_pure, Result.andThen_ok, run_und hd, e]
          · cases h1
        · cases h1
      · cases h1
    · cases h1
  · cases h
theorem nilAhead_ok {t : TypeId} {v : AV} {name : String} {m : Mp} {V : Value} (h : evNilS P t v name = true) (hv : Rel m v V) (n : Nat) (w : World) : (nilAhead (n + 1) t V name).run P w = .ok (some false) w := by
  unfold evNilS at h
  split at h
  · rename_i i hi
    split at h
    · rename_i mm hm
      split at h
      · rename_i hp
        split at h
        · rename_i g b hf
          split at h
          · simp [nilAhead, run_info hi, hm, hp, followBlind, hf]
          · unfold evNilT at h
            split at h
            · rename_i e hu
              split at h
              · cases hv
                simp [nilAhead, run_info hi, hm, hp, followBlind, hf, run_und hu]
              · cases h
            · rename_i d hd hu
              have : ∀ e, d ≠ .pointer e := fun e h => hd e (by rw [h])
              cases d <;> simp [nilAhead, run_info hi, hm, hp, followBlind, hf, run_und hu] at this ⊢
            · cases h
        · cases h
      · cases h
    · cases h
  · cases h
theorem ok_nilCheck {T : Tr AV} {H : Tr AO} {nx : Nat} {o : Oper} {u : Ou} {x : Operand} (ho : o.op = .nilCheck x) (h : evOp P T H nx (.nilCheck x) = some (.ok u)) : Goal P T H nx o u := by
  simp only [evOp] at h
  split at h
  · rename_i r off hx
    refine goal_pure (pure_inv h) fun X m ρ w hr hp => ?_
    have := hr x _ (by rw [ho]; simp [Op.operands]) hx
    unfold execOp; rw [ho]; simp only []
    generalize ρ x = C at this
    cases this
    rename_i L hL
    exact ⟨_, rfl, .p _ _ L hL⟩
  · rename_i f a b hx
    refine goal_pure (pure_inv h) fun X m ρ w hr hp => ?_
    have := hr x _ (by rw [ho]; simp [Op.operands]) hx
    unfold execOp; rw [ho]; simp only []
    generalize ρ x = C at this
    cases this with
    | f _ _ _ A B ha hb h1 h2 => exact ⟨_, rfl, .f _ _ _ A B ha hb h1 h2⟩
  · rename_i t v hx
    refine goal_pure (pure_inv h) fun X m ρ w hr hp => ?_
    have := hr x _ (by rw [ho]; simp [Op.operands]) hx
    unfold execOp; rw [ho]; simp only []
    generalize ρ x = C at this
    cases this
    rename_i V hV
    exact ⟨_, rfl, .it _ _ V hV⟩
  · rename_i name a b hx
    cases a with
    | nil => simp [evNilM] at h
    | cons y a => cases y with
      | it t v =>
        simp only [evNilM] at h
        split at h
        · rename_i hs
          refine goal_pure (pure_inv h) fun X m ρ w hr hp => ?_
          have := hr x _ (by rw [ho]; simp [Op.operands]) hx
          unfold execOp; rw [ho]; simp only []
          generalize ρ x = C at this
          cases this with
          | f _ _ _ A B ha hb h1 h2 =>
            refine ⟨_, ?_, .f _ _ _ A B ha hb h1 h2⟩
            have hl : RelL m (.it t v :: a) A.toList := ⟨ha, h1⟩
            obtain ⟨V, A', e, hv, _⟩ := hl.cons_inv
            cases hv
            rename_i V' hV'
            have e0 : A[0]? = some (.iface t V') := by rw [← Array.getElem?_toList, e]; rfl
            have hk := nilAhead_ok hs hV' (P.types.size + 99) w
            simp only [e0]
            have e1 : P.types.size + Made.depth = P.types.size + 99 + 1 := rfl
            simp only [Sem.run_bind, run_program, Result.andThen_ok, e1, hk]
            simp
        · cases h
      | _ => simp [evNilM] at h
  · cases h
theorem ok_makeInterface {T : Tr AV} {H : Tr AO} {nx : Nat} {o : Oper} {u : Ou} {t : TypeId} {x : Operand} (ho : o.op = .makeInterface t x) (h : evOp P T H nx (.makeInterface t x) = some (.ok u)) : Goal P T H nx o u := by
  simp only [evOp] at h
  split at h
  · cases h
  · rename_i v d hn hx hd
    refine goal_pure (pure_inv h) fun X m ρ w hr hp => ⟨.iface t (ρ x), ?_, .it _ _ _ (hr x _ (by rw [ho]; simp [Op.operands]) hx)⟩
    unfold execOp; rw [ho]; simp only []
    refine run_v ?_
    simp only [Instr.makeInterface, Sem.run_bind, run_und hd, Result.andThen_ok]
    rfl
  · cases h
theorem evArgs_rel {m : Mp} {T : Tr AV} {ρ : Operand → Value} : ∀ {l : List Operand} {r : List AV}, evArgs T l = some r → (∀ x v, x ∈ l → evx T x = some v → Rel m v (ρ x)) → RelL m r (l.map ρ)
  | [], r, h, _ => by simp [evArgs, allSome] at h; subst h; exact .nil m
  | x :: l, r, h, hr => by
    simp only [evArgs, allSome] at h
    split at h
    · rename_i y ys h1 h2
      cases h
      exact .cons (hr x y (by simp) h1) (evArgs_rel (l := l) h2 fun z v hz => hr z v (by simp [hz]))
    · cases h
theorem ok_makeFunc {T : Tr AV} {H : Tr AO} {nx : Nat} {o : Oper} {u : Ou} {fn : Fn} {a b : Array Operand} (ho : o.op = .makeFunc fn a b) (h : evOp P T H nx (.makeFunc fn a b) = some (.ok u)) : Goal P T H nx o u := by
  simp only [evOp] at h
  split at h
  · rename_i l1 l2 h1 h2
    refine goal_pure (pure_inv h) fun X m ρ w hr hp => ⟨.func fn (a.map ρ) (b.map ρ), ?_, .f_of ?_ ?_⟩
    · unfold execOp; rw [ho]; rfl
    · rw [Array.toList_map]; exact evArgs_rel h1 fun x v hx => hr x v (by rw [ho]; simp [Op.operands]; exact .inl (by simpa using hx))
    · rw [Array.toList_map]; exact evArgs_rel h2 fun x v hx => hr x v (by rw [ho]; simp [Op.operands]; exact .inr (by simpa using hx))
  · cases h
end
end Go.Ev
