/- The evaluator's operations are the model's: arithmetic, comparison, literals, assertions. Plain lemmas. -/
import Derived.Test.YthfkgdjekmebgaaGreatDoorEv5
namespace Go.Ev
open Go
set_option linter.unusedVariables false
set_option linter.unusedSimpArgs false
set_option linter.unusedSectionVars false
variable [Env]
section
variable {P : Program}
theorem shift_ok {op : BinOp} {k yk : IntKind} {a b : Int} {v : AV} (h : evShift op k a b = some v) (m : Mp) (w : World) : ∃ V, (Op.shift op k a yk b).run P w = .ok V w ∧ Rel m v V := by
  unfold evShift at h
  split at h
  · rename_i n
    have hn : ¬ ((n : Int) < 0) := by omega
    cases op <;> simp at h <;> subst h <;> exact ⟨_, by simp [Op.shift, hn], .i _ _⟩
  · cases h
theorem ofInt_nat (n x : Nat) : BitVec.ofInt n (Int.ofNat x) = BitVec.ofNat n x := by
  show BitVec.ofInt n (x : Int) = _
  rw [BitVec.ofInt_natCast]
theorem int_ok {op : BinOp} {t : TypeId} {k : IntKind} {a b : Int} {v : AV} (h : evInt op k a b = some v) (m : Mp) (w : World) : ∃ V, (binOp op t (.int k a) (.int k b)).run P w = .ok V w ∧ Rel m v V := by
  cases op
  case add => simp [evInt] at h; subst h; exact ⟨_, by simp [binOp, Op.intArith], .i _ _⟩
  case sub => simp [evInt] at h; subst h; exact ⟨_, by simp [binOp, Op.intArith], .i _ _⟩
  case mul => simp [evInt] at h; subst h; exact ⟨_, by simp [binOp, Op.intArith], .i _ _⟩
  case quo =>
    simp only [evInt] at h
    split at h
    · cases h
    · rename_i hb
      rw [ieq_eq] at hb
      have hb' : b ≠ 0 := by simpa using hb
      cases h; exact ⟨_, by simp [binOp, Op.intDiv, hb'], .i _ _⟩
  case rem =>
    simp only [evInt] at h
    split at h
    · cases h
    · rename_i hb
      rw [ieq_eq] at hb
      have hb' : b ≠ 0 := by simpa using hb
      cases h; exact ⟨_, by simp [binOp, Op.intDiv, hb'], .i _ _⟩
  case and =>
    simp only [evInt] at h
    split at h
    · rename_i x y
      cases h
      refine ⟨.int k (k.wrap (Nat.land (x % 2 ^ k.bits) (y % 2 ^ k.bits))), ?_, .i _ _⟩
      simp only [binOp, ne_eq, not_true_eq_false, if_false, Op.intBits, ofInt_nat, BitVec.toNat_and, BitVec.toNat_ofNat]; rfl
    · cases h
  case or =>
    simp only [evInt] at h
    split at h
    · rename_i x y
      cases h
      refine ⟨.int k (k.wrap (Nat.lor (x % 2 ^ k.bits) (y % 2 ^ k.bits))), ?_, .i _ _⟩
      simp only [binOp, ne_eq, not_true_eq_false, if_false, Op.intBits, ofInt_nat, BitVec.toNat_or, BitVec.toNat_ofNat]; rfl
    · cases h
  case xor =>
    simp only [evInt] at h
    split at h
    · rename_i x y
      cases h
      refine ⟨.int k (k.wrap (Nat.xor (x % 2 ^ k.bits) (y % 2 ^ k.bits))), ?_, .i _ _⟩
      simp only [binOp, ne_eq, not_true_eq_false, if_false, Op.intBits, ofInt_nat, BitVec.toNat_xor, BitVec.toNat_ofNat]; rfl
    · cases h
  case eql => simp [evInt] at h; subst h; exact ⟨_, by simp [binOp, Op.intCmp, ieq_eq], .b _⟩
  case neq => simp [evInt] at h; subst h; exact ⟨.bool (a != b), by simp [binOp, Op.intCmp], by rw [ieq_eq]; exact .b _⟩
  case lss => simp [evInt] at h; subst h; exact ⟨.bool (decide (a < b)), by simp [binOp, Op.intCmp], by rw [ile_eq, show (!decide (b ≤ a)) = decide (a < b) by rw [Bool.eq_iff_iff]; simp]; exact .b _⟩
  case leq => simp [evInt] at h; subst h; exact ⟨.bool (decide (a ≤ b)), by simp [binOp, Op.intCmp], by rw [ile_eq]; exact .b _⟩
  case gtr => simp [evInt] at h; subst h; exact ⟨.bool (decide (a > b)), by simp [binOp, Op.intCmp], by rw [ile_eq, show (!decide (a ≤ b)) = decide (a > b) by rw [Bool.eq_iff_iff]; simp]; exact .b _⟩
  case geq => simp [evInt] at h; subst h; exact ⟨.bool (decide (a ≥ b)), by simp [binOp, Op.intCmp], by rw [ile_eq]; exact .b _⟩
  all_goals simp [evInt] at h
theorem str_ok {op : BinOp} {t : TypeId} {x y : List UInt8} {v : AV} (h : evStr op x y = some v) {X Y : ByteArray} (hx : X.data.toList = x) (hy : Y.data.toList = y) (m : Mp) (w : World) :
    ∃ V, (binOp op t (.string X) (.string Y)).run P w = .ok V w ∧ Rel m v V := by
  have ex : X.toList = x := by rw [ByteArray.toList_eq, hx]
  have ey : Y.toList = y := by rw [ByteArray.toList_eq, hy]
  cases op
  case add =>
    simp only [evStr] at h
    split at h
    · rename_i hb
      have hl := blt_t hb
      cases h
      have sx : X.size = x.length := by rw [← hx, Array.length_toList]; rfl
      have sy : Y.size = y.length := by rw [← hy, Array.length_toList]; rfl
      have hs : ¬ (((X.size + Y.size : Nat) : Int) > IntKind.i64.max) := by
        rw [IntKind.max_i64, sx, sy]; unfold lim at hl; omega
      refine ⟨.string (X ++ Y), ?_, .s _ _ ?_⟩
      · simp only [binOp, Op.stringOp, if_neg hs]; rfl
      · rw [← hx, ← hy]; simp [ByteArray.data_append]
    · cases h
  case eql => simp [evStr] at h; subst h; exact ⟨_, by simp only [binOp, Op.stringOp, ex, ey, ← seq'_eq]; rfl, .b _⟩
  case neq => simp [evStr] at h; subst h; exact ⟨_, by simp only [binOp, Op.stringOp, ex, ey, ← seq'_eq]; rfl, .b _⟩
  case lss => simp [evStr] at h; subst h; exact ⟨_, by simp only [binOp, Op.stringOp, ex, ey, ← slt_eq]; rfl, .b _⟩
  case geq => simp [evStr] at h; subst h; exact ⟨_, by simp only [binOp, Op.stringOp, ex, ey, ← slt_eq]; rfl, .b _⟩
  case leq => simp [evStr] at h; subst h; exact ⟨.bool (slt x y || seq' x y), by simp only [binOp, Op.stringOp, ex, ey, ← seq'_eq, ← slt_eq]; rfl, .b _⟩
  case gtr => simp [evStr] at h; subst h; exact ⟨.bool (!(slt x y || seq' x y)), by simp only [binOp, Op.stringOp, ex, ey, ← seq'_eq, ← slt_eq]; rfl, by simp; exact .b _⟩
  all_goals simp [evStr] at h
theorem eql_form {t : TypeId} {x y : AV} {r : Bool} (h : evEq P 1 t x y = some r) (na : ∀ p q, x = .a p → y = .a q → False) (ni : ∀ k a k' b, x = .i k a → y = .i k' b → False) (ns : ∀ a b, x = .s a → y = .s b → False) (nr : ∀ k lo hi k' b, x = .r k lo hi → y = .i k' b → False)
    {m : Mp} {X Y : Value} (hx : Rel m x X) (hy : Rel m y Y) (xo yo : Operand) :
    (eqGuard .eql t xo yo X Y = pure () ∧ eqGuard .neq t xo yo X Y = pure ()) ∧ binOp .eql t X Y = (do pure (.bool (← Op.equal t X Y))) ∧ binOp .neq t X Y = (do pure (.bool (!(← Op.equal t X Y)))) := by
  simp only [evEq] at h
  split at h
  · cases hx; cases hy; exact ⟨⟨rfl, rfl⟩, rfl, rfl⟩
  · exact (ni _ _ _ _ rfl rfl).elim
  · exact (nr _ _ _ _ _ rfl rfl).elim
  · exact (ns _ _ rfl rfl).elim
  · cases hx; cases hy; exact ⟨⟨rfl, rfl⟩, rfl, rfl⟩
  · cases hx; cases hy; exact ⟨⟨rfl, rfl⟩, rfl, rfl⟩
  · cases hx; cases hy; exact ⟨⟨rfl, rfl⟩, rfl, rfl⟩
  · cases hx; cases hy; exact ⟨⟨rfl, rfl⟩, rfl, rfl⟩
  · cases hx; cases hy <;> exact ⟨⟨rfl, rfl⟩, rfl, rfl⟩
  · cases hy; cases hx <;> exact ⟨⟨rfl, rfl⟩, rfl, rfl⟩
  · cases hx; cases hy; exact ⟨⟨rfl, rfl⟩, rfl, rfl⟩
  · cases hx; cases hy; exact ⟨⟨rfl, rfl⟩, rfl, rfl⟩
  · cases hx; cases hy; exact ⟨⟨rfl, rfl⟩, rfl, rfl⟩
  · cases hx; cases hy; exact ⟨⟨rfl, rfl⟩, rfl, rfl⟩
  · cases hx; cases hy; exact ⟨⟨rfl, rfl⟩, rfl, rfl⟩
  · cases hx; cases hy; exact ⟨⟨rfl, rfl⟩, rfl, rfl⟩
  · cases hx; cases hy; exact ⟨⟨rfl, rfl⟩, rfl, rfl⟩
  · cases hx; cases hy; exact ⟨⟨rfl, rfl⟩, rfl, rfl⟩
  · exact (na _ _ rfl rfl).elim
  · cases h
theorem depth_8 : 8 ≤ P.depth := by unfold Program.depth Made.depth; omega
theorem rng_ok {op : BinOp} {t : TypeId} {k : IntKind} {lo hi a b : Int} {v : AV} (h : evRng op lo hi b = some v) (h1 : lo ≤ a) (h2 : a ≤ hi) (m : Mp) (w : World) :
    ∃ V, (binOp op t (.int k a) (.int k b)).run P w = .ok V w ∧ Rel m v V := by
  have key : ∀ {p : Prop} [Decidable p] {z : Bool}, decide p = z → Rel m (.b z) (.bool (decide p)) := fun e => by rw [e]; exact .b _
  cases op <;> simp only [evRng] at h
  case lss =>
    refine ⟨.bool (decide (a < b)), by simp [binOp, Op.intCmp], ?_⟩
    split at h
    · rename_i e; rw [ile_eq, decide_eq_true_eq] at e; cases h; exact key (decide_eq_false (by omega))
    · split at h
      · cases h
      · rename_i e; rw [ile_eq, decide_eq_false_iff_not] at e; cases h; exact key (decide_eq_true (by omega))
  case geq =>
    refine ⟨.bool (decide (a ≥ b)), by simp [binOp, Op.intCmp], ?_⟩
    split at h
    · rename_i e; rw [ile_eq, decide_eq_true_eq] at e; cases h; exact key (decide_eq_true (by omega))
    · split at h
      · cases h
      · rename_i e; rw [ile_eq, decide_eq_false_iff_not] at e; cases h; exact key (decide_eq_false (by omega))
  case leq =>
    refine ⟨.bool (decide (a ≤ b)), by simp [binOp, Op.intCmp], ?_⟩
    split at h
    · rename_i e; rw [ile_eq, decide_eq_true_eq] at e; cases h; exact key (decide_eq_true (by omega))
    · split at h
      · cases h
      · rename_i e; rw [ile_eq, decide_eq_false_iff_not] at e; cases h; exact key (decide_eq_false (by omega))
  case gtr =>
    refine ⟨.bool (decide (a > b)), by simp [binOp, Op.intCmp], ?_⟩
    split at h
    · rename_i e; rw [ile_eq, decide_eq_true_eq] at e; cases h; exact key (decide_eq_false (by omega))
    · split at h
      · cases h
      · rename_i e; rw [ile_eq, decide_eq_false_iff_not] at e; cases h; exact key (decide_eq_true (by omega))
  all_goals cases h
theorem bin_ok {op : BinOp} {t : TypeId} {x y v : AV} (h : evBin P op t x y = some v) {m : Mp} {X Y : Value} (hx : Rel m x X) (hy : Rel m y Y) (xo yo : Operand) (w : World) :
    ∃ V, (eqGuard op t xo yo X Y >>= fun _ => binOp op t X Y).run P w = .ok V w ∧ Rel m v V := by
  unfold evBin at h
  split at h
  · cases hx; cases hy
    obtain ⟨V, g1, g2⟩ := shift_ok (P := P) h m w
    exact ⟨V, by rw [eqGuard_shl]; simpa [binOp] using g1, g2⟩
  · cases hx; cases hy
    obtain ⟨V, g1, g2⟩ := shift_ok (P := P) h m w
    exact ⟨V, by rw [eqGuard_shr]; simpa [binOp] using g1, g2⟩
  · cases hx; cases hy
    split at h
    · rename_i e; subst e
      obtain ⟨V, g1, g2⟩ := int_ok (P := P) (t := t) h m w
      exact ⟨V, by rw [eqGuard_at_int]; simpa using g1, g2⟩
    · cases h
  · cases hx; cases hy
    rename_i S1 h1 S2 h2
    obtain ⟨V, g1, g2⟩ := str_ok (P := P) (t := t) h h1 h2 m w
    exact ⟨V, by rw [eqGuard_at_string]; simpa using g1, g2⟩
  · cases hx; cases hy
    split at h
    · rename_i e; subst e
      rename_i n h1 h2
      obtain ⟨V, g1, g2⟩ := rng_ok (P := P) (t := t) h h1 h2 m w
      exact ⟨V, by rw [eqGuard_at_int]; simpa using g1, g2⟩
    · cases h
  · split at h
    · rename_i r hn he
      cases h
      have g := fun X Y hx hy => equal_ok (m := m) (X := X) (Y := Y) he (by omega) hx hy w
      have hm := noIf_ok 8 t hn P.depth depth_8
      cases hx; cases hy
      rename_i A a1 a2 B b1 b2
      have g' := g _ _ (.a _ A a1 a2) (.a _ B b1 b2)
      refine ⟨.bool r, ?_, .b _⟩
      simp only [Sem.run_bind, run_eqGuard_agg w _ t xo yo A B hm, Result.andThen_ok, run_eql_struct]
      unfold Op.equal Op.maxDepth at g'
      rw [g']; rfl
    · cases h
  · split at h
    · rename_i r hn he
      cases h
      have g := fun X Y hx hy => equal_ok (m := m) (X := X) (Y := Y) he (by omega) hx hy w
      have hm := noIf_ok 8 t hn P.depth depth_8
      cases hx; cases hy
      rename_i A a1 a2 B b1 b2
      have g' := g _ _ (.a _ A a1 a2) (.a _ B b1 b2)
      refine ⟨.bool (!r), ?_, .b _⟩
      simp only [Sem.run_bind, run_eqGuard_agg w _ t xo yo A B hm, Result.andThen_ok, run_neq_struct]
      unfold Op.equal Op.maxDepth at g'
      rw [g']; rfl
    · cases h
  · rename_i n1 n2 nr n3
    split at h
    · rename_i r he
      cases h
      obtain ⟨⟨e1, _⟩, e2, _⟩ := eql_form he (fun p q h1 h2 => n3 p q h1 h2) (fun k a k' b h1 h2 => n1 k a k' b h1 h2) (fun a b h1 h2 => n2 a b h1 h2) (fun k lo hi k' b h1 h2 => nr k lo hi k' b h1 h2) hx hy xo yo
      have g := equal_ok he (by omega) hx hy w
      exact ⟨.bool r, by rw [e1, e2]; simp [g], .b _⟩
    · cases h
  · rename_i n1 n2 nr n3
    split at h
    · rename_i r he
      cases h
      obtain ⟨⟨_, e1⟩, _, e2⟩ := eql_form he (fun p q h1 h2 => n3 p q h1 h2) (fun k a k' b h1 h2 => n1 k a k' b h1 h2) (fun a b h1 h2 => n2 a b h1 h2) (fun k lo hi k' b h1 h2 => nr k lo hi k' b h1 h2) hx hy xo yo
      have g := equal_ok he (by omega) hx hy w
      exact ⟨.bool (!r), by rw [e1, e2]; simp [g], .b _⟩
    · cases h
  · cases h
theorem ni_ok {op : BinOp} {t : TypeId} {x y : Operand} {v : AV} (h : evNi P op t x y = some v) (m : Mp) (w : World) :
    ∃ V, (eqGuard op t x y .nilIface .nilIface >>= fun _ => binOp op t .nilIface .nilIface).run P w = .ok V w ∧ Rel m v V := by
  have g : (isK x || isK y) = true → eqGuard op t x y .nilIface .nilIface = pure () := by
    intro hk
    cases x with
    | const c => exact eqGuard_nil_constL _ _ _ c
    | _ => cases y with
      | const c => exact eqGuard_nil_constR _ _ _ c
      | _ => simp [isK] at hk
  have e : ∀ (d : Nat) (ms : Array (String × TypeId)), P.underlying t = some (.interface ms) → (Op.equalIn (d + 1) t .nilIface .nilIface).run P w = .ok true w := by
    intro d ms hd
    simp [Op.equalIn, run_und hd]
  have b1 : binOp .eql t .nilIface .nilIface = (do pure (.bool (← Op.equal t .nilIface .nilIface))) := rfl
  have b2 : binOp .neq t .nilIface .nilIface = (do pure (.bool (!(← Op.equal t .nilIface .nilIface)))) := rfl
  unfold evNi at h
  split at h
  · rename_i ms hd hk
    cases h
    have e' : (Op.equal t .nilIface .nilIface).run P w = .ok true w := e 9999 ms hd
    refine ⟨.bool true, ?_, .b _⟩
    rw [g hk, b1]
    simp [e']
  · rename_i ms hd hk
    cases h
    have e' : (Op.equal t .nilIface .nilIface).run P w = .ok true w := e 9999 ms hd
    refine ⟨.bool false, ?_, .b _⟩
    rw [g hk, b2]
    simp [e']
  · cases h
theorem ok_binOp {T : Tr AV} {H : Tr AO} {nx : Nat} {o : Oper} {u : Ou} {op : BinOp} {t t' : TypeId} {x y : Operand} (ho : o.op = .binOp op t x y t') (h : evOp P T H nx (.binOp op t x y t') = some (.ok u)) : Goal P T H nx o u := by
  simp only [evOp] at h
  split at h
  · rename_i hx hy
    obtain ⟨v, hv, hu⟩ := lift_inv h
    refine goal_pure hu fun X m ρ w hr hp => ?_
    have hX := hr x _ (by rw [ho]; simp [Op.operands]) hx
    have hY := hr y _ (by rw [ho]; simp [Op.operands]) hy
    obtain ⟨V, g1, g2⟩ := ni_ok hv m w
    refine ⟨V, ?_, g2⟩
    unfold execOp; rw [ho]; simp only []
    generalize ρ x = A at hX
    generalize ρ y = B at hY
    cases hX; cases hY
    exact run_v g1
  · rename_i a b hn hx hy
    obtain ⟨v, hv, hu⟩ := lift_inv h
    refine goal_pure hu fun X m ρ w hr hp => ?_
    obtain ⟨V, g1, g2⟩ := bin_ok hv (hr x _ (by rw [ho]; simp [Op.operands]) hx) (hr y _ (by rw [ho]; simp [Op.operands]) hy) x y w
    refine ⟨V, ?_, g2⟩
    unfold execOp; rw [ho]
    exact run_v g1
  · cases h
theorem ok_unOp {T : Tr AV} {H : Tr AO} {nx : Nat} {o : Oper} {u : Ou} {op : UnOp} {t : TypeId} {x : Operand} (ho : o.op = .unOp op t x) (h : evOp P T H nx (.unOp op t x) = some (.ok u)) : Goal P T H nx o u := by
  simp only [evOp] at h
  split at h
  · rename_i a hx
    obtain ⟨v, hv, hu⟩ := lift_inv h
    refine goal_pure hu fun X m ρ w hr hp => ?_
    have hX := hr x _ (by rw [ho]; simp [Op.operands]) hx
    have key : ∃ V, (Op.unary op (ρ x)).run P w = .ok V w ∧ Rel m v V := by
      generalize ρ x = C at hX
      unfold evUn at hv
      split at hv
      · cases hX; cases hv; exact ⟨_, by simp [Op.unary, Op.intArith], .i _ _⟩
      · cases hX
        split at hv
        · cases hv
        · rename_i k n hk
          obtain ⟨V, g1, g2⟩ := int_ok (P := P) (t := t) hv m w
          refine ⟨V, ?_, g2⟩
          simp only [Op.unary, if_neg hk]
          simpa [binOp] using g1
      · cases hX; cases hv; exact ⟨_, by simp [Op.unary], .b _⟩
      · cases hv
    obtain ⟨V, g1, g2⟩ := key
    refine ⟨V, ?_, g2⟩
    unfold execOp; rw [ho]
    exact run_v g1
  · cases h

/-! Literals. -/
theorem over_eq {l xs r : List AV} {o : Nat} (h : over l o xs = some r) : o + xs.length ≤ l.length ∧ r = l.take o ++ xs ++ l.drop (o + xs.length) := by
  unfold over at h
  split at h
  · rename_i hb; cases h; exact ⟨ble_t hb, rfl⟩
  · cases h
theorem over_get {l xs r : List AV} {o : Nat} (h : over l o xs = some r) : r.length = l.length ∧ ∀ i, r[i]? = if o ≤ i ∧ i < o + xs.length then xs[i - o]? else l[i]? := by
  obtain ⟨h1, rfl⟩ := over_eq h
  refine ⟨by simp; omega, fun i => ?_⟩
  rw [List.append_assoc]
  by_cases h2 : i < o
  · rw [if_neg (by omega), List.getElem?_append_left (by simp; omega), List.getElem?_take, if_pos h2]
  · rw [List.getElem?_append_right (by simp; omega)]
    have e : (l.take o).length = o := by simp; omega
    rw [e]
    by_cases h3 : i < o + xs.length
    · rw [if_pos ⟨by omega, h3⟩, List.getElem?_append_left (by omega)]
    · rw [if_neg (by omega), List.getElem?_append_right (by omega), List.getElem?_drop]
      congr 1; omega
theorem fold_set (off : Nat) : ∀ (l : List Value) (k : Nat) (cs : Array Value), off + k + l.length ≤ cs.size →
    ((l.zipIdx k).foldl (fun (cs : Array Value) (x : Value × Nat) => cs.setIfInBounds (off + x.2) x.1) cs).size = cs.size ∧
    ∀ i, ((l.zipIdx k).foldl (fun (cs : Array Value) (x : Value × Nat) => cs.setIfInBounds (off + x.2) x.1) cs)[i]? = if off + k ≤ i ∧ i < off + k + l.length then l[i - (off + k)]? else cs[i]?
  | [], k, cs, h => by
    refine ⟨rfl, fun i => ?_⟩
    rw [if_neg (by rw [List.length_nil]; omega)]
    rfl
  | v :: l, k, cs, h => by
    simp only [List.length_cons] at h
    obtain ⟨h1, h2⟩ := fold_set off l (k + 1) (cs.setIfInBounds (off + k) v) (by simp; omega)
    simp only [List.zipIdx_cons, List.foldl_cons]
    refine ⟨by rw [h1]; simp, fun i => ?_⟩
    rw [h2 i]
    simp only [List.length_cons]
    by_cases e : i = off + k
    · subst e
      rw [if_neg (by omega), if_pos ⟨by omega, by omega⟩, Array.getElem?_setIfInBounds_self_of_lt (by omega)]
      simp
    · rw [Array.getElem?_setIfInBounds_ne (fun h => e h.symm)]
      by_cases g : off + (k + 1) ≤ i ∧ i < off + (k + 1) + l.length
      · rw [if_pos g, if_pos ⟨by omega, by omega⟩, show i - (off + k) = (i - (off + (k + 1))) + 1 by omega, List.getElem?_cons_succ]
      · rw [if_neg g, if_neg (by omega)]
theorem fill_ok {m : Mp} {place : Nat → Option (Nat × Nat)} : ∀ {parts : List (Nat × AV)} {cells r : List AV} {VP : List (Nat × Value)} {C : Array Value},
    fillA place cells parts = some r → parts.length = VP.length → (∀ (i : Nat) (x : Nat × AV) (y : Nat × Value), parts[i]? = some x → VP[i]? = some y → x.1 = y.1 ∧ Rel m x.2 y.2) → RelL m cells C.toList →
    ∃ R, Instr.fill place C VP = some R ∧ RelL m r R.toList
  | [], cells, r, VP, C, h, hl, hv, hc => by
    have : VP = [] := List.eq_nil_of_length_eq_zero hl.symm
    subst this
    simp only [fillA] at h; cases h
    exact ⟨C, rfl, hc⟩
  | (i, v) :: parts, cells, r, VP, C, h, hl, hv, hc => by
    cases VP with
    | nil => simp at hl
    | cons y VP =>
      obtain ⟨i', V⟩ := y
      obtain ⟨e0, hV⟩ := hv 0 (i, v) (i', V) (by simp) (by simp)
      have e0 : i = i' := e0
      subst e0
      simp only [fillA] at h
      split at h
      · cases h
      · rename_i off size hp
        split at h
        · rename_i l hb ho
          have hsz := beq_t hb
          have hcells := hV.cells
          obtain ⟨o1, o2⟩ := over_get ho
          have o3 := (over_eq ho).1
          have e1 : V.cells.size = size := by have := hcells.1; simp at this; omega
          have e2 : C.size = cells.length := by have := hc.1; simp at this; omega
          have e3 : V.cells.toList.length = v.cells.length := hcells.1.symm
          have hfold := fold_set off V.cells.toList 0 C (by rw [e3, e2]; omega)
          have hnew : (V.cells.zipIdx.foldl (fun cs (c, j) => cs.setIfInBounds (off + j) c) C) = ((V.cells.toList.zipIdx 0).foldl (fun (cs : Array Value) (x : Value × Nat) => cs.setIfInBounds (off + x.2) x.1) C) := by
            rw [← Array.foldl_toList]; simp
          obtain ⟨f1, f2⟩ := hfold
          have hrel : RelL m l ((V.cells.toList.zipIdx 0).foldl (fun (cs : Array Value) (x : Value × Nat) => cs.setIfInBounds (off + x.2) x.1) C).toList := by
            refine ⟨by rw [o1]; simp only [Array.length_toList]; rw [f1, e2], fun j x W g1 g2 => ?_⟩
            rw [Array.getElem?_toList, f2 j] at g2
            rw [o2 j] at g1
            simp only [Nat.add_zero, e3] at g2
            split at g1
            · rename_i hj; rw [if_pos hj] at g2; exact hcells.2 _ x W g1 g2
            · rename_i hj; rw [if_neg hj] at g2; exact hc.2 j x W g1 (by rw [Array.getElem?_toList]; exact g2)
          obtain ⟨R, g1, g2⟩ := fill_ok (parts := parts) (VP := VP) h (by simpa using hl) (fun j x y a b => hv (j + 1) x y (by simpa using a) (by simpa using b)) hrel
          refine ⟨R, ?_, g2⟩
          simp only [Instr.fill, hp]
          rw [if_neg (by simp only [Bool.or_eq_true, decide_eq_true_eq, not_or]; exact ⟨by simp [e1], by rw [e1, e2, ← hsz]; omega⟩)]
          rw [hnew]; exact g1
        · cases h
theorem evParts_rel {m : Mp} {T : Tr AV} {ρ : Operand → Value} : ∀ {l : List (Nat × Operand)} {r : List (Nat × AV)}, evParts T l = some r → (∀ x v, x ∈ l.map (·.2) → evx T x = some v → Rel m v (ρ x)) →
    r.length = (l.map fun p => (p.1, ρ p.2)).length ∧ ∀ (i : Nat) (x : Nat × AV) (y : Nat × Value), r[i]? = some x → (l.map fun p => (p.1, ρ p.2))[i]? = some y → x.1 = y.1 ∧ Rel m x.2 y.2
  | [], r, h, _ => by simp [evParts] at h; subst h; simp
  | (i, x) :: l, r, h, hr => by
    simp only [evParts] at h
    split at h
    · rename_i v q h1 h2
      cases h
      obtain ⟨g1, g2⟩ := evParts_rel (l := l) h2 fun z v hz => hr z v (by simp at hz ⊢; exact .inr hz)
      refine ⟨by simpa using g1, fun j a b e1 e2 => ?_⟩
      cases j with
      | zero => simp at e1 e2; subst e1; subst e2; exact ⟨rfl, hr x v (by simp) h1⟩
      | succ j => exact g2 j a b (by simpa using e1) (by simpa using e2)
    · cases h
theorem run_plcs : ∀ {fl : List Field} {pl : List (Nat × Nat)}, plcs P fl = some pl → ∀ w, (fl.mapM fun f => (do pure (f.offset, ← sizeOf f.type) : Sem (Nat × Nat))).run P w = .ok pl w
  | [], pl, h, w => by simp [plcs, allSome] at h; subst h; rfl
  | f :: fl, pl, h, w => by
    simp only [plcs, allSome] at h
    split at h
    · rename_i y ys h1 h2
      cases h
      split at h1
      · rename_i n hn
        cases h1
        have := run_plcs (fl := fl) h2 w
        simp only [List.mapM_cons, Sem.run_bind, run_size hn, Result.andThen_ok, Sem.run_pure, this]
      · cases h1
    · cases h
theorem build_ok {t : TypeId} {parts : List (Nat × AV)} {v : AV} (h : evBuild P t parts = some v) {m : Mp} {VP : Array (Nat × Value)} (hl : parts.length = VP.toList.length)
    (hv : ∀ (i : Nat) (x : Nat × AV) (y : Nat × Value), parts[i]? = some x → VP.toList[i]? = some y → x.1 = y.1 ∧ Rel m x.2 y.2) (w : World) : ∃ V, (Instr.build t VP).run P w = .ok V w ∧ Rel m v V := by
  unfold evBuild at h
  split at h
  · rename_i z fs hz hd
    obtain ⟨Z, z1, z2⟩ := run_zero hz
    have hZ := (absV_rel m z1).cells
    split at h
    · rename_i pl hp
      split at h
      · rename_i l hf
        cases h
        obtain ⟨R, g1, g2⟩ := fill_ok hf hl hv hZ
        refine ⟨.agg R, ?_, .a_of g2⟩
        have hm : (fs.mapM fun f => (do pure (f.offset, ← sizeOf f.type) : Sem (Nat × Nat))).run P w = .ok pl.toArray w := by
          rw [Array.mapM_eq_mapM_toList, Sem.run_map, run_plcs hp w]; rfl
        simp only [Instr.build, Sem.run_bind, z2, run_und hd, Result.andThen_ok, hm]
        have hpl : (fun (i : Nat) => pl.toArray[i]?) = fun (i : Nat) => pl[i]? := by funext i; simp
        simp only [hpl, g1]; rfl
      · cases h
    · cases h
  · rename_i z n e hz hd
    obtain ⟨Z, z1, z2⟩ := run_zero hz
    have hZ := (absV_rel m z1).cells
    split at h
    · rename_i sz hs
      split at h
      · rename_i l hf
        cases h
        obtain ⟨R, g1, g2⟩ := fill_ok hf hl hv hZ
        refine ⟨.agg R, ?_, .a_of g2⟩
        simp only [Instr.build, Sem.run_bind, z2, run_und hd, run_size hs, Result.andThen_ok, g1]; rfl
      · cases h
    · cases h
  · cases h
theorem ok_build {T : Tr AV} {H : Tr AO} {nx : Nat} {o : Oper} {u : Ou} {t : TypeId} {parts : Array (Nat × Operand)} (ho : o.op = .build t parts) (h : evOp P T H nx (.build t parts) = some (.ok u)) : Goal P T H nx o u := by
  simp only [evOp] at h
  split at h
  · rename_i l hl
    obtain ⟨v, hv, hu⟩ := lift_inv h
    refine goal_pure hu fun X m ρ w hr hp => ?_
    obtain ⟨e1, e2⟩ := evParts_rel (m := m) (ρ := ρ) hl fun x v hx => hr x v (by rw [ho]; simpa [Op.operands] using hx)
    have hpt : (parts.map fun (i, x) => (i, ρ x)).toList = parts.toList.map fun p => (p.1, ρ p.2) := by simp
    obtain ⟨V, g1, g2⟩ := build_ok (VP := parts.map fun (i, x) => (i, ρ x)) hv (by rw [hpt]; exact e1) (by rw [hpt]; exact e2) w
    refine ⟨V, ?_, g2⟩
    unfold execOp; rw [ho]
    exact run_v g1
  · cases h
theorem ok_typeAssert {T : Tr AV} {H : Tr AO} {nx : Nat} {o : Oper} {u : Ou} {x : Operand} {t0 t : TypeId} {k : Bool} (ho : o.op = .typeAssert x t0 t k) (h : evOp P T H nx (.typeAssert x t0 t k) = some (.ok u)) : Goal P T H nx o u := by
  simp only [evOp] at h
  split at h
  · rename_i v0 hx
    unfold evAssert at h
    split at h
    · cases h
    · rename_i d t' v hn hd
      have und : ∀ w, (underlying t).run P w = .ok d w := fun w => run_und hd w
      cases hb : Nat.beq t' t with
      | true =>
        have := beq_t hb; subst this
        cases k with
        | true =>
          simp only [hb] at h
          refine goal_pure (pure_inv h) fun X m ρ w hr hp => ?_
          have hX := hr x _ (by rw [ho]; simp [Op.operands]) hx
          unfold execOp; rw [ho]; simp only []
          generalize ρ x = C at hX
          cases hX
          rename_i V hV
          refine ⟨.tuple #[V, .bool true], run_v ?_, .t_of (.cons hV (.cons (.b true) (.nil m)))⟩
          cases d <;> first | exact (hn _ rfl).elim | simp [Instr.typeAssert, und]
        | false =>
          simp only [hb] at h
          refine goal_pure (pure_inv h) fun X m ρ w hr hp => ?_
          have hX := hr x _ (by rw [ho]; simp [Op.operands]) hx
          unfold execOp; rw [ho]; simp only []
          generalize ρ x = C at hX
          cases hX
          rename_i V hV
          refine ⟨V, run_v ?_, hV⟩
          cases d <;> first | exact (hn _ rfl).elim | simp [Instr.typeAssert, und]
      | false =>
        have hne := beq_f hb
        cases k with
        | true =>
          simp only [hb] at h
          split at h
          · rename_i z hz
            obtain ⟨Z, z1, z2⟩ := run_zero hz
            refine goal_pure (pure_inv h) fun X m ρ w hr hp => ?_
            have hX := hr x _ (by rw [ho]; simp [Op.operands]) hx
            unfold execOp; rw [ho]; simp only []
            generalize ρ x = C at hX
            cases hX
            rename_i V hV
            refine ⟨.tuple #[Z, .bool false], run_v ?_, .t_of (.cons (absV_rel m z1) (.cons (.b false) (.nil m)))⟩
            cases d <;> first | exact (hn _ rfl).elim | simp [Instr.typeAssert, und, z2, hne]
          · cases h
        | false => simp only [hb] at h; cases h
    · rename_i d hn hd
      have und : ∀ w, (underlying t).run P w = .ok d w := fun w => run_und hd w
      cases k with
      | false => cases h
      | true =>
        cases hz : zero P t with
        | none => simp only [hz] at h; cases h
        | some z =>
          simp only [hz] at h
          obtain ⟨Z, z1, z2⟩ := run_zero hz
          refine goal_pure (pure_inv h) fun X m ρ w hr hp => ?_
          have hX := hr x _ (by rw [ho]; simp [Op.operands]) hx
          unfold execOp; rw [ho]; simp only []
          generalize ρ x = C at hX
          cases hX
          refine ⟨.tuple #[Z, .bool false], run_v ?_, .t_of (.cons (absV_rel m z1) (.cons (.b false) (.nil m)))⟩
          cases d <;> first | exact (hn _ rfl).elim | simp [Instr.typeAssert, und, z2]
    · cases h
  · cases h
end
end Go.Ev
