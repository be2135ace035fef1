/- The evaluator's operations are the model's: append, copy, length. Plain lemmas. Ahead of it: The evaluator's operations are the model's: arithmetic, comparison, literals, assertions. Plain lemmas. The evaluator's operations are the model's: those that make, read and write memory. Plain lemmas. -/
import Derived.Test.YtmhiblmgadmgcaaDoorU20
import Derived.Deep.AppendSrc
import Derived.Laws.BytesString
namespace Go.Ev
open Go
set_option linter.unusedVariables false
set_option linter.unusedSimpArgs false
set_option linter.unusedSectionVars false
variable [Env]
section
variable {P : Program}
theorem shift_ok {op : BinOp} {k yk : IntKind} {a b : Int} {v : AV} (h : evShift op k a b = some v) (m : Mp) (w : World) : ∃ V, (Op.shift op k a yk b).run P w = .ok V w ∧ Rel m v V := by
  unfold evShift at h
  split at h
  · rename_i n
    have hn : ¬ ((n : Int) < 0) := by omega
    cases op <;> simp at h <;> subst h <;> exact ⟨_, by simp [Op.shift, hn], .i _ _⟩
  · cases h
theorem ofInt_nat (n x : Nat) : BitVec.ofInt n (Int.ofNat x) = BitVec.ofNat n x := by
  show BitVec.ofInt n (x : Int) = _
  rw [BitVec.ofInt_natCast]
theorem int_ok {op : BinOp} {t : TypeId} {k : IntKind} {a b : Int} {v : AV} (h : evInt op k a b = some v) (m : Mp) (w : World) : ∃ V, (binOp op t (.int k a) (.int k b)).run P w = .ok V w ∧ Rel m v V := by
  cases op
  case add => simp [evInt] at h; subst h; exact ⟨_, by simp [binOp, Op.intArith], .i _ _⟩
  case sub => simp [evInt] at h; subst h; exact ⟨_, by simp [binOp, Op.intArith], .i _ _⟩
  case mul => simp [evInt] at h; subst h; exact ⟨_, by simp [binOp, Op.intArith], .i _ _⟩
  case quo =>
    simp only [evInt] at h
    split at h
    · cases h
    · rename_i hb
      rw [ieq_eq] at hb
      have hb' : b ≠ 0 := by simpa using hb
      cases h; exact ⟨_, by simp [binOp, Op.intDiv, hb'], .i _ _⟩
  case rem =>
    simp only [evInt] at h
    split at h
    · cases h
    · rename_i hb
      rw [ieq_eq] at hb
      have hb' : b ≠ 0 := by simpa using hb
      cases h; exact ⟨_, by simp [binOp, Op.intDiv, hb'], .i _ _⟩
  case and =>
    simp only [evInt] at h
    split at h
    · rename_i x y
      cases h
      refine ⟨.int k (k.wrap (Nat.land (x % 2 ^ k.bits) (y % 2 ^ k.bits))), ?_, .i _ _⟩
      simp only [binOp, ne_eq, not_true_eq_false, if_false, Op.intBits, ofInt_nat, BitVec.toNat_and, BitVec.toNat_ofNat]; rfl
    · cases h
  case or =>
    simp only [evInt] at h
    split at h
    · rename_i x y
      cases h
      refine ⟨.int k (k.wrap (Nat.lor (x % 2 ^ k.bits) (y % 2 ^ k.bits))), ?_, .i _ _⟩
      simp only [binOp, ne_eq, not_true_eq_false, if_false, Op.intBits, ofInt_nat, BitVec.toNat_or, BitVec.toNat_ofNat]; rfl
    · cases h
  case xor =>
    simp only [evInt] at h
    split at h
    · rename_i x y
      cases h
      refine ⟨.int k (k.wrap (Nat.xor (x % 2 ^ k.bits) (y % 2 ^ k.bits))), ?_, .i _ _⟩
      simp only [binOp, ne_eq, not_true_eq_false, if_false, Op.intBits, ofInt_nat, BitVec.toNat_xor, BitVec.toNat_ofNat]; rfl
    · cases h
  case eql => simp [evInt] at h; subst h; exact ⟨_, by simp [binOp, Op.intCmp, ieq_eq], .b _⟩
  case neq => simp [evInt] at h; subst h; exact ⟨.bool (a != b), by simp [binOp, Op.intCmp], by rw [ieq_eq]; exact .b _⟩
  case lss => simp [evInt] at h; subst h; exact ⟨.bool (decide (a < b)), by simp [binOp, Op.intCmp], by rw [ile_eq, show (!decide (b ≤ a)) = decide (a < b) by rw [Bool.eq_iff_iff]; simp]; exact .b _⟩
  case leq => simp [evInt] at h; subst h; exact ⟨.bool (decide (a ≤ b)), by simp [binOp, Op.intCmp], by rw [ile_eq]; exact .b _⟩
  case gtr => simp [evInt] at h; subst h; exact ⟨.bool (decide (a > b)), by simp [binOp, Op.intCmp], by rw [ile_eq, show (!decide (a ≤ b)) = decide (a > b) by rw [Bool.eq_iff_iff]; simp]; exact .b _⟩
  case geq => simp [evInt] at h; subst h; exact ⟨.bool (decide (a ≥ b)), by simp [binOp, Op.intCmp], by rw [ile_eq]; exact .b _⟩
  all_goals simp [evInt] at h
theorem str_ok {op : BinOp} {t : TypeId} {x y : List UInt8} {v : AV} (h : evStr op x y = some v) {X Y : ByteArray} (hx : X.data.toList = x) (hy : Y.data.toList = y) (m : Mp) (w : World) :
    ∃ V, (binOp op t (.string X) (.string Y)).run P w = .ok V w ∧ Rel m v V := by
  have ex : X.toList = x := by rw [ByteArray.toList_eq, hx]
  have ey : Y.toList = y := by rw [ByteArray.toList_eq, hy]
  cases op
  case add =>
    simp only [evStr] at h
    split at h
    · rename_i hb
      have hl := blt_t hb
      cases h
      have sx : X.size = x.length := by rw [← hx, Array.length_toList]; rfl
      have sy : Y.size = y.length := by rw [← hy, Array.length_toList]; rfl
      have hs : ¬ (((X.size + Y.size : Nat) : Int) > IntKind.i64.max) := by
        rw [IntKind.max_i64, sx, sy]; unfold lim at hl; omega
      refine ⟨.string (X ++ Y), ?_, .s _ _ ?_⟩
      · simp only [binOp, Op.stringOp, if_neg hs]; rfl
      · rw [← hx, ← hy]; simp [ByteArray.data_append]
    · cases h
  case eql => simp [evStr] at h; subst h; exact ⟨_, by simp only [binOp, Op.stringOp, ex, ey, ← seq'_eq]; rfl, .b _⟩
  case neq => simp [evStr] at h; subst h; exact ⟨_, by simp only [binOp, Op.stringOp, ex, ey, ← seq'_eq]; rfl, .b _⟩
  case lss => simp [evStr] at h; subst h; exact ⟨_, by simp only [binOp, Op.stringOp, ex, ey, ← slt_eq]; rfl, .b _⟩
  case geq => simp [evStr] at h; subst h; exact ⟨_, by simp only [binOp, Op.stringOp, ex, ey, ← slt_eq]; rfl, .b _⟩
  case leq => simp [evStr] at h; subst h; exact ⟨.bool (slt x y || seq' x y), by simp only [binOp, Op.stringOp, ex, ey, ← seq'_eq, ← slt_eq]; rfl, .b _⟩
  case gtr => simp [evStr] at h; subst h; exact ⟨.bool (!(slt x y || seq' x y)), by simp only [binOp, Op.stringOp, ex, ey, ← seq'_eq, ← slt_eq]; rfl, by simp; exact .b _⟩
  all_goals simp [evStr] at h
theorem eql_form {t : TypeId} {x y : AV} {r : Bool} (h : evEq P 1 t x y = some r) (na : ∀ p q, x = .a p → y = .a q → False) (ni : ∀ k a k' b, x = .i k a → y = .i k' b → False) (ns : ∀ a b, x = .s a → y = .s b → False) (nr : ∀ k lo hi k' b, x = .r k lo hi → y = .i k' b → False)
    {m : Mp} {X Y : Value} (hx : Rel m x X) (hy : Rel m y Y) (xo yo : Operand) :
    (eqGuard .eql t xo yo X Y = pure () ∧ eqGuard .neq t xo yo X Y = pure ()) ∧ binOp .eql t X Y = (do pure (.bool (← Op.equal t X Y))) ∧ binOp .neq t X Y = (do pure (.bool (!(← Op.equal t X Y)))) := by
  simp only [evEq] at h
  split at h
  · cases hx; cases hy; exact ⟨⟨rfl, rfl⟩, rfl, rfl⟩
  · exact (ni _ _ _ _ rfl rfl).elim
  · exact (nr _ _ _ _ _ rfl rfl).elim
  · exact (ns _ _ rfl rfl).elim
  · cases hx; cases hy; exact ⟨⟨rfl, rfl⟩, rfl, rfl⟩
  · cases hx; cases hy; exact ⟨⟨rfl, rfl⟩, rfl, rfl⟩
  · cases hx; cases hy; exact ⟨⟨rfl, rfl⟩, rfl, rfl⟩
  · cases hx; cases hy; exact ⟨⟨rfl, rfl⟩, rfl, rfl⟩
  · cases hx; cases hy <;> exact ⟨⟨rfl, rfl⟩, rfl, rfl⟩
  · cases hy; cases hx <;> exact ⟨⟨rfl, rfl⟩, rfl, rfl⟩
  · cases hx; cases hy; exact ⟨⟨rfl, rfl⟩, rfl, rfl⟩
  · cases hx; cases hy; exact ⟨⟨rfl, rfl⟩, rfl, rfl⟩
  · cases hx; cases hy; exact ⟨⟨rfl, rfl⟩, rfl, rfl⟩
  · cases hx; cases hy; exact ⟨⟨rfl, rfl⟩, rfl, rfl⟩
  · cases hx; cases hy; exact ⟨⟨rfl, rfl⟩, rfl, rfl⟩
  · cases hx; cases hy; exact ⟨⟨rfl, rfl⟩, rfl, rfl⟩
  · cases hx; cases hy; exact ⟨⟨rfl, rfl⟩, rfl, rfl⟩
  · cases hx; cases hy; exact ⟨⟨rfl, rfl⟩, rfl, rfl⟩
  · exact (na _ _ rfl rfl).elim
  · cases h
theorem depth_8 : 8 ≤ P.depth := by unfold Program.depth Made.depth; omega
theorem rng_ok {op : BinOp} {t : TypeId} {k : IntKind} {lo hi a b : Int} {v : AV} (h : evRng op lo hi b = some v) (h1 : lo ≤ a) (h2 : a ≤ hi) (m : Mp) (w : World) :
    ∃ V, (binOp op t (.int k a) (.int k b)).run P w = .ok V w ∧ Rel m v V := by
  have key : ∀ {p : Prop} [Decidable p] {z : Bool}, decide p = z → Rel m (.b z) (.bool (decide p)) := fun e => by rw [e]; exact .b _
  cases op <;> simp only [evRng] at h
  case lss =>
    refine ⟨.bool (decide (a < b)), by simp [binOp, Op.intCmp], ?_⟩
    split at h
    · rename_i e; rw [ile_eq, decide_eq_true_eq] at e; cases h; exact key (decide_eq_false (by omega))
    · split at h
      · cases h
      · rename_i e; rw [ile_eq, decide_eq_false_iff_not] at e; cases h; exact key (decide_eq_true (by omega))
  case geq =>
    refine ⟨.bool (decide (a ≥ b)), by simp [binOp, Op.intCmp], ?_⟩
    split at h
    · rename_i e; rw [ile_eq, decide_eq_true_eq] at e; cases h; exact key (decide_eq_true (by omega))
    · split at h
      · cases h
      · rename_i e; rw [ile_eq, decide_eq_false_iff_not] at e; cases h; exact key (decide_eq_false (by omega))
  case leq =>
    refine ⟨.bool (decide (a ≤ b)), by simp [binOp, Op.intCmp], ?_⟩
    split at h
    · rename_i e; rw [ile_eq, decide_eq_true_eq] at e; cases h; exact key (decide_eq_true (by omega))
    · split at h
      · cases h
      · rename_i e; rw [ile_eq, decide_eq_false_iff_not] at e; cases h; exact key (decide_eq_false (by omega))
  case gtr =>
    refine ⟨.bool (decide (a > b)), by simp [binOp, Op.intCmp], ?_⟩
    split at h
    · rename_i e; rw [ile_eq, decide_eq_true_eq] at e; cases h; exact key (decide_eq_false (by omega))
    · split at h
      · cases h
      · rename_i e; rw [ile_eq, decide_eq_false_iff_not] at e; cases h; exact key (decide_eq_true (by omega))
  all_goals cases h
theorem bin_ok {op : BinOp} {t : TypeId} {x y v : AV} (h : evBin P op t x y = some v) {m : Mp} {X Y : Value} (hx : Rel m x X) (hy : Rel m y Y) (xo yo : Operand) (w : World) :
    ∃ V, (eqGuard op t xo yo X Y >>= fun _ => binOp op t X Y).run P w = .ok V w ∧ Rel m v V := by
  unfold evBin at h
  split at h
  · cases hx; cases hy
    obtain ⟨V, g1, g2⟩ := shift_ok (P := P) h m w
    exact ⟨V, by rw [eqGuard_shl]; simpa [binOp] using g1, g2⟩
  · cases hx; cases hy
    obtain ⟨V, g1, g2⟩ := shift_ok (P := P) h m w
    exact ⟨V, by rw [eqGuard_shr]; simpa [binOp] using g1, g2⟩
  · cases hx; cases hy
    split at h
    · rename_i e; subst e
      obtain ⟨V, g1, g2⟩ := int_ok (P := P) (t := t) h m w
      exact ⟨V, by rw [eqGuard_at_int]; simpa using g1, g2⟩
    · cases h
  · cases hx; cases hy
    rename_i S1 h1 S2 h2
    obtain ⟨V, g1, g2⟩ := str_ok (P := P) (t := t) h h1 h2 m w
    exact ⟨V, by rw [eqGuard_at_string]; simpa using g1, g2⟩
  · cases hx; cases hy
    split at h
    · rename_i e; subst e
      rename_i n h1 h2
      obtain ⟨V, g1, g2⟩ := rng_ok (P := P) (t := t) h h1 h2 m w
      exact ⟨V, by rw [eqGuard_at_int]; simpa using g1, g2⟩
    · cases h
  · split at h
    · rename_i r hn he
      cases h
      have g := fun X Y hx hy => equal_ok (m := m) (X := X) (Y := Y) he (by omega) hx hy w
      have hm := noIf_ok 8 t hn P.depth depth_8
      cases hx; cases hy
      rename_i A a1 a2 B b1 b2
      have g' := g _ _ (.a _ A a1 a2) (.a _ B b1 b2)
      refine ⟨.bool r, ?_, .b _⟩
      simp only [Sem.run_bind, run_eqGuard_agg w _ t xo yo A B hm, Result.andThen_ok, run_eql_struct]
      unfold Op.equal Op.maxDepth at g'
      rw [g']; rfl
    · cases h
  · split at h
    · rename_i r hn he
      cases h
      have g := fun X Y hx hy => equal_ok (m := m) (X := X) (Y := Y) he (by omega) hx hy w
      have hm := noIf_ok 8 t hn P.depth depth_8
      cases hx; cases hy
      rename_i A a1 a2 B b1 b2
      have g' := g _ _ (.a _ A a1 a2) (.a _ B b1 b2)
      refine ⟨.bool (!r), ?_, .b _⟩
      simp only [Sem.run_bind, run_eqGuard_agg w _ t xo yo A B hm, Result.andThen_ok, run_neq_struct]
      unfold Op.equal Op.maxDepth at g'
      rw [g']; rfl
    · cases h
  · rename_i n1 n2 nr n3
    split at h
    · rename_i r he
      cases h
      obtain ⟨⟨e1, _⟩, e2, _⟩ := eql_form he (fun p q h1 h2 => n3 p q h1 h2) (fun k a k' b h1 h2 => n1 k a k' b h1 h2) (fun a b h1 h2 => n2 a b h1 h2) (fun k lo hi k' b h1 h2 => nr k lo hi k' b h1 h2) hx hy xo yo
      have g := equal_ok he (by omega) hx hy w
      exact ⟨.bool r, by rw [e1, e2]; simp [g], .b _⟩
    · cases h
  · rename_i n1 n2 nr n3
    split at h
    · rename_i r he
      cases h
      obtain ⟨⟨_, e1⟩, _, e2⟩ := eql_form he (fun p q h1 h2 => n3 p q h1 h2) (fun k a k' b h1 h2 => n1 k a k' b h1 h2) (fun a b h1 h2 => n2 a b h1 h2) (fun k lo hi k' b h1 h2 => nr k lo hi k' b h1 h2) hx hy xo yo
      have g := equal_ok he (by omega) hx hy w
      exact ⟨.bool (!r), by rw [e1, e2]; simp [g], .b _⟩
    · cases h
  · cases h
theorem ni_ok {op : BinOp} {t : TypeId} {x y : Operand} {v : AV} (h : evNi P op t x y = some v) (m : Mp) (w : World) :
    ∃ V, (eqGuard op t x y .nilIface .nilIface >>= fun _ => binOp op t .nilIface .nilIface).run P w = .ok V w ∧ Rel m v V := by
  have g : (isK x || isK y) = true → eqGuard op t x y .nilIface .nilIface = pure () := by
    intro hk
    cases x with
    | const c => exact eqGuard_nil_constL _ _ _ c
    | _ => cases y with
      | const c => exact eqGuard_nil_constR _ _ _ c
      | _ => simp [isK] at hk
  have e : ∀ (d : Nat) (ms : Array (String × TypeId)), P.underlying t = some (.interface ms) → (Op.equalIn (d + 1) t .nilIface .nilIface).run P w = .ok true w := by
    intro d ms hd
    simp [Op.equalIn, run_und hd]
  have b1 : binOp .eql t .nilIface .nilIface = (do pure (.bool (← Op.equal t .nilIface .nilIface))) := rfl
  have b2 : binOp .neq t .nilIface .nilIface = (do pure (.bool (!(← Op.equal t .nilIface .nilIface)))) := rfl
  unfold evNi at h
  split at h
  · rename_i ms hd hk
    cases h
    have e' : (Op.equal t .nilIface .nilIface).run P w = .ok true w := e 9999 ms hd
    refine ⟨.bool true, ?_, .b _⟩
    rw [g hk, b1]
    simp [e']
  · rename_i ms hd hk
    cases h
    have e' : (Op.equal t .nilIface .nilIface).run P w = .ok true w := e 9999 ms hd
    refine ⟨.bool false, ?_, .b _⟩
    rw [g hk, b2]
    simp [e']
  · cases h
theorem ok_binOp {T : Tr AV} {H : Tr AO} {nx : Nat} {o : Oper} {u : Ou} {op : BinOp} {t t' : TypeId} {x y : Operand} (ho : o.op = .binOp op t x y t') (h : evOp P T H nx (.binOp op t x y t') = some (.ok u)) : Goal P T H nx o u := by
  simp only [evOp] at h
  split at h
  · rename_i hx hy
    obtain ⟨v, hv, hu⟩ := lift_inv h
    refine goal_pure hu fun X m ρ w hr hp => ?_
    have hX := hr x _ (by rw [ho]; simp [Op.operands]) hx
    have hY := hr y _ (by rw [ho]; simp [Op.operands]) hy
    obtain ⟨V, g1, g2⟩ := ni_ok hv m w
    refine ⟨V, ?_, g2⟩
    unfold execOp; rw [ho]; simp only []
    generalize ρ x = A at hX
    generalize ρ y = B at hY
    cases hX; cases hY
    exact run_v g1
  · rename_i a b hn hx hy
    obtain ⟨v, hv, hu⟩ := lift_inv h
    refine goal_pure hu fun X m ρ w hr hp => ?_
    obtain ⟨V, g1, g2⟩ := bin_ok hv (hr x _ (by rw [ho]; simp [Op.operands]) hx) (hr y _ (by rw [ho]; simp [Op.operands]) hy) x y w
    refine ⟨V, ?_, g2⟩
    unfold execOp; rw [ho]
    exact run_v g1
  · cases h
theorem ok_unOp {T : Tr AV} {H : Tr AO} {nx : Nat} {o : Oper} {u : Ou} {op : UnOp} {t : TypeId} {x : Operand} (ho : o.op = .unOp op t x) (h : evOp P T H nx (.unOp op t x) = some (.ok u)) : Goal P T H nx o u := by
  simp only [evOp] at h
  split at h
  · rename_i a hx
    obtain ⟨v, hv, hu⟩ := lift_inv h
    refine goal_pure hu fun X m ρ w hr hp => ?_
    have hX := hr x _ (by rw [ho]; simp [Op.operands]) hx
    have key : ∃ V, (Op.unary op (ρ x)).run P w = .ok V w ∧ Rel m v V := by
      generalize ρ x = C at hX
      unfold evUn at hv
      split at hv
      · cases hX; cases hv; exact ⟨_, by simp [Op.unary, Op.intArith], .i _ _⟩
      · cases hX
        split at hv
        · cases hv
        · rename_i k n hk
          obtain ⟨V, g1, g2⟩ := int_ok (P := P) (t := t) hv m w
          refine ⟨V, ?_, g2⟩
          simp only [Op.unary, if_neg hk]
          simpa [binOp] using g1
      · cases hX; cases hv; exact ⟨_, by simp [Op.unary], .b _⟩
      · cases hv
    obtain ⟨V, g1, g2⟩ := key
    refine ⟨V, ?_, g2⟩
    unfold execOp; rw [ho]
    exact run_v g1
  · cases h
/-! Literals. -/
theorem over_eq {l xs r : List AV} {o : Nat} (h : over l o xs = some r) : o + xs.length ≤ l.length ∧ r = l.take o ++ xs ++ l.drop (o + xs.length) := by
  unfold over at h
  split at h
  · rename_i hb; cases h; exact ⟨ble_t hb, rfl⟩
  · cases h
theorem over_get {l xs r : List AV} {o : Nat} (h : over l o xs = some r) : r.length = l.length ∧ ∀ i, r[i]? = if o ≤ i ∧ i < o + xs.length then xs[i - o]? else l[i]? := by
  obtain ⟨h1, rfl⟩ := over_eq h
  refine ⟨by simp; omega, fun i => ?_⟩
  rw [List.append_assoc]
  by_cases h2 : i < o
  · rw [if_neg (by omega), List.getElem?_append_left (by simp; omega), List.getElem?_take, if_pos h2]
  · rw [List.getElem?_append_right (by simp; omega)]
    have e : (l.take o).length = o := by simp; omega
    rw [e]
    by_cases h3 : i < o + xs.length
    · rw [if_pos ⟨by omega, h3⟩, List.getElem?_append_left (by omega)]
    · rw [if_neg (by omega), List.getElem?_append_right (by omega), List.getElem?_drop]
      congr 1; omega
theorem fold_set (off : Nat) : ∀ (l : List Value) (k : Nat) (cs : Array Value), off + k + l.length ≤ cs.size →
    ((l.zipIdx k).foldl (fun (cs : Array Value) (x : Value × Nat) => cs.setIfInBounds (off + x.2) x.1) cs).size = cs.size ∧
    ∀ i, ((l.zipIdx k).foldl (fun (cs : Array Value) (x : Value × Nat) => cs.setIfInBounds (off + x.2) x.1) cs)[i]? = if off + k ≤ i ∧ i < off + k + l.length then l[i - (off + k)]? else cs[i]?
  | [], k, cs, h => by
    refine ⟨rfl, fun i => ?_⟩
    rw [if_neg (by rw [List.length_nil]; omega)]
    rfl
  | v :: l, k, cs, h => by
    simp only [List.length_cons] at h
    obtain ⟨h1, h2⟩ := fold_set off l (k + 1) (cs.setIfInBounds (off + k) v) (by simp; omega)
    simp only [List.zipIdx_cons, List.foldl_cons]
    refine ⟨by rw [h1]; simp, fun i => ?_⟩
    rw [h2 i]
    simp only [List.length_cons]
    by_cases e : i = off + k
    · subst e
      rw [if_neg (by omega), if_pos ⟨by omega, by omega⟩, Array.getElem?_setIfInBounds_self_of_lt (by omega)]
      simp
    · rw [Array.getElem?_setIfInBounds_ne (fun h => e h.symm)]
      by_cases g : off + (k + 1) ≤ i ∧ i < off + (k + 1) + l.length
      · rw [if_pos g, if_pos ⟨by omega, by omega⟩, show i - (off + k) = (i - (off + (k + 1))) + 1 by omega, List.getElem?_cons_succ]
      · rw [if_neg g, if_neg (by omega)]
theorem fill_ok {m : Mp} {place : Nat → Option (Nat × Nat)} : ∀ {parts : List (Nat × AV)} {cells r : List AV} {VP : List (Nat × Value)} {C : Array Value},
    fillA place cells parts = some r → parts.length = VP.length → (∀ (i : Nat) (x : Nat × AV) (y : Nat × Value), parts[i]? = some x → VP[i]? = some y → x.1 = y.1 ∧ Rel m x.2 y.2) → RelL m cells C.toList →
    ∃ R, Instr.fill place C VP = some R ∧ RelL m r R.toList
  | [], cells, r, VP, C, h, hl, hv, hc => by
    have : VP = [] := List.eq_nil_of_length_eq_zero hl.symm
    subst this
    simp only [fillA] at h; cases h
    exact ⟨C, rfl, hc⟩
  | (i, v) :: parts, cells, r, VP, C, h, hl, hv, hc => by
    cases VP with
    | nil => simp at hl
    | cons y VP =>
      obtain ⟨i', V⟩ := y
      obtain ⟨e0, hV⟩ := hv 0 (i, v) (i', V) (by simp) (by simp)
      have e0 : i = i' := e0
      subst e0
      simp only [fillA] at h
      split at h
      · cases h
      · rename_i off size hp
        split at h
        · rename_i l hb ho
          have hsz := beq_t hb
          have hcells := hV.cells
          obtain ⟨o1, o2⟩ := over_get ho
          have o3 := (over_eq ho).1
          have e1 : V.cells.size = size := by have := hcells.1; simp at this; omega
          have e2 : C.size = cells.length := by have := hc.1; simp at this; omega
          have e3 : V.cells.toList.length = v.cells.length := hcells.1.symm
          have hfold := fold_set off V.cells.toList 0 C (by rw [e3, e2]; omega)
          have hnew : (V.cells.zipIdx.foldl (fun cs (c, j) => cs.setIfInBounds (off + j) c) C) = ((V.cells.toList.zipIdx 0).foldl (fun (cs : Array Value) (x : Value × Nat) => cs.setIfInBounds (off + x.2) x.1) C) := by
            rw [← Array.foldl_toList]; simp
          obtain ⟨f1, f2⟩ := hfold
          have hrel : RelL m l ((V.cells.toList.zipIdx 0).foldl (fun (cs : Array Value) (x : Value × Nat) => cs.setIfInBounds (off + x.2) x.1) C).toList := by
            refine ⟨by rw [o1]; simp only [Array.length_toList]; rw [f1, e2], fun j x W g1 g2 => ?_⟩
            rw [Array.getElem?_toList, f2 j] at g2
            rw [o2 j] at g1
            simp only [Nat.add_zero, e3] at g2
            split at g1
            · rename_i hj; rw [if_pos hj] at g2; exact hcells.2 _ x W g1 g2
            · rename_i hj; rw [if_neg hj] at g2; exact hc.2 j x W g1 (by rw [Array.getElem?_toList]; exact g2)
          obtain ⟨R, g1, g2⟩ := fill_ok (parts := parts) (VP := VP) h (by simpa using hl) (fun j x y a b => hv (j + 1) x y (by simpa using a) (by simpa using b)) hrel
          refine ⟨R, ?_, g2⟩
          simp only [Instr.fill, hp]
          rw [if_neg (by simp only [Bool.or_eq_true, decide_eq_true_eq, not_or]; exact ⟨by simp [e1], by rw [e1, e2, ← hsz]; omega⟩)]
          rw [hnew]; exact g1
        · cases h
theorem evParts_rel {m : Mp} {T : Tr AV} {ρ : Operand → Value} : ∀ {l : List (Nat × Operand)} {r : List (Nat × AV)}, evParts T l = some r → (∀ x v, x ∈ l.map (·.2) → evx T x = some v → Rel m v (ρ x)) →
    r.length = (l.map fun p => (p.1, ρ p.2)).length ∧ ∀ (i : Nat) (x : Nat × AV) (y : Nat × Value), r[i]? = some x → (l.map fun p => (p.1, ρ p.2))[i]? = some y → x.1 = y.1 ∧ Rel m x.2 y.2
  | [], r, h, _ => by simp [evParts] at h; subst h; simp
  | (i, x) :: l, r, h, hr => by
    simp only [evParts] at h
    split at h
    · rename_i v q h1 h2
      cases h
      obtain ⟨g1, g2⟩ := evParts_rel (l := l) h2 fun z v hz => hr z v (by simp at hz ⊢; exact .inr hz)
      refine ⟨by simpa using g1, fun j a b e1 e2 => ?_⟩
      cases j with
      | zero => simp at e1 e2; subst e1; subst e2; exact ⟨rfl, hr x v (by simp) h1⟩
      | succ j => exact g2 j a b (by simpa using e1) (by simpa using e2)
    · cases h
theorem run_plcs : ∀ {fl : List Field} {pl : List (Nat × Nat)}, plcs P fl = some pl → ∀ w, (fl.mapM fun f => (do pure (f.offset, ← sizeOf f.type) : Sem (Nat × Nat))).run P w = .ok pl w
  | [], pl, h, w => by simp [plcs, allSome] at h; subst h; rfl
  | f :: fl, pl, h, w => by
    simp only [plcs, allSome] at h
    split at h
    · rename_i y ys h1 h2
      cases h
      split at h1
      · rename_i n hn
        cases h1
        have := run_plcs (fl := fl) h2 w
        simp only [List.mapM_cons, Sem.run_bind, run_size hn, Result.andThen_ok, Sem.run_pure, this]
      · cases h1
    · cases h
theorem build_ok {t : TypeId} {parts : List (Nat × AV)} {v : AV} (h : evBuild P t parts = some v) {m : Mp} {VP : Array (Nat × Value)} (hl : parts.length = VP.toList.length)
    (hv : ∀ (i : Nat) (x : Nat × AV) (y : Nat × Value), parts[i]? = some x → VP.toList[i]? = some y → x.1 = y.1 ∧ Rel m x.2 y.2) (w : World) : ∃ V, (Instr.build t VP).run P w = .ok V w ∧ Rel m v V := by
  unfold evBuild at h
  split at h
  · rename_i z fs hz hd
    obtain ⟨Z, z1, z2⟩ := run_zero hz
    have hZ := (absV_rel m z1).cells
    split at h
    · rename_i pl hp
      split at h
      · rename_i l hf
        cases h
        obtain ⟨R, g1, g2⟩ := fill_ok hf hl hv hZ
        refine ⟨.agg R, ?_, .a_of g2⟩
        have hm : (fs.mapM fun f => (do pure (f.offset, ← sizeOf f.type) : Sem (Nat × Nat))).run P w = .ok pl.toArray w := by
          rw [Array.mapM_eq_mapM_toList, Sem.run_map, run_plcs hp w]; rfl
        simp only [Instr.build, Sem.run_bind, z2, run_und hd, Result.andThen_ok, hm]
        have hpl : (fun (i : Nat) => pl.toArray[i]?) = fun (i : Nat) => pl[i]? := by funext i; simp
        simp only [hpl, g1]; rfl
      · cases h
    · cases h
  · rename_i z n e hz hd
    obtain ⟨Z, z1, z2⟩ := run_zero hz
    have hZ := (absV_rel m z1).cells
    split at h
    · rename_i sz hs
      split at h
      · rename_i l hf
        cases h
        obtain ⟨R, g1, g2⟩ := fill_ok hf hl hv hZ
        refine ⟨.agg R, ?_, .a_of g2⟩
        simp only [Instr.build, Sem.run_bind, z2, run_und hd, run_size hs, Result.andThen_ok, g1]; rfl
      · cases h
    · cases h
  · cases h
theorem ok_build {T : Tr AV} {H : Tr AO} {nx : Nat} {o : Oper} {u : Ou} {t : TypeId} {parts : Array (Nat × Operand)} (ho : o.op = .build t parts) (h : evOp P T H nx (.build t parts) = some (.ok u)) : Goal P T H nx o u := by
  simp only [evOp] at h
  split at h
  · rename_i l hl
    obtain ⟨v, hv, hu⟩ := lift_inv h
    refine goal_pure hu fun X m ρ w hr hp => ?_
    obtain ⟨e1, e2⟩ := evParts_rel (m := m) (ρ := ρ) hl fun x v hx => hr x v (by rw [ho]; simpa [Op.operands] using hx)
    have hpt : (parts.map fun (i, x) => (i, ρ x)).toList = parts.toList.map fun p => (p.1, ρ p.2) := by simp
    obtain ⟨V, g1, g2⟩ := build_ok (VP := parts.map fun (i, x) => (i, ρ x)) hv (by rw [hpt]; exact e1) (by rw [hpt]; exact e2) w
    refine ⟨V, ?_, g2⟩
    unfold execOp; rw [ho]
    exact run_v g1
  · cases h
theorem ok_typeAssert {T : Tr AV} {H : Tr AO} {nx : Nat} {o : Oper} {u : Ou} {x : Operand} {t0 t : TypeId} {k : Bool} (ho : o.op = .typeAssert x t0 t k) (h : evOp P T H nx (.typeAssert x t0 t k) = some (.ok u)) : Goal P T H nx o u := by
  simp only [evOp] at h
  split at h
  · rename_i v0 hx
    unfold evAssert at h
    split at h
    · cases h
    · rename_i d t' v hn hd
      have und : ∀ w, (underlying t).run P w = .ok d w := fun w => run_und hd w
      cases hb : Nat.beq t' t with
      | true =>
        have := beq_t hb; subst this
        cases k with
        | true =>
          simp only [hb] at h
          refine goal_pure (pure_inv h) fun X m ρ w hr hp => ?_
          have hX := hr x _ (by rw [ho]; simp [Op.operands]) hx
          unfold execOp; rw [ho]; simp only []
          generalize ρ x = C at hX
          cases hX
          rename_i V hV
          refine ⟨.tuple #[V, .bool true], run_v ?_, .t_of (.cons hV (.cons (.b true) (.nil m)))⟩
          cases d <;> first | exact (hn _ rfl).elim | simp [Instr.typeAssert, und]
        | false =>
          simp only [hb] at h
          refine goal_pure (pure_inv h) fun X m ρ w hr hp => ?_
          have hX := hr x _ (by rw [ho]; simp [Op.operands]) hx
          unfold execOp; rw [ho]; simp only []
          generalize ρ x = C at hX
          cases hX
          rename_i V hV
          refine ⟨V, run_v ?_, hV⟩
          cases d <;> first | exact (hn _ rfl).elim | simp [Instr.typeAssert, und]
      | false =>
        have hne := beq_f hb
        cases k with
        | true =>
          simp only [hb] at h
          split at h
          · rename_i z hz
            obtain ⟨Z, z1, z2⟩ := run_zero hz
            refine goal_pure (pure_inv h) fun X m ρ w hr hp => ?_
            have hX := hr x _ (by rw [ho]; simp [Op.operands]) hx
            unfold execOp; rw [ho]; simp only []
            generalize ρ x = C at hX
            cases hX
            rename_i V hV
            refine ⟨.tuple #[Z, .bool false], run_v ?_, .t_of (.cons (absV_rel m z1) (.cons (.b false) (.nil m)))⟩
            cases d <;> first | exact (hn _ rfl).elim | simp [Instr.typeAssert, und, z2, hne]
          · cases h
        | false => simp only [hb] at h; cases h
    · rename_i d hn hd
      have und : ∀ w, (underlying t).run P w = .ok d w := fun w => run_und hd w
      cases k with
      | false => cases h
      | true =>
        cases hz : zero P t with
        | none => simp only [hz] at h; cases h
        | some z =>
          simp only [hz] at h
          obtain ⟨Z, z1, z2⟩ := run_zero hz
          refine goal_pure (pure_inv h) fun X m ρ w hr hp => ?_
          have hX := hr x _ (by rw [ho]; simp [Op.operands]) hx
          unfold execOp; rw [ho]; simp only []
          generalize ρ x = C at hX
          cases hX
          refine ⟨.tuple #[Z, .bool false], run_v ?_, .t_of (.cons (absV_rel m z1) (.cons (.b false) (.nil m)))⟩
          cases d <;> first | exact (hn _ rfl).elim | simp [Instr.typeAssert, und, z2]
    · cases h
  · cases h
end
end Go.Ev
namespace Go.Ev
open Go
set_option linter.unusedVariables false
set_option linter.unusedSimpArgs false
set_option linter.unusedSectionVars false
variable [Env]
section
variable {P : Program}
theorem made_push (w : World) (o : Obj) : Made1 w { w with heap := w.heap.push o } :=
  ⟨by simp, fun b hb => by simp [Array.getElem?_push]; intro h; omega, rfl, rfl, rfl⟩
theorem made_alloc (w : World) (o : Obj) : Made1 w (w.drew.alloc o) :=
  ⟨by show (w.heap.push o).size = _; simp, fun b hb => by show (w.heap.push o)[b]? = _; simp [Array.getElem?_push]; intro h; omega, rfl, rfl, rfl⟩
theorem row_new {m : Mp} {L : Loc} {l : List AV} {C : Array Value} {e : TypeId} {w' : World} (hg : w'.heap[L.block]? = some (.cells C e (0, 0))) (hb : L.base = 0) (hl : RelL m l C.toList) : RepO P m L (.c l e false) w' := by
  refine ⟨C, (0, 0), hg, .inr (Nat.le_refl _), fun i x hx => ?_, fun h => by cases h⟩
  obtain ⟨V, h1, h2⟩ := hl.get hx
  exact ⟨V, by rw [hb, Nat.zero_add, ← Array.getElem?_toList]; exact h1, h2⟩
/-- An operation that makes a row of known cells. -/
theorem goal_row {T : Tr AV} {H : Tr AO} {nx : Nat} {o : Oper} {u : Ou} {l : List AV} {e : TypeId} {v : AV} {R : Nat} (V : Nat → Value) (hu : u = ⟨v, H.set nx (some (.c l e false)), nx + 1, R, 0⟩)
    (hv : ∀ m b cp, Rel (upd m nx ⟨b, 0, cp⟩) v (V b))
    (h : ∀ X m ρ w, OpR m T ρ o.op → Pre P X m H nx u w → ∃ C : Array Value, (execOp ρ o).run P w = .ok (.value (V w.heap.size)) { w with heap := w.heap.push (.cells C e) } ∧ RelL m l C.toList) (hR : ∀ r, R.testBit r = true → H.get r ≠ none := by exact live_0 _) : Goal P T H nx o u := by
  subst hu
  refine ⟨keep_new _ _ _ _ _ hR, fun X m ρ w hr hp => ?_⟩
  obtain ⟨C, h1, h2⟩ := h X m ρ w hr hp
  refine does_new (L := ⟨w.heap.size, 0, 0⟩) hp (made_push w _) rfl (fun hext => row_new (C := C) ?_ rfl (h2.mono hext)) (fun hext => hv m _ _) h1
  show (w.heap.push _)[w.heap.size]? = _
  simp
theorem ok_alloc {T : Tr AV} {H : Tr AO} {nx : Nat} {o : Oper} {u : Ou} {e : TypeId} (ho : o.op = .alloc e) (h : evOp P T H nx (.alloc e) = some (.ok u)) : Goal P T H nx o u := by
  simp only [evOp] at h
  split at h
  · rename_i z hz
    obtain ⟨Z, z1, z2⟩ := run_zero hz
    refine goal_row (fun b => .pointer (some ⟨b, 0, none⟩)) (by simp [newO] at h; exact h.symm) (fun m b cp => .p nx 0 ⟨b, 0, cp⟩ (upd_self _ _ _)) fun X m ρ w hr hp => ⟨Z.cells, ?_, (absV_rel m z1).cells⟩
    unfold execOp; rw [ho]
    refine run_v ?_
    simp [Instr.alloc, z2, newVar, newRow]
  · cases h
theorem ok_box {T : Tr AV} {H : Tr AO} {nx : Nat} {o : Oper} {u : Ou} {e : TypeId} {x : Operand} (ho : o.op = .box e x) (h : evOp P T H nx (.box e x) = some (.ok u)) : Goal P T H nx o u := by
  simp only [evOp] at h
  split at h
  · rename_i v hx
    refine goal_row (fun b => .pointer (some ⟨b, 0, none⟩)) (by simp [newO] at h; exact h.symm) (fun m b cp => .p nx 0 ⟨b, 0, cp⟩ (upd_self _ _ _)) fun X m ρ w hr hp => ⟨(ρ x).cells, ?_, (hr x _ (by rw [ho]; simp [Op.operands]) hx).cells⟩
    unfold execOp; rw [ho]
    refine run_v ?_
    simp [Instr.box, newVar, newRow]
  · cases h
theorem rept_len (z : List AV) : ∀ n, (rept z n).length = n * z.length
  | 0 => by simp [rept]
  | n + 1 => by simp [rept, rept_len z n, Nat.succ_mul]; omega
theorem rept_get (z : List AV) : ∀ n i, i < n * z.length → (rept z n)[i]? = z[i % z.length]?
  | 0, i, h => by simp at h
  | n + 1, i, h => by
    simp only [rept]
    by_cases hi : i < z.length
    · rw [List.getElem?_append_left hi, Nat.mod_eq_of_lt hi]
    · rw [List.getElem?_append_right (by omega), rept_get z n (i - z.length) (by rw [Nat.succ_mul] at h; omega)]
      rw [← Nat.mod_eq_sub_mod (by omega)]
theorem rept_rel {m : Mp} {z : List AV} {Z : Array Value} (h : RelL m z Z.toList) (n : Nat) : RelL m (rept z n) ((Array.range (n * z.length)).map (Z[· % Z.size]!)).toList := by
  have hs : Z.size = z.length := by have := h.1; simp at this; omega
  refine ⟨by rw [rept_len]; simp, fun i x V h1 h2 => ?_⟩
  have hi : i < n * z.length := by rw [← rept_len]; exact (List.getElem?_eq_some_iff.1 h1).1
  rw [rept_get z n i hi] at h1
  obtain ⟨V', g1, g2⟩ := h.get h1
  have hpos : 0 < z.length := by
    rcases Nat.eq_zero_or_pos z.length with e | e
    · rw [e] at hi; omega
    · exact e
  have hlt : i % z.length < Z.size := by rw [hs]; exact Nat.mod_lt _ hpos
  simp [hi] at h2
  have : Z[i % Z.size]! = V' := by
    rw [hs, getElem!_pos Z _ hlt]
    rw [Array.getElem?_toList, Array.getElem?_eq_getElem hlt] at g1
    exact Option.some.inj g1
  rw [← h2, this]; exact g2
theorem ok_buildSlice {T : Tr AV} {H : Tr AO} {nx : Nat} {o : Oper} {u : Ou} {t : TypeId} {len : Nat} {parts : Array (Nat × Operand)} (ho : o.op = .buildSlice t len parts) (h : evOp P T H nx (.buildSlice t len parts) = some (.ok u)) : Goal P T H nx o u := by
  simp only [evOp] at h
  split at h
  · rename_i pl hl
    unfold evBuildS at h
    split at h
    · rename_i e hd
      split at h
      · rename_i n z hn hz
        split at h
        · rename_i l b1 b2 b3 hf
          have h1 := beq_f b1; have h2 := beq_t b2; have h3 := ble_t b3
          obtain ⟨Z, z1, z2⟩ := run_zero hz
          refine goal_row (fun b => .slice (some ⟨b, 0, none⟩) len len) (by simp [newO] at h; exact h.symm) (fun m b cp => .sl nx 0 len len ⟨b, 0, cp⟩ (upd_self _ _ _)) fun X m ρ w hr hp => ?_
          obtain ⟨e1, e2⟩ := evParts_rel (m := m) (ρ := ρ) hl fun x v hx => hr x v (by rw [ho]; simpa [Op.operands] using hx)
          have hpt : (parts.map fun (i, x) => (i, ρ x)).toList = parts.toList.map fun p => (p.1, ρ p.2) := by simp
          have hZ := (absV_rel m z1).cells
          have hZ' := rept_rel hZ len
          obtain ⟨R, g1, g2⟩ := fill_ok (VP := (parts.map fun (i, x) => (i, ρ x)).toList) hf (by rw [hpt]; exact e1) (by rw [hpt]; exact e2) hZ'
          refine ⟨R, ?_, g2⟩
          unfold execOp; rw [ho]
          refine run_v ?_
          rw [h2, hpt] at g1
          by_cases hl0 : len * n = 0
          · rw [hl0] at g1
            simp only [Instr.buildSlice, Sem.run_bind, run_und hd, run_size hn, Result.andThen_ok, hl0]
            rw [show Array.map (fun x => Z.cells[x % Z.cells.size]!) (Array.range 0) = #[] by simp] at g1
            simp [g1, newRow, Array.range_zero']
          · simp only [Instr.buildSlice, Sem.run_bind, run_und hd, run_size hn, Result.andThen_ok]
            rw [if_neg (by omega)]
            simp [hl0, z2, g1, newRow]
        · cases h
      · cases h
    · cases h
  · cases h
theorem wrap_small {n : Nat} (h : n ≤ 100000) : IntKind.i64.wrap (n : Int) = n := by
  unfold IntKind.wrap
  simp [IntKind.bits, IntKind.signed]
  omega
theorem ok_makeSlice {T : Tr AV} {H : Tr AO} {nx : Nat} {o : Oper} {u : Ou} {t : TypeId} {lo co : Operand} (ho : o.op = .makeSlice t lo co) (h : evOp P T H nx (.makeSlice t lo co) = some (.ok u)) : Goal P T H nx o u := by
  simp only [evOp] at h
  split at h
  · rename_i a b ha hb
    unfold evMakeS at h
    split at h
    · rename_i e n c hd
      split at h
      · rename_i inf z hi hz
        split at h
        · rename_i b1 b2 b3 b4
          have h1 := beq_f b1; have h2 := beq_t b2; have h3 := ble_t b3; have h4 := ble_t b4
          obtain ⟨Z, z1, z2⟩ := run_zero hz
          refine goal_row (fun b => .slice (some ⟨b, 0, none⟩) n c) (by simp [newO] at h; exact h.symm) (fun m b cp => .sl nx 0 n c ⟨b, 0, cp⟩ (upd_self _ _ _)) fun X m ρ w hr hp => ?_
          have hZ := (absV_rel m z1).cells
          have hZ' := rept_rel hZ c
          refine ⟨_, ?_, hZ'⟩
          have hA := hr lo _ (by rw [ho]; simp [Op.operands]) ha
          have hB := hr co _ (by rw [ho]; simp [Op.operands]) hb
          unfold execOp; rw [ho]
          refine run_v ?_
          generalize ρ lo = A at hA
          generalize ρ co = B at hB
          cases hA; cases hB
          have hc : c ≤ 100000 := by
            have : c * 1 ≤ c * (inf.size + inf.bytes) := Nat.mul_le_mul_left _ (by omega)
            omega
          have hbc : c * inf.bytes ≤ 100000 := Nat.le_trans (Nat.mul_le_mul_left _ (by omega)) h4
          have w1 := wrap_small (n := n) (by omega)
          have w2 := wrap_small hc
          have hbc' : ¬ ((inf.bytes : Int) * (c : Int) > 2 ^ 48) := by
            have : (inf.bytes : Int) * (c : Int) = ((c * inf.bytes : Nat) : Int) := by push_cast; rw [Int.mul_comm]
            rw [this]; omega
          have hsz : szO P e = some inf.size := by simp [szO, hi]
          simp only [Int.ofNat_eq_natCast] at *
          have hcond : ((decide ((c : Int) < 0) || decide ((inf.bytes : Int) * (c : Int) > 2 ^ 48)) || decide ((n : Int) < 0) || decide ((n : Int) > (c : Int))) = false := by
            simp only [Bool.or_eq_false_iff, decide_eq_false_iff_not]
            exact ⟨⟨⟨by omega, hbc'⟩, by omega⟩, by omega⟩
          simp only [Instr.makeSlice, Sem.run_bind, run_und hd, Result.andThen_ok, asInt, asIntOf, Sem.run_pure, run_info hi, w1, w2, hcond, Bool.false_eq_true, if_false, run_askRoom, run_size hsz, Int.toNat_natCast]
          by_cases hz0 : c * inf.size = 0
          · have hc0 : c = 0 := by
              rcases Nat.mul_eq_zero.1 hz0 with e | e
              · exact e
              · exact absurd e h1
            subst hc0
            simp [newRow, Array.range_zero']
          · simp only [hz0, if_false, Sem.run_bind, z2, Result.andThen_ok, Sem.run_pure, newRow, run_newObj]
            rw [h2]
        · cases h
      · cases h
    · cases h
  · cases h
theorem ok_makeMap {T : Tr AV} {H : Tr AO} {nx : Nat} {o : Oper} {u : Ou} {t : TypeId} (ho : o.op = .makeMap t none) (h : evOp P T H nx (.makeMap t none) = some (.ok u)) : Goal P T H nx o u := by
  simp only [evOp, newO] at h
  have hu : u = ⟨.m nx, H.set nx (some (.m [] 0)), nx + 1, 0, 0⟩ := by simp at h; exact h.symm
  subst hu
  refine ⟨keep_new _ _ _ _ _ (live_0 _), fun X m ρ w hr hp => ?_⟩
  refine does_new (L := ⟨w.heap.size, 0, 0⟩) (V := .map (some w.heap.size)) (w' := { w with heap := w.heap.push (.map #[] 0) }) hp (made_push w _) rfl (fun hext => ⟨#[], ?_, rfl, fun i k v b x h1 h2 => by simp at h1⟩) (fun hext => .m nx ⟨w.heap.size, 0, 0⟩ (upd_self _ _ _)) ?_
  · show (w.heap.push _)[w.heap.size]? = _
    simp
  · unfold execOp; rw [ho]
    refine run_v ?_
    simp [Instr.makeMap]
/-- The row that a pointer or a slice leads to. -/
theorem Pre.row {X : Nat → Prop} {m : Mp} {H : Tr AO} {nx : Nat} {u : Ou} {w : World} (hp : Pre P X m H nx u w) {r : Nat} {o : AO} (ho : H.get r = some o) (hR : u.R.testBit r = true) {L : Loc} (hL : m r = some L) : RepO P m L o w := by
  obtain ⟨L', h1, h2⟩ := hp.rep.rep r o (hp.R r hR) ho
  rw [hL] at h1; cases h1; exact h2
theorem ok_load {T : Tr AV} {H : Tr AO} {nx : Nat} {o : Oper} {u : Ou} {t : TypeId} {a : Operand} (ho : o.op = .load t a) (h : evOp P T H nx (.load t a) = some (.ok u)) : Goal P T H nx o u := by
  simp only [evOp] at h
  split at h
  · rename_i v0 ha
    unfold evLoad at h
    split at h
    · rename_i r off
      split at h
      · rename_i l e tl hrow
        split at h
        · rename_i v hv
          cases h
          refine goal_pure rfl (hR := live_bit hrow) fun X m ρ w hr hp => ?_
          have hA := hr a _ (by rw [ho]; simp [Op.operands]) ha
          unfold execOp; rw [ho]; simp only []
          generalize ρ a = A at hA
          cases hA
          rename_i L hL
          obtain ⟨C, fr, g1, g2, g3, g4⟩ := hp.row hrow (bit_self r) hL
          unfold partA at hv
          split at hv
          · rename_i hi
            split at hv
            · rename_i n hn
              split at hv
              · rename_i xs hx
                cases hv
                obtain ⟨c1, c2⟩ := row_cut g3 hx
                refine ⟨.agg _, run_v ?_, .a_of c2⟩
                simp only [Instr.loadAt, Instr.sureAddr, loadVar, Sem.run_bind, Sem.run_pure, run_isA hi, run_size hn, Result.andThen_ok, if_true, run_loadRow g1 c1]
              · cases hv
            · cases hv
          · rename_i hi
            obtain ⟨V, c1, c2⟩ := g3 _ _ hv
            refine ⟨V, run_v ?_, c2⟩
            have hc : w.cell? ⟨L.block, L.base + off, none⟩ = some V := by rw [cell_at g1]; exact c1
            simp [Instr.loadAt, Instr.sureAddr, loadVar, run_isA hi, hc]
          · cases hv
        · cases h
      · cases h
    · cases h
  · cases h
theorem setCells_row {b : Nat} {e : TypeId} {fr : Nat × Nat} : ∀ (vs : List Value) (o : Nat) (w : World) (C : Array Value), w.heap[b]? = some (.cells C e fr) → o + vs.length ≤ C.size →
    ∃ C', (w.setCells b o vs).heap[b]? = some (.cells C' e fr) ∧ C'.size = C.size ∧ (∀ k, C'[k]? = if o ≤ k ∧ k < o + vs.length then vs[k - o]? else C[k]?) ∧ Wrote1 b w (w.setCells b o vs)
  | [], o, w, C, h, hl => ⟨C, h, rfl, fun k => by rw [if_neg (by rw [List.length_nil]; omega)], ⟨rfl, fun _ _ => rfl, rfl, rfl, rfl⟩⟩
  | v :: vs, o, w, C, h, hl => by
    simp only [List.length_cons] at hl
    have h1 : (w.setCell ⟨b, o, none⟩ v).heap[b]? = some (.cells (C.setIfInBounds o v) e fr) := by
      simp [World.setCell, Array.getElem?_modify, h]
    obtain ⟨C', g1, g2, g3, g4⟩ := setCells_row vs (o + 1) (w.setCell ⟨b, o, none⟩ v) (C.setIfInBounds o v) h1 (by simp; omega)
    refine ⟨C', g1, by rw [g2]; simp, fun k => ?_, ⟨by rw [show (w.setCells b o (v :: vs)) = (w.setCell ⟨b, o, none⟩ v).setCells b (o + 1) vs from rfl, g4.size]; simp [World.setCell], fun k hk => ?_, g4.os, g4.tape, g4.output⟩⟩
    · rw [g3 k]
      simp only [List.length_cons]
      by_cases e : k = o
      · subst e
        rw [if_neg (by omega), if_pos ⟨by omega, by omega⟩, Array.getElem?_setIfInBounds_self_of_lt (by omega)]
        simp
      · rw [Array.getElem?_setIfInBounds_ne (fun h => e h.symm)]
        by_cases g : o + 1 ≤ k ∧ k < o + 1 + vs.length
        · rw [if_pos g, if_pos ⟨by omega, by omega⟩, show k - o = (k - (o + 1)) + 1 by omega, List.getElem?_cons_succ]
        · rw [if_neg g, if_neg (by omega)]
    · rw [show (w.setCells b o (v :: vs)) = (w.setCell ⟨b, o, none⟩ v).setCells b (o + 1) vs from rfl, g4.old k hk]
      simp only [World.setCell, Array.getElem?_modify]
      rw [if_neg (fun h => hk h.symm)]
theorem frozen_not {w : World} {b : Nat} {C : Array Value} {e : TypeId} {fr : Nat × Nat} (hg : w.heap[b]? = some (.cells C e fr)) (hf : C.size ≤ fr.1 ∨ fr.2 ≤ fr.1) {k : Nat} (hk : k < C.size) : w.frozen? ⟨b, k, none⟩ = false := by
  obtain ⟨lo, hi⟩ := fr
  simp only [World.frozen?, hg]
  simp at hf
  simp
  intro h; omega
theorem one_all {m : Mp} {xs : List AV} {vs : List Value} (h : RelL m xs vs) (h1 : xs.all AV.one = true) : ∀ v ∈ vs, v.oneCell' = true := by
  intro v hv
  obtain ⟨i, hi⟩ := List.getElem?_of_mem hv
  have hl := h.1
  have hlt : i < xs.length := by rw [hl]; exact (List.getElem?_eq_some_iff.1 hi).1
  have hr := h.2 i _ v (List.getElem?_eq_getElem hlt) hi
  have h2 := List.all_eq_true.1 h1 xs[i] (List.getElem_mem hlt)
  generalize xs[i] = x at hr h2
  cases hr <;> simp_all [AV.one, Value.oneCell']
/-- Cells written over a row. -/
theorem row_over {m : Mp} {L : Loc} {l xs l' : List AV} {e : TypeId} {tl : Bool} {o : Nat} {w : World} {vs : List Value} (h : RepO P m L (.c l e tl) w) (ho : over l o xs = some l') (hv : RelL m xs vs) (h1 : xs.all AV.one = true) :
    ((storeCells ⟨L.block, L.base + o, none⟩ vs).run P w = .ok () (w.setCells L.block (L.base + o) vs)) ∧ (∀ j, j < vs.length → (w.cell? ⟨L.block, L.base + o + j, none⟩).isSome = true) ∧ (∀ j, j < vs.length → w.frozen? ⟨L.block, L.base + o + j, none⟩ = false) ∧
      Wrote1 L.block w (w.setCells L.block (L.base + o) vs) ∧ RepO P m L (.c l' e tl) (w.setCells L.block (L.base + o) vs) := by
  obtain ⟨C, fr, g1, g2, g3, g4⟩ := h
  obtain ⟨o1, o2⟩ := over_get ho
  have o3 := (over_eq ho).1
  have hl := hv.1
  have hle : vs.length = 0 ∨ L.base + o + vs.length ≤ C.size := by
    rcases row_le g3 with e | e
    · subst e; rw [List.length_nil] at o3; left; omega
    · right; omega
  have c1 : ∀ j, j < vs.length → (w.cell? ⟨L.block, L.base + o + j, none⟩).isSome = true := fun j hj => by
    rw [cell_at g1, Array.getElem?_eq_getElem (by omega)]; rfl
  have c2 : ∀ j, j < vs.length → w.frozen? ⟨L.block, L.base + o + j, none⟩ = false := fun j hj => frozen_not g1 g2 (by omega)
  have c3 := one_all hv h1
  refine ⟨by simpa using run_storeCells_cells (P := P) L.block (L.base + o) vs 0 w (by simpa using c1) (by simpa using c2) c3, c1, c2, ?_⟩
  rcases hle with e0 | hle
  · have : vs = [] := List.eq_nil_of_length_eq_zero e0
    subst this
    refine ⟨⟨rfl, fun _ _ => rfl, rfl, rfl, rfl⟩, C, fr, g1, g2, fun i x hx => ?_, g4⟩
    rw [o2 i, if_neg (by rw [hl, List.length_nil]; omega)] at hx
    exact g3 i x hx
  · obtain ⟨C', d1, d2, d3, d4⟩ := setCells_row vs (L.base + o) w C g1 hle
    refine ⟨d4, C', fr, d1, by rw [d2]; exact g2, fun i x hx => ?_, fun ht => by rw [d2]; exact g4 ht⟩
    rw [d3]
    rw [o2 i] at hx
    split at hx
    · rename_i hi
      obtain ⟨V, v1, v2⟩ := hv.get hx
      exact ⟨V, by rw [if_pos ⟨by omega, by omega⟩, show L.base + i - (L.base + o) = i - o by omega]; exact v1, v2⟩
    · rename_i hi
      obtain ⟨V, v1, v2⟩ := g3 i x hx
      exact ⟨V, by rw [if_neg (by omega)]; exact v1, v2⟩
theorem ok_store {T : Tr AV} {H : Tr AO} {nx : Nat} {o : Oper} {u : Ou} {t : TypeId} {a x : Operand} (ho : o.op = .store t a x) (h : evOp P T H nx (.store t a x) = some (.ok u)) : Goal P T H nx o u := by
  simp only [evOp] at h
  split at h
  · rename_i p v ha hx
    unfold evStore at h
    split at h
    · rename_i r off
      split at h
      · rename_i l e tl n hrow hn
        split at h
        · rename_i l' b1 b2 b3
          cases h
          refine ⟨keep_set hrow (bit_self r) (live_bit hrow), fun X m ρ w hr hp => ?_⟩
          have hA := hr a _ (by rw [ho]; simp [Op.operands]) ha
          have hX := (hr x _ (by rw [ho]; simp [Op.operands]) hx).cells
          have hex : execOp ρ o = ((Instr.storeAt t (ρ a) (ρ x)) >>= fun _ => pure Next.skip) := by unfold execOp; rw [ho]
          generalize hα : ρ a = A at hA
          cases hA
          rename_i L hL
          obtain ⟨g1, _, _, g2, g3⟩ := row_over (hp.row hrow (bit_self r) hL) b3 hX b2
          refine does_set hp (bit_self r) hrow hL g2 g3 (.un m) (.inr ⟨?_, rfl⟩)
          rw [hex, hα]
          refine run_u ?_
          have hsz : (ρ x).cells.size = n := by have := hX.1; have := beq_t b1; simp at *; omega
          simp only [Instr.storeAt, Instr.sureAddr, storeVar, Sem.run_bind, Sem.run_pure, run_size hn, Result.andThen_ok, hsz, ne_eq, not_true_eq_false, if_false, g1]
        · cases h
      · cases h
    · cases h
  · cases h
end
end Go.Ev
namespace Go.Ev
open Go
set_option linter.unusedVariables false
set_option linter.unusedSimpArgs false
set_option linter.unusedSectionVars false
variable [Env]
section
variable {P : Program}
theorem str_cells (m : Mp) : ∀ (l : List UInt8), RelL m (l.map fun c => .i .u8 c.toNat) (l.map fun b => Value.int .u8 b.toNat)
  | [] => .nil m
  | c :: l => .cons (.i _ _) (str_cells m l)
theorem first_ok {H : Tr AO} {z n rx : Nat} {x : AV} {xs : List AV} (h : cellsOf H z x = some (xs, n, rx)) {X : Nat → Prop} {m : Mp} {V : Value} {w : World} (hx : Rel m x V) (hrep : RepOn P X m H.get w) (hR : ∀ r, rx.testBit r = true → X r) :
    (∀ w0 : World, (Builtin.lenOf V).run P w0 = .ok n w0) ∧ xs.length = n * z ∧ ∀ n', n' ≤ n → ∃ A : Array Value, (∀ w0 : World, w0.heap = w.heap → (Builtin.firstCells z n' V).run P w0 = .ok A w0) ∧ RelL m (xs.take (n' * z)) A.toList := by
  unfold cellsOf at h
  split at h
  · cases h; cases hx
    refine ⟨fun _ => rfl, by simp, fun n' hn => ⟨#[], fun w0 _ => rfl, by simpa using RelL.nil m⟩⟩
  · rename_i l
    split at h
    · rename_i hb
      have := beq_t hb; subst this
      cases h; cases hx
      rename_i S hS
      have hsz : S.size = l.length := by rw [← hS, Array.length_toList]; rfl
      refine ⟨fun _ => by rw [← hsz]; rfl, by simp, fun n' hn => ⟨(S.extract 0 n').data.map fun b => .int .u8 b.toNat, fun w0 _ => rfl, ?_⟩⟩
      rw [Nat.mul_one, ← List.map_take]
      have : ((S.extract 0 n').data.map fun b => Value.int .u8 b.toNat).toList = (l.take n').map fun b => Value.int .u8 b.toNat := by
        rw [Array.toList_map, ByteArray.data_extract, ← hS]
        simp [List.extract_eq_take_drop]
      rw [this]
      exact str_cells m _
    · cases h
  · rename_i r o k c rel
    split at h
    · rename_i l e tl hrow
      split at h
      · rename_i ys hc
        cases h
        have key : ∀ L : Loc, m r = some L → ∀ cp, V = .slice (some ⟨L.block, L.base + o, none⟩) n cp → (∀ w0 : World, (Builtin.lenOf V).run P w0 = .ok n w0) ∧ xs.length = n * z ∧ ∀ n', n' ≤ n → ∃ A : Array Value, (∀ w0 : World, w0.heap = w.heap → (Builtin.firstCells z n' V).run P w0 = .ok A w0) ∧ RelL m (xs.take (n' * z)) A.toList := by
          intro L hL cp hV
          subst hV
          obtain ⟨L', e1, e2⟩ := hrep.rep r _ (hR r (bit_self r)) hrow
          rw [hL] at e1; cases e1
          obtain ⟨C, fr, g1, g2, g3, g4⟩ := e2
          obtain ⟨c1, c2⟩ := cut_eq hc
          refine ⟨fun _ => rfl, c2, fun n' hn => ?_⟩
          have hle : n' * z ≤ n * z := Nat.mul_le_mul_right _ hn
          have hc' : cut l o (n' * z) = some (xs.take (n' * z)) := by
            unfold cut
            have : (l.drop o).take (n' * z) = xs.take (n' * z) := by
              rw [c1, List.take_take, Nat.min_eq_left hle]
            simp only [this]
            have hl : (xs.take (n' * z)).length = n' * z := by rw [List.length_take, c2]; omega
            rw [hl, show Nat.beq (n' * z) (n' * z) = true from Nat.beq_refl _]
          obtain ⟨d1, d2⟩ := row_cut g3 hc'
          exact ⟨_, fun w0 hw => by
            simp only [Builtin.firstCells]
            exact run_loadRow (by rw [hw]; exact g1) d1, d2⟩
        cases hx
        · rename_i L hL; exact key L hL _ rfl
        · rename_i L hL hn; exact key L hL _ rfl
      · cases h
    · cases h
  · cases h
theorem cells_live {H : Tr AO} {z n rx : Nat} {x : AV} {xs : List AV} (h : cellsOf H z x = some (xs, n, rx)) : ∀ q, rx.testBit q = true → H.get q ≠ none := by
  unfold cellsOf at h
  split at h
  · cases h; exact live_0 H
  · split at h
    · cases h; exact live_0 H
    · cases h
  · split at h
    · rename_i hrow
      split at h
      · cases h; exact live_bit hrow
      · cases h
    · cases h
  · cases h
theorem src_ok {H : Tr AO} {z n rx : Nat} {x : AV} {xs : List AV} (h : cellsOf H z x = some (xs, n, rx)) {X : Nat → Prop} {m : Mp} {V : Value} {w : World} {tx : TypeId} (hx : Rel m x V) (hrep : RepOn P X m H.get w) (hR : ∀ r, rx.testBit r = true → X r)
    (hk : isSeq (P.underlying tx) = true) (h1 : xs.all AV.one = true) : ∃ news : List Value, Src P z tx V n news w ∧ RelL m xs news := by
  obtain ⟨e1, e2, e3⟩ := first_ok h hx hrep hR
  obtain ⟨A, g1, g2⟩ := e3 n (Nat.le_refl _)
  rw [← e2, List.take_length] at g2
  refine ⟨A.toList, ⟨?_, e1, by simpa using g1 w rfl, by simpa using g1 w.drew rfl, by rw [← g2.1, e2], one_all g2 h1⟩, g2⟩
  unfold isSeq at hk
  split at hk
  · rename_i e hd; exact .inl ⟨e, hd⟩
  · rename_i hd; exact .inr hd
  · cases hk
theorem zeroCells_len (Z : Array Value) (n : Nat) : (Builtin.zeroCells Z n).size = n * Z.size := by simp [Builtin.zeroCells]
theorem grown_ge (w : World) (need old : Nat) (e : TypeId) : need ≤ grownCap w need old e := by
  unfold grownCap Question.cut; exact Nat.le_add_right _ _
/-- The row that an append makes. -/
theorem grow_row {m : Mp} {L : Loc} {l : List AV} {vs : List Value} {Z : Array Value} {e : TypeId} {need cp z : Nat} {w' : World} (hl : RelL m l vs) (hg : w'.heap[L.block]? = some (.cells (vs.toArray ++ Builtin.zeroCells Z (cp - need)) e (0, 0))) (hb : L.base = 0) (hcp : L.cap = cp)
    (hz : szO P e = some z) (hz0 : z ≠ 0) (hZ : Z.size = z) (hlen : vs.length = need * z) (hle : need ≤ cp) : RepO P m L (.c l e true) w' := by
  refine ⟨_, (0, 0), hg, .inr (Nat.le_refl _), fun i x hx => ?_, fun _ => ⟨z, hz, by omega, ?_⟩⟩
  · obtain ⟨V, h1, h2⟩ := hl.get hx
    have hi : i < vs.length := (List.getElem?_eq_some_iff.1 h1).1
    refine ⟨V, ?_, h2⟩
    rw [hb, Nat.zero_add, Array.getElem?_append_left (by simpa using hi)]
    simpa using h1
  · rw [Array.size_append, zeroCells_len, hb, hcp, hZ]
    simp only [List.size_toArray, hlen, Nat.zero_add]
    rw [← Nat.add_mul]; congr 1; omega
/-- A row goes into another one: the old one's number is dead. -/
theorem does_kill {x : Sem Next} {X : Nat → Prop} {H : Tr AO} {nx R r : Nat} {v : AV} {o o' : AO} {m : Mp} {w w' : World} {V : Value} {L L' : Loc} (hp : Pre P X m H nx ⟨v, (H.set r none).set nx (some o'), nx + 1, R, bit r⟩ w)
    (hR : R.testBit r = true) (hr : H.get r = some o) (hL : m r = some L) (hB : L'.block = L.block ∨ w.heap.size ≤ L'.block) (hs : w.heap.size ≤ w'.heap.size) (hold : ∀ b, b < w.heap.size → b ≠ L.block → w'.heap[b]? = w.heap[b]?) (hos : w'.os = w.os) (htp : w'.tape = w.tape) (hou : w'.output = w.output)
    (ho : (∀ q K, m q = some K → upd m nx L' q = some K) → RepO P (upd m nx L') L' o' w') (hv : Rel (upd m nx L') v V) (h : x.run P w = .ok (.value V) w') : Does P x X nx ⟨v, (H.set r none).set nx (some o'), nx + 1, R, bit r⟩ m w := by
  obtain ⟨hm, hX⟩ := hp.fresh nx (Nat.le_refl _) (Nat.lt_succ_self _)
  have hext := upd_ext (L := L') hm
  have hXr : X r := hp.R r hR
  have hrn : r ≠ nx := fun e => hX (e ▸ hXr)
  have hget : ∀ q, q ≠ nx → q ≠ r → ((H.set r none).set nx (some o')).get q = H.get q := fun q h1 h2 => by rw [Tr.get_set, if_neg h1, Tr.get_set, if_neg h2]
  have hgr : ((H.set r none).set nx (some o')).get r = none := by rw [Tr.get_set, if_neg hrn, Tr.get_set, if_pos rfl]
  have old : ∀ q oq, X q → q ≠ r → H.get q = some oq → ∃ K, m q = some K ∧ RepO P (upd m nx L') K oq w' ∧ K.block < w.heap.size ∧ K.block ≠ L.block := fun q oq hq hqr hoq => by
    obtain ⟨K, g1, g2⟩ := hp.rep.rep q oq hq hoq
    have hne := hp.rep.inj q r K L hq hXr (by rw [hoq]; simp) (by rw [hr]; simp) hqr g1 hL
    exact ⟨K, g1, g2.keep P hext (hold _ g2.lt hne), g2.lt, hne⟩
  have hmv : Mv (bit r) nx (nx + 1) m w (upd m nx L') w' := by
    refine ⟨hext, fun q K e => ?_, hs, fun b hb hn => hold b hb fun e => hn r L (bit_self r) hL e.symm, hos, htp, hou⟩
    unfold upd at e
    by_cases hq : q = nx
    · subst hq
      rw [if_pos rfl] at e; cases e
      refine .inr ⟨Nat.le_refl _, Nat.lt_succ_self _, ?_⟩
      rcases hB with hB | hB
      · exact .inr ⟨r, L, bit_self r, hL, hB.symm⟩
      · exact .inl hB
    · rw [if_neg hq] at e; exact .inl e
  refine ⟨upd m nx L', V, w', .inl h, hv, hmv, fun q oq hq hoq => ?_, fun q q' K1 K2 h1 h2 h3 h4 hne e1 e2 => ?_, Env.st hp.rep.env hmv⟩
  · by_cases hqn : q = nx
    · subst hqn
      simp only [Tr.get_set, if_pos] at hoq
      cases hoq
      exact ⟨L', upd_self _ _ _, ho hext⟩
    · have hx : X q := hq.resolve_right fun e => by have := e.1; have := e.2; simp at this; omega
      by_cases hqr : q = r
      · subst hqr; rw [hgr] at hoq; cases hoq
      · rw [hget q hqn hqr] at hoq
        obtain ⟨K, g1, g2, _⟩ := old q oq hx hqr hoq
        exact ⟨K, hext _ _ g1, g2⟩
  · have key : ∀ q K, q ≠ nx → (X q ∨ (nx ≤ q ∧ q < nx + 1)) → ((H.set r none).set nx (some o')).get q ≠ none → upd m nx L' q = some K → X q ∧ H.get q ≠ none ∧ m q = some K ∧ K.block < w.heap.size ∧ K.block ≠ L.block := by
      intro q K hq hx hn e
      have hx : X q := hx.resolve_right fun e => by have := e.1; have := e.2; omega
      have hqr : q ≠ r := fun e => hn (e ▸ hgr)
      rw [hget q hq hqr] at hn
      obtain ⟨oq, hoq⟩ := Option.ne_none_iff_exists'.1 hn
      obtain ⟨K', g1, _, g3, g4⟩ := old q oq hx hqr hoq
      have e' : m q = some K := by unfold upd at e; rw [if_neg hq] at e; exact e
      rw [e'] at g1; cases g1
      exact ⟨hx, hn, e', g3, g4⟩
    by_cases hq : q = nx
    · subst hq
      rw [upd_self] at e1; cases e1
      obtain ⟨_, _, _, g, g'⟩ := key q' K2 (fun e => hne e.symm) h2 h4 e2
      rcases hB with hB | hB <;> omega
    · obtain ⟨a1, a2, a3, a4, a5⟩ := key q K1 hq h1 h3 e1
      by_cases hq' : q' = nx
      · subst hq'
        rw [upd_self] at e2; cases e2
        rcases hB with hB | hB <;> omega
      · obtain ⟨b1, b2, b3, b4, b5⟩ := key q' K2 hq' h2 h4 e2
        exact hp.rep.inj q q' K1 K2 a1 b1 a2 b2 hne a3 b3
theorem keep_kill {H : Tr AO} {nx r : Nat} {v : AV} {o o' : AO} {R : Nat} (hr : H.get r = some o) (hR : R.testBit r = true) (hl : ∀ r, R.testBit r = true → H.get r ≠ none) : Keep H nx ⟨v, (H.set r none).set nx (some o'), nx + 1, R, bit r⟩ :=
  ⟨Nat.le_succ _, hl, fun k h => by rw [bit_tb] at h; have := of_decide_eq_true h; subst this; exact ⟨hR, by rw [hr]; simp⟩,
    fun k h hn => by rw [bit_tb] at h; simp only [Tr.get_set]; rw [if_neg (by simp at hn; omega), if_neg (of_decide_eq_false h)]⟩
/-- What an append does. -/
theorem appendS_ok {H : Tr AO} {nx : Nat} {tys : Array TypeId} {s x : AV} {u : Ou} (h : evAppendS P H nx tys s x = some (.ok u)) :
    Keep H nx u ∧ ∀ X m w (S V : Value) (ty : TypeId), Rel m s S → Rel m x V → Pre P X m H nx u w → Does P (Builtin.append_ tys ty #[S, V] >>= fun y => (pure (Next.value y) : Sem Next)) X nx u m w := by
  unfold evAppendS at h
  split at h
  · rename_i ts tx htys
    have htys' : tys = #[ts, tx] := by cases tys; simpa using htys
    subst htys'
    split at h
    · rename_i e hd hk
      split at h
      · rename_i inf ze hi hz
        split at h
        · rename_i xs n rx b1 b2 hc
          have h1 := beq_f b1; have h2 := beq_t b2
          have hsz : szO P e = some inf.size := by simp [szO, hi]
          obtain ⟨Z, hZ⟩ : ∃ Z, inf.zero = some Z ∧ absV Z = some ze := by
            unfold zero at hz; rw [hi] at hz; simp only [] at hz
            split at hz
            · rename_i Z hZ; exact ⟨Z, hZ, hz⟩
            · cases hz
          have hZs : Z.cells.size = inf.size := by
            have := (absV_rel (fun _ => none) hZ.2).cells.1; simp at this; omega
          split at h
          · rename_i h1x
            split at h
            · -- nil
              split at h
              · rename_i b3
                have h3 := beq_t b3
                subst h3
                cases h
                refine ⟨keep_pure _ _ _ _ (cells_live hc), fun X m w S V ty hs hx hp => ?_⟩
                obtain ⟨news, g1, g2⟩ := src_ok hc hx hp.rep hp.R hk h1x
                have hn0 : news = [] := by have := g1.newsLen; simp at this; exact this
                subst hn0
                cases hs
                refine does_pure hp (run_v (V := .slice none 0 0) ?_) .ns
                rcases g1.kind with ⟨e', hk'⟩ | hk' <;> simp [Builtin.append_, run_underlying hd, run_underlying hk', run_size hsz, g1.len, g1.cells]
              · rename_i b3 b4
                have h3 := beq_f b3; have h4 := ble_t b4
                cases h
                refine ⟨keep_new _ _ _ _ _ (cells_live hc), fun X m w S V ty hs hx hp => ?_⟩
                obtain ⟨news, g1, g2⟩ := src_ok hc hx hp.rep hp.R hk h1x
                cases hs
                have hnl : n * 1 ≤ n * (inf.bytes + 1) := Nat.mul_le_mul_left _ (by omega)
                have hnb : n * inf.bytes ≤ n * (inf.bytes + 1) := Nat.mul_le_mul_left _ (by omega)
                unfold lim at h4
                have hrun := run_append_grow_src w ts tx ty e inf Z hd hi hZ.1 none 0 0 [] (run_firstCells_none _ _ _ _ _) V n news g1 (by omega) (by omega) (growslice_fits (by omega) (by rw [Nat.zero_add]; omega))
                simp only [Nat.zero_add, List.nil_append] at hrun
                refine does_new (L := ⟨w.heap.size, 0, grownCap w n 0 e⟩) hp (made_alloc w _) rfl (fun hext => grow_row (g2.mono hext) ?_ rfl rfl hsz h1 hZs g1.newsLen (grown_ge _ _ _ _)) (fun hext => ?_) (run_v hrun)
                · show (w.heap.push _)[w.heap.size]? = _; simp
                · have := Rel.slr (m := upd m nx ⟨w.heap.size, 0, grownCap w n 0 e⟩) nx 0 n 0 ⟨w.heap.size, 0, grownCap w n 0 e⟩ (upd_self _ _ _) (by have := grown_ge w n 0 e; simpa using this)
                  simpa using this
              · cases h
            · rename_i r o k c rel
              split at h
              · rename_i l e' tl hrow
                split at h
                · rename_i old hold b4
                  have h4 := ble_t b4
                  have hnl : (k + n) * 1 ≤ (k + n) * (inf.bytes + 1) := Nat.mul_le_mul_left _ (by omega)
                  have hnb : (k + n) * inf.bytes ≤ (k + n) * (inf.bytes + 1) := Nat.mul_le_mul_left _ (by omega)
                  unfold lim at h4
                  -- the old cells, in a world with the same memory
                  have olds : ∀ (X : Nat → Prop) (m : Mp) (w : World) (L : Loc), RepOn P X m H.get w → X r → m r = some L → ∃ A : Array Value, (∀ cp, (Builtin.firstCells inf.size k (.slice (some ⟨L.block, L.base + o, none⟩) k cp)).run P w.drew = .ok A w.drew) ∧ RelL m old A.toList := by
                    intro X m w L hrep hX hL
                    obtain ⟨L', e1, e2⟩ := hrep.rep r _ hX hrow
                    rw [hL] at e1; cases e1
                    obtain ⟨C, fr, g1, g2, g3, g4⟩ := e2
                    obtain ⟨d1, d2⟩ := row_cut g3 hold
                    exact ⟨_, fun cp => by
                      simp only [Builtin.firstCells]
                      exact run_loadRow (w := w.drew) g1 d1, d2⟩
                  split at h
                  · split at h
                    · rename_i b5
                      have h5 := ble_t b5
                      split at h
                      · rename_i l' hov
                        cases h
                        have hbr : (bit r ||| rx).testBit r = true := or_l (bit_self r)
                        refine ⟨keep_set hrow hbr (live_or (live_bit hrow) (cells_live hc)), fun X m w S V ty hs hx hp => ?_⟩
                        obtain ⟨news, g1, g2⟩ := src_ok hc hx hp.rep (fun q hq => hp.R q (or_r hq)) hk h1x
                        cases hs
                        rename_i L hL
                        obtain ⟨c1, c2, c3, c4, c5⟩ := row_over (hp.row hrow hbr hL) hov g2 h1x
                        have hrun := run_append_room_src w ts tx ty e inf hd hi L.block (L.base + o) k c V n news g1 h5 (fun j hj => by have := c2 j hj; rwa [show L.base + (o + k * inf.size) + j = L.base + o + k * inf.size + j by omega] at this) (fun j hj => by have := c3 j hj; rwa [show L.base + (o + k * inf.size) + j = L.base + o + k * inf.size + j by omega] at this)
                        rw [show L.base + o + k * inf.size = L.base + (o + k * inf.size) by omega] at hrun
                        exact does_set hp hbr hrow hL c4 c5 (.sl _ _ _ _ L hL) (.inl (run_v hrun))
                      · cases h
                    · rename_i b5
                      have h5 := ble_f b5
                      cases h
                      have hbr : (bit r ||| rx).testBit r = true := or_l (bit_self r)
                      refine ⟨keep_new _ _ _ _ _ (live_or (live_bit hrow) (cells_live hc)), fun X m w S V ty hs hx hp => ?_⟩
                      obtain ⟨news, g1, g2⟩ := src_ok hc hx hp.rep (fun q hq => hp.R q (or_r hq)) hk h1x
                      cases hs
                      rename_i L hL
                      obtain ⟨A, a1, a2⟩ := olds X m w L hp.rep (hp.R r hbr) hL
                      have hrun := run_append_grow_src w ts tx ty e inf Z hd hi hZ.1 (some ⟨L.block, L.base + o, none⟩) k c A.toList (by simpa using a1 c) V n news g1 h5 (by omega) (growslice_fits h5 (by omega))
                      refine does_new (L := ⟨w.heap.size, 0, grownCap w (k + n) c e⟩) hp (made_alloc w _) rfl (fun hext => grow_row ((a2.append g2).mono hext) ?_ rfl rfl hsz h1 hZs ?_ (grown_ge _ _ _ _)) (fun hext => ?_) (run_v hrun)
                      · show (w.heap.push _)[w.heap.size]? = _; simp
                      · rw [List.length_append, g1.newsLen, ← a2.1, (cut_eq hold).2, Nat.add_mul]
                      · have := Rel.slr (m := upd m nx ⟨w.heap.size, 0, grownCap w (k + n) c e⟩) nx 0 (k + n) 0 ⟨w.heap.size, 0, grownCap w (k + n) c e⟩ (upd_self _ _ _) (by have := grown_ge w (k + n) c e; simpa using this)
                        simpa using this
                  · split at h
                    · rename_i b5 b6 b7
                      have h5 := beq_t b5
                      subst h5
                      cases h
                      have hbr : (bit r ||| rx).testBit r = true := or_l (bit_self r)
                      refine ⟨keep_pure _ _ _ _ (live_or (live_bit hrow) (cells_live hc)), fun X m w S V ty hs hx hp => ?_⟩
                      obtain ⟨news, g1, g2⟩ := src_ok hc hx hp.rep (fun q hq => hp.R q (or_r hq)) hk h1x
                      have hn0 : news = [] := by have := g1.newsLen; simp at this; exact this
                      subst hn0
                      cases hs
                      rename_i L hL hn
                      have hrun := run_append_room_src w ts tx ty e inf hd hi L.block (L.base + o) k (L.cap - c) V 0 [] g1 (by omega) (fun j hj => by simp at hj) (fun j hj => by simp at hj)
                      exact does_pure hp (run_v hrun) (.slr _ _ _ _ L hL hn)
                    · rename_i b5 b6 b7
                      have h5 := beq_f b5; have h6 := beq_t b6; have h7 := beq_t b7
                      subst h7
                      cases h
                      have hbr : (bit r ||| rx).testBit r = true := or_l (bit_self r)
                      refine ⟨keep_kill hrow hbr (live_or (live_bit hrow) (cells_live hc)), fun X m w S V ty hs hx hp => ?_⟩
                      obtain ⟨news, g1, g2⟩ := src_ok hc hx hp.rep (fun q hq => hp.R q (or_r hq)) hk h1x
                      cases hs
                      rename_i L hL hn
                      obtain ⟨hm, hX⟩ := hp.fresh nx (Nat.le_refl _) (Nat.lt_succ_self _)
                      obtain ⟨A, a1, a2⟩ := olds X m w L hp.rep (hp.R r hbr) hL
                      have hlenA : A.toList.length = k * inf.size := by rw [← a2.1]; exact (cut_eq hold).2
                      obtain ⟨C, fr, r1, r2, r3, r4⟩ := hp.row hrow hbr hL
                      obtain ⟨z, rz1, rz2, rz3⟩ := r4 rfl
                      rw [hsz] at rz1; cases rz1
                      by_cases hroom : k + n ≤ L.cap - c
                      · -- in place
                        have hsz2 : L.base + o + k * inf.size + news.length ≤ C.size := by
                          rw [rz3, g1.newsLen, h6]
                          have : (c + k + n) * inf.size ≤ L.cap * inf.size := Nat.mul_le_mul_right _ (by omega)
                          rw [Nat.add_mul, Nat.add_mul] at this
                          omega
                        have hrun := run_append_room_src w ts tx ty e inf hd hi L.block (L.base + o) k (L.cap - c) V n news g1 hroom (fun j hj => by rw [cell_at r1, Array.getElem?_eq_getElem (by omega)]; rfl) (fun j hj => frozen_not r1 r2 (by omega))
                        obtain ⟨C', d1, d2, d3, d4⟩ := setCells_row news (L.base + o + k * inf.size) w C r1 hsz2
                        refine does_kill (L := L) (L' := ⟨L.block, L.base + o, L.cap - c⟩) hp hbr hrow hL (.inl rfl) (by rw [d4.size]; exact Nat.le_refl _) (fun b _ hb => d4.old b hb) d4.os d4.tape d4.output (fun hext => ?_) ?_ (run_v hrun)
                        · refine ⟨C', fr, d1, by rw [d2]; exact r2, fun i y hy => ?_, fun _ => ⟨inf.size, hsz, by omega, ?_⟩⟩
                          · have hlo : old.length = k * inf.size := (cut_eq hold).2
                            by_cases hik : i < k * inf.size
                            · rw [List.getElem?_append_left (by omega)] at hy
                              obtain ⟨W, w1, w2⟩ := a2.get hy
                              have hy2 := hy
                              rw [(cut_eq hold).1, List.getElem?_take, if_pos hik, List.getElem?_drop] at hy2
                              obtain ⟨W', q1, q2⟩ := r3 _ _ hy2
                              refine ⟨W', ?_, q2.mono hext⟩
                              rw [d3, if_neg (by show ¬ (_ ≤ L.base + o + i ∧ _); omega), show (Loc.mk L.block (L.base + o) (L.cap - c)).base + i = L.base + (o + i) from by show L.base + o + i = _; omega]
                              exact q1
                            · rw [List.getElem?_append_right (by omega)] at hy
                              obtain ⟨W, w1, w2⟩ := g2.get hy
                              have hlt := (List.getElem?_eq_some_iff.1 w1).1
                              refine ⟨W, ?_, w2.mono hext⟩
                              rw [d3, if_pos (by show (_ ≤ L.base + o + i ∧ L.base + o + i < _); omega)]
                              rw [show (Loc.mk L.block (L.base + o) (L.cap - c)).base + i - (L.base + o + k * inf.size) = i - old.length from by show L.base + o + i - _ = _; omega]
                              exact w1
                          · rw [d2, rz3]
                            show _ = L.base + o + (L.cap - c) * inf.size
                            rw [h6, Nat.sub_mul]
                            have : c * inf.size ≤ L.cap * inf.size := Nat.mul_le_mul_right _ (by omega)
                            omega
                        · have := Rel.slr (m := upd m nx ⟨L.block, L.base + o, L.cap - c⟩) nx 0 (k + n) 0 ⟨L.block, L.base + o, L.cap - c⟩ (upd_self _ _ _) (by simpa using hroom)
                          simpa using this
                      · -- a new row
                        have hrun := run_append_grow_src w ts tx ty e inf Z hd hi hZ.1 (some ⟨L.block, L.base + o, none⟩) k (L.cap - c) A.toList (by simpa using a1 _) V n news g1 (by omega) (by omega) (growslice_fits (by omega) (by omega))
                        refine does_kill (L := L) (L' := ⟨w.heap.size, 0, grownCap w (k + n) (L.cap - c) e⟩) hp hbr hrow hL (.inr (Nat.le_refl _)) (by have := (made_alloc w (.cells ((A.toList ++ news).toArray ++ Builtin.zeroCells Z.cells (grownCap w (k + n) (L.cap - c) e - (k + n))) e)).size; omega)
                          (fun b hb _ => (made_alloc w _).old b hb) rfl rfl rfl (fun hext => grow_row ((a2.append g2).mono hext) ?_ rfl rfl hsz h1 hZs ?_ (grown_ge _ _ _ _)) ?_ (run_v hrun)
                        · show (w.heap.push _)[w.heap.size]? = _; simp
                        · rw [List.length_append, g1.newsLen, hlenA, Nat.add_mul]
                        · have := Rel.slr (m := upd m nx ⟨w.heap.size, 0, grownCap w (k + n) (L.cap - c) e⟩) nx 0 (k + n) 0 ⟨w.heap.size, 0, grownCap w (k + n) (L.cap - c) e⟩ (upd_self _ _ _) (by have := grown_ge w (k + n) (L.cap - c) e; simpa using this)
                          simpa using this
                    · cases h
                · cases h
              · cases h
            · cases h
          · cases h
        · cases h
      · cases h
    · cases h
  · cases h
theorem run_append_nought {P : Program} (w : World) (t tx ty : TypeId) (e : TypeId) (ht : P.underlying t = some (.slice e)) (htx : P.underlying tx = some (.int .i64)) (hi : (P.info? e).isSome = true) (hz : ((P.info? e).bind (·.zero)).isSome = true)
    (ad : Option Addr) (n cap : Nat) (h63 : n ≤ cap) : (Builtin.append_ #[t, tx] ty #[.slice ad n cap, .int .i64 0]).run P w = .ok (.slice ad n cap) w := by
  obtain ⟨i, hi⟩ := Option.isSome_iff_exists.1 hi
  rw [hi] at hz
  obtain ⟨z, hz⟩ := Option.isSome_iff_exists.1 hz
  have hz : i.zero = some z := hz
  have hw0 : IntKind.i64.wrap 0 = 0 := rfl
  cases ad <;> simp [Builtin.append_, run_underlying ht, run_underlying htx, sizeOf, typeInfo, zeroValue, hi, hz, asInt, asIntOf, Question.forced, hw0, h63, storeCells]
theorem append_ok {H : Tr AO} {nx : Nat} {tys : Array TypeId} {s x : AV} {u : Ou} (h : evAppend P H nx tys s x = some (.ok u)) :
    Keep H nx u ∧ ∀ X m w (S V : Value) (ty : TypeId), Rel m s S → Rel m x V → Pre P X m H nx u w → Does P (Builtin.append_ tys ty #[S, V] >>= fun y => (pure (Next.value y) : Sem Next)) X nx u m w := by
  unfold evAppend at h
  split at h
  · rename_i n
    unfold evAppendZ at h
    split at h
    · rename_i ts tx htys
      have htys' : tys = #[ts, tx] := by cases tys; simpa using htys
      subst htys'
      split at h
      · rename_i e hd hk
        split at h
        · rename_i ze hz hn0
          have hn0 : n = 0 := eq_of_beq ((ieq_eq _ _).symm.trans hn0)
          subst hn0
          have hi : (P.info? e).isSome = true ∧ ((P.info? e).bind (·.zero)).isSome = true := by
            unfold zero at hz
            split at hz
            · rename_i inf hinf
              split at hz
              · rename_i Z hZ; simp [hinf, hZ]
              · cases hz
            · cases hz
          split at h
          · cases h
            refine ⟨keep_pure _ _ _ _ (fun q hq => absurd hq (by simp)), fun X m w S V ty hs hx hp => ?_⟩
            cases hs; cases hx
            exact does_pure hp (run_v (run_append_nought w ts tx ty e hd hk hi.1 hi.2 none 0 0 (Nat.le_refl _))) .ns
          · cases h
            refine ⟨keep_pure _ _ _ _ (fun q hq => absurd hq (by simp)), fun X m w S V ty hs hx hp => ?_⟩
            cases hs; cases hx
            rename_i L hL hn
            exact does_pure hp (run_v (run_append_nought w ts tx ty e hd hk hi.1 hi.2 _ _ _ (by omega))) (.slr _ _ _ _ L hL hn)
          · split at h
            · rename_i hkc
              have hkc := ble_t hkc
              cases h
              refine ⟨keep_pure _ _ _ _ (fun q hq => absurd hq (by simp)), fun X m w S V ty hs hx hp => ?_⟩
              cases hs; cases hx
              rename_i L hL
              exact does_pure hp (run_v (run_append_nought w ts tx ty e hd hk hi.1 hi.2 _ _ _ hkc)) (.sl _ _ _ _ L hL)
            · cases h
          · cases h
        · cases h
      · cases h
    · cases h
  · exact appendS_ok h
end
end Go.Ev
