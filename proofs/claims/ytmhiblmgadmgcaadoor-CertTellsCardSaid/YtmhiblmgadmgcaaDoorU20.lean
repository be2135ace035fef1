/- The evaluator's operations are the model's: arithmetic, comparison, slicing, literals. Plain lemmas. Ahead of it: The evaluator's operations are the model's: what reads, and makes, and writes rows. Plain lemmas. The evaluator's operations are the model's: those that only compute. Plain lemmas. -/
import Derived.Test.YtmhiblmgadmgcaaDoorU19
import Derived.Laws.StructEq
namespace Go.Ev
open Go
set_option linter.unusedVariables false
set_option linter.unusedSimpArgs false
set_option linter.unusedSectionVars false
variable [Env]
theorem bit_tb (r k : Nat) : (bit r).testBit k = decide (k = r) := by
  unfold bit
  show (1 <<< r).testBit k = _
  rw [Nat.one_shiftLeft, Nat.testBit_two_pow]
  exact decide_eq_decide.2 ⟨fun h => h.symm, fun h => h.symm⟩
theorem bit_self (r : Nat) : (bit r).testBit r = true := by simp [bit_tb]
theorem or_l {a b k : Nat} (h : a.testBit k = true) : (a ||| b).testBit k = true := by simp [Nat.testBit_or, h]
theorem or_r {a b k : Nat} (h : b.testBit k = true) : (a ||| b).testBit k = true := by simp [Nat.testBit_or, h]
section
variable {P : Program}
theorem run_info {t : TypeId} {i : TypeInfo} (h : P.info? t = some i) (w : World) : (typeInfo t).run P w = .ok i w := by
  simp [typeInfo, h]
theorem run_und {t : TypeId} {d : TypeDesc} (h : P.underlying t = some d) (w : World) : (underlying t).run P w = .ok d w := by
  simp [underlying, h]
theorem info_of_sz {t : TypeId} {n : Nat} (h : szO P t = some n) : ∃ i, P.info? t = some i ∧ i.size = n := by
  unfold szO at h
  split at h
  · rename_i i hi; cases h; exact ⟨i, hi, rfl⟩
  · cases h
theorem run_size {t : TypeId} {n : Nat} (h : szO P t = some n) (w : World) : (sizeOf t).run P w = .ok n w := by
  obtain ⟨i, hi, hn⟩ := info_of_sz h
  simp [sizeOf, run_info hi, hn]
theorem run_zero {t : TypeId} {z : AV} (h : zero P t = some z) : ∃ V, absV V = some z ∧ ∀ w, (zeroValue t).run P w = .ok V w := by
  unfold zero at h
  split at h
  · rename_i i hi
    split at h
    · rename_i V hV
      exact ⟨V, h, fun w => by simp [zeroValue, run_info hi, hV]⟩
    · cases h
  · cases h
theorem run_isA {t : TypeId} {b : Bool} (h : isA P t = some b) (w : World) : (isAgg t).run P w = .ok b w := by
  unfold isA at h
  split at h <;> try (cases h)
  · rename_i fs hf; simp [isAgg, run_und hf]
  · rename_i n e hf; simp [isAgg, run_und hf]
  · rename_i d n1 n2 hf
    simp only [isAgg, Sem.run_bind, run_und hf, Result.andThen_ok]
    rfl
theorem cut_eq {l xs : List AV} {off n : Nat} (h : cut l off n = some xs) : xs = (l.drop off).take n ∧ xs.length = n := by
  unfold cut at h
  simp only [] at h
  split at h
  · rename_i hb; cases h; exact ⟨rfl, beq_t hb⟩
  · cases h
theorem cut_rel {m : Mp} {l xs : List AV} {A : List Value} {off n : Nat} (h : cut l off n = some xs) (hA : RelL m l A) : RelL m xs ((A.drop off).take n) := by
  rw [(cut_eq h).1]; exact (hA.drop off).take n
theorem ext_list (A : Array Value) (a n : Nat) : (A.extract a (a + n)).toList = (A.toList.drop a).take n := by
  simp [List.extract_eq_take_drop]
theorem run_part {t : TypeId} {l : List AV} {off : Nat} {v : AV} {m : Mp} {A : Array Value} (h : partA P t l off = some v) (hA : RelL m l A.toList) (w : World) :
    ∃ V, (part t A off).run P w = .ok V w ∧ Rel m v V := by
  unfold partA at h
  split at h
  · rename_i hi
    split at h
    · rename_i n hn
      split at h
      · rename_i xs hx
        cases h
        refine ⟨.agg (A.extract off (off + n)), by simp [part, run_isA hi, run_size hn], .a_of ?_⟩
        rw [ext_list]; exact cut_rel hx hA
      · cases h
    · cases h
  · rename_i hi
    obtain ⟨V, h1, h2⟩ := hA.get h
    refine ⟨V, ?_, h2⟩
    have : A[off]? = some V := by rw [← Array.getElem?_toList]; exact h1
    simp [part, run_isA hi, this]
  · cases h
/-! Rows. -/
theorem add_none (b o i : Nat) : (Addr.mk b o none).add i = ⟨b, o + i, none⟩ := by
  unfold Addr.add; split
  · rename_i h; subst h; rfl
  · rfl
theorem cell_at {w : World} {b : Nat} {C : Array Value} {e : TypeId} {fr : Nat × Nat} (hg : w.heap[b]? = some (.cells C e fr)) (k : Nat) : w.cell? ⟨b, k, none⟩ = C[k]? := by
  simp [World.cell?, hg]
theorem run_loadFrom {w : World} {b off : Nat} {C : Array Value} {e : TypeId} {fr : Nat × Nat} (hg : w.heap[b]? = some (.cells C e fr)) :
    ∀ (n i : Nat) (acc : Array Value), off + i + n ≤ C.size → (loadCellsFrom ⟨b, off, none⟩ i n acc).run P w = .ok (acc ++ C.extract (off + i) (off + i + n)) w
  | 0, i, acc, h => by
    simp [loadCellsFrom]
    omega
  | n + 1, i, acc, h => by
    have hk : off + i < C.size := by omega
    have h1 : w.cell? ⟨b, off + i, none⟩ = some C[off + i] := by rw [cell_at hg, Array.getElem?_eq_getElem hk]
    simp only [loadCellsFrom, Sem.run_bind, add_none, run_load, h1, Result.andThen_ok]
    rw [run_loadFrom hg n (i + 1) (acc.push C[off + i]) (by omega)]
    congr 1
    apply Array.ext'
    simp only [Array.toList_append, Array.toList_push, ext_list]
    rw [show off + (i + 1) = off + i + 1 by omega]
    rw [show (C.toList.drop (off + i)) = C[off + i] :: C.toList.drop (off + i + 1) from by
      rw [List.drop_eq_getElem_cons (by simpa using hk)]; simp]
    simp
theorem run_loadRow {w : World} {b off n : Nat} {C : Array Value} {e : TypeId} {fr : Nat × Nat} (hg : w.heap[b]? = some (.cells C e fr)) (h : n = 0 ∨ off + n ≤ C.size) :
    (loadCells ⟨b, off, none⟩ n).run P w = .ok (C.extract off (off + n)) w := by
  rcases h with h | h
  · subst h
    simp [loadCells, loadCellsFrom]
    omega
  · have := run_loadFrom (P := P) hg n 0 #[] (by omega)
    simpa [loadCells] using this
theorem run_loadRow0 (a : Addr) (w : World) : (loadCells a 0).run P w = .ok #[] w := rfl
theorem row_le {m : Mp} {l : List AV} {C : Array Value} {base : Nat} (h : ∀ i x, l[i]? = some x → ∃ V, C[base + i]? = some V ∧ Rel m x V) : l = [] ∨ base + l.length ≤ C.size := by
  cases hl : l with
  | nil => exact .inl rfl
  | cons a b =>
    right
    have hi : l.length - 1 < l.length := by rw [hl]; simp
    obtain ⟨V, h1, _⟩ := h (l.length - 1) _ (List.getElem?_eq_getElem hi)
    have := (Array.getElem?_eq_some_iff.1 h1).1
    rw [← hl]; omega
theorem row_cut {m : Mp} {l xs : List AV} {C : Array Value} {base o n : Nat} (h : ∀ i x, l[i]? = some x → ∃ V, C[base + i]? = some V ∧ Rel m x V) (hc : cut l o n = some xs) :
    (n = 0 ∨ base + o + n ≤ C.size) ∧ RelL m xs (C.extract (base + o) (base + o + n)).toList := by
  obtain ⟨h1, h2⟩ := cut_eq hc
  have hle : n = 0 ∨ o + n ≤ l.length := by
    rw [h1] at h2; simp at h2; omega
  have hC : n = 0 ∨ base + o + n ≤ C.size := by
    rcases row_le h with e | e
    · subst e; rcases hle with e | e
      · exact .inl e
      · simp at e; exact .inl e.2
    · rcases hle with e' | e'
      · exact .inl e'
      · right; omega
  refine ⟨hC, ?_, fun i x V hx hV => ?_⟩
  · rw [h2]
    rcases hC with e | e
    · subst e; simp
    · simp; omega
  · have hi : i < n := by
      have := (List.getElem?_eq_some_iff.1 hx).1; omega
    rw [h1, List.getElem?_take, if_pos hi, List.getElem?_drop] at hx
    obtain ⟨V', g1, g2⟩ := h _ _ hx
    rw [ext_list, List.getElem?_take, if_pos hi, List.getElem?_drop, Array.getElem?_toList, show base + o + i = base + (o + i) by omega, g1] at hV
    cases hV; exact g2
/-- What is known where an operation starts. -/
structure Pre (P : Program) (X : Nat → Prop) (m : Mp) (H : Tr AO) (nx : Nat) (u : Ou) (w : World) : Prop where
  rep : RepOn P X m H.get w
  R : ∀ r, u.R.testBit r = true → X r
  fresh : ∀ r, nx ≤ r → r < u.nx → m r = none ∧ ¬ X r
/-- What an operation does. -/
def Does (P : Program) (x : Sem Next) (X : Nat → Prop) (nx : Nat) (u : Ou) (m : Mp) (w : World) : Prop :=
  ∃ m' V w', (x.run P w = .ok (.value V) w' ∨ (x.run P w = .ok .skip w' ∧ V = undef)) ∧ Rel m' u.v V ∧ Mv u.W nx u.nx m w m' w' ∧
    RepOn P (fun r => X r ∨ (nx ≤ r ∧ r < u.nx)) m' u.H.get w'
/-- What an evaluator's step keeps. -/
structure Keep (H : Tr AO) (nx : Nat) (u : Ou) : Prop where
  le : nx ≤ u.nx
  rd : ∀ r, u.R.testBit r = true → H.get r ≠ none
  wr : ∀ r, u.W.testBit r = true → u.R.testBit r = true ∧ H.get r ≠ none
  kp : ∀ r, u.W.testBit r = false → ¬ (nx ≤ r ∧ r < u.nx) → u.H.get r = H.get r
def upd (m : Mp) (r : Nat) (L : Loc) : Mp := fun r' => if r' = r then some L else m r'
theorem upd_ext {m : Mp} {r : Nat} {L : Loc} (h : m r = none) : ∀ r' L', m r' = some L' → upd m r L r' = some L' := by
  intro r' L' e
  unfold upd
  by_cases hr : r' = r
  · subst hr; rw [h] at e; cases e
  · rw [if_neg hr]; exact e
theorem upd_self (m : Mp) (r : Nat) (L : Loc) : upd m r L r = some L := by simp [upd]
theorem live_0 (H : Tr AO) : ∀ r, (0 : Nat).testBit r = true → H.get r ≠ none := fun r h => by simp at h
theorem live_bit {H : Tr AO} {r : Nat} {o : AO} (h : H.get r = some o) : ∀ q, (bit r).testBit q = true → H.get q ≠ none := fun q hq => by
  rw [bit_tb] at hq
  have := of_decide_eq_true hq
  subst this
  rw [h]; simp
theorem live_or {H : Tr AO} {a b : Nat} (ha : ∀ q, a.testBit q = true → H.get q ≠ none) (hb : ∀ q, b.testBit q = true → H.get q ≠ none) : ∀ q, (a ||| b).testBit q = true → H.get q ≠ none := fun q hq => by
  rw [Nat.testBit_or, Bool.or_eq_true] at hq
  exact hq.elim (ha q) (hb q)
theorem keep_pure (H : Tr AO) (nx : Nat) (v : AV) (R : Nat) (hR : ∀ r, R.testBit r = true → H.get r ≠ none) : Keep H nx ⟨v, H, nx, R, 0⟩ := ⟨Nat.le_refl _, hR, fun r h => by simp at h, fun r _ _ => rfl⟩
theorem does_pure {x : Sem Next} {X : Nat → Prop} {H : Tr AO} {nx R : Nat} {v : AV} {m : Mp} {w : World} {V : Value} (hp : Pre P X m H nx ⟨v, H, nx, R, 0⟩ w) (h : x.run P w = .ok (.value V) w) (hv : Rel m v V) :
    Does P x X nx ⟨v, H, nx, R, 0⟩ m w := by
  refine ⟨m, V, w, .inl h, hv, Mv.refl _ _ _, hp.rep.sub P (fun r hr => hr.resolve_right fun e => ?_) fun _ _ => rfl⟩
  have := e.1; have := e.2; simp at this; omega
theorem keep_new (H : Tr AO) (nx : Nat) (v : AV) (o : AO) (R : Nat) (hR : ∀ r, R.testBit r = true → H.get r ≠ none) : Keep H nx ⟨v, H.set nx (some o), nx + 1, R, 0⟩ :=
  ⟨Nat.le_succ _, hR, fun r h => by simp at h, fun r _ h => by simp only [Tr.get_set]; rw [if_neg]; simp at h; omega⟩
/-- What a step that makes one block turns. -/
structure Made1 (w w' : World) : Prop where
  size : w'.heap.size = w.heap.size + 1
  old : ∀ b, b < w.heap.size → w'.heap[b]? = w.heap[b]?
  os : w'.os = w.os
  tape : w'.tape = w.tape
  output : w'.output = w.output
theorem does_new {x : Sem Next} {X : Nat → Prop} {H : Tr AO} {nx R : Nat} {v : AV} {o : AO} {m : Mp} {w w' : World} {V : Value} {L : Loc} (hp : Pre P X m H nx ⟨v, H.set nx (some o), nx + 1, R, 0⟩ w)
    (hw : Made1 w w') (hL : L.block = w.heap.size) (ho : (∀ r L', m r = some L' → upd m nx L r = some L') → RepO P (upd m nx L) L o w') (hv : (∀ r L', m r = some L' → upd m nx L r = some L') → Rel (upd m nx L) v V)
    (h : x.run P w = .ok (.value V) w') : Does P x X nx ⟨v, H.set nx (some o), nx + 1, R, 0⟩ m w := by
  obtain ⟨hm, hX⟩ := hp.fresh nx (Nat.le_refl _) (Nat.lt_succ_self _)
  have hext := upd_ext (L := L) hm
  have hget : ∀ r, r ≠ nx → (H.set nx (some o)).get r = H.get r := fun r hr => by rw [Tr.get_set, if_neg hr]
  have old : ∀ r o', X r → H.get r = some o' → ∃ L', m r = some L' ∧ RepO P (upd m nx L) L' o' w' ∧ L'.block < w.heap.size := fun r o' hr ho' => by
    obtain ⟨L', g1, g2⟩ := hp.rep.rep r o' hr ho'
    exact ⟨L', g1, g2.keep P hext (hw.old _ g2.lt), g2.lt⟩
  refine ⟨upd m nx L, V, w', .inl h, hv hext, ⟨hext, fun r L' e => ?_, by have := hw.size; omega, fun b hb _ => hw.old b hb, hw.os, hw.tape, hw.output⟩, fun r o' hr ho' => ?_, fun r r' L1 L2 h1 h2 h3 h4 hne e1 e2 => ?_, Env.st hp.rep.env (a := nx) (z := nx + 1) (W := 0) ⟨hext, fun r L' e => ?_, by have := hw.size; omega, fun b hb _ => hw.old b hb, hw.os, hw.tape, hw.output⟩⟩
  · unfold upd at e
    by_cases hr : r = nx
    · subst hr
      rw [if_pos rfl] at e; cases e
      exact .inr ⟨Nat.le_refl _, Nat.lt_succ_self _, .inl (by omega)⟩
    · rw [if_neg hr] at e; exact .inl e
  · by_cases hr' : r = nx
    · subst hr'
      simp only [Tr.get_set, if_pos] at ho'
      cases ho'
      exact ⟨L, upd_self _ _ _, ho hext⟩
    · have hx : X r := hr.resolve_right fun e => by have := e.1; have := e.2; simp at this; omega
      rw [hget r hr'] at ho'
      obtain ⟨L', g1, g2, _⟩ := old r o' hx ho'
      exact ⟨L', hext _ _ g1, g2⟩
  · have key : ∀ q L', q ≠ nx → (X q ∨ (nx ≤ q ∧ q < nx + 1)) → (H.set nx (some o)).get q ≠ none → upd m nx L q = some L' → X q ∧ H.get q ≠ none ∧ m q = some L' ∧ L'.block < w.heap.size := by
      intro q L' hq hx hn e
      have hx : X q := hx.resolve_right fun e => by have := e.1; have := e.2; omega
      rw [hget q hq] at hn
      obtain ⟨o', ho'⟩ := Option.ne_none_iff_exists'.1 hn
      obtain ⟨L'', g1, _, g3⟩ := old q o' hx ho'
      have e' : m q = some L' := by unfold upd at e; rw [if_neg hq] at e; exact e
      rw [e'] at g1; cases g1
      exact ⟨hx, hn, e', g3⟩
    by_cases hr : r = nx
    · subst hr
      rw [upd_self] at e1; cases e1
      obtain ⟨_, _, _, g⟩ := key r' L2 (fun e => hne e.symm) h2 h4 e2
      omega
    · obtain ⟨a1, a2, a3, a4⟩ := key r L1 hr h1 h3 e1
      by_cases hr' : r' = nx
      · subst hr'
        rw [upd_self] at e2; cases e2
        omega
      · obtain ⟨b1, b2, b3, b4⟩ := key r' L2 hr' h2 h4 e2
        exact hp.rep.inj r r' L1 L2 a1 b1 a2 b2 hne a3 b3
  · unfold upd at e
    by_cases hr : r = nx
    · subst hr
      rw [if_pos rfl] at e; cases e
      exact .inr ⟨Nat.le_refl _, Nat.lt_succ_self _, .inl (by omega)⟩
    · rw [if_neg hr] at e; exact .inl e
theorem keep_set {H : Tr AO} {nx r : Nat} {v : AV} {o o' : AO} {R : Nat} (hr : H.get r = some o) (hR : R.testBit r = true) (hl : ∀ r, R.testBit r = true → H.get r ≠ none) : Keep H nx ⟨v, H.set r (some o'), nx, R, bit r⟩ :=
  ⟨Nat.le_refl _, hl, fun k h => by rw [bit_tb] at h; have := of_decide_eq_true h; subst this; exact ⟨hR, by rw [hr]; simp⟩,
    fun k h _ => by rw [bit_tb] at h; simp only [Tr.get_set]; rw [if_neg (of_decide_eq_false h)]⟩
/-- What a step that writes one block turns. -/
structure Wrote1 (b : Nat) (w w' : World) : Prop where
  size : w'.heap.size = w.heap.size
  old : ∀ k, k ≠ b → w'.heap[k]? = w.heap[k]?
  os : w'.os = w.os
  tape : w'.tape = w.tape
  output : w'.output = w.output
theorem does_set {x : Sem Next} {X : Nat → Prop} {H : Tr AO} {nx R r : Nat} {v : AV} {o o' : AO} {m : Mp} {w w' : World} {V : Value} {L : Loc} (hp : Pre P X m H nx ⟨v, H.set r (some o'), nx, R, bit r⟩ w)
    (hR : R.testBit r = true) (hr : H.get r = some o) (hL : m r = some L) (hw : Wrote1 L.block w w') (ho : RepO P m L o' w') (hv : Rel m v V)
    (h : x.run P w = .ok (.value V) w' ∨ (x.run P w = .ok .skip w' ∧ V = undef)) : Does P x X nx ⟨v, H.set r (some o'), nx, R, bit r⟩ m w := by
  have hX : X r := hp.R r hR
  refine ⟨m, V, w', h, hv, ⟨fun _ _ e => e, fun _ _ e => .inl e, by have := hw.size; omega, fun b hb hn => hw.old b fun e => hn r L (bit_self r) hL e.symm, hw.os, hw.tape, hw.output⟩, fun q oq hq ho' => ?_, fun q q' L1 L2 h1 h2 h3 h4 hne e1 e2 => ?_, Env.st hp.rep.env (a := nx) (z := nx) (W := bit r) ⟨fun _ _ e => e, fun _ _ e => .inl e, by have := hw.size; omega, fun b hb hn => hw.old b fun e => hn r L (bit_self r) hL e.symm, hw.os, hw.tape, hw.output⟩⟩
  · have hx : X q := hq.resolve_right fun e => by have := e.1; have := e.2; simp at this; omega
    simp only [Tr.get_set] at ho'
    by_cases e : q = r
    · subst e
      rw [if_pos rfl] at ho'; cases ho'
      exact ⟨L, hL, ho⟩
    · rw [if_neg e] at ho'
      obtain ⟨L', g1, g2⟩ := hp.rep.rep q oq hx ho'
      exact ⟨L', g1, g2.keep P (fun _ _ e => e) (hw.old _ (hp.rep.inj q r L' L hx hX (by rw [ho']; simp) (by rw [hr]; simp) e g1 hL))⟩
  · have hx : X q := h1.resolve_right fun e => by have := e.1; have := e.2; simp at this; omega
    have hx' : X q' := h2.resolve_right fun e => by have := e.1; have := e.2; simp at this; omega
    have live : ∀ k, (H.set r (some o')).get k ≠ none → H.get k ≠ none := fun k hk => by
      rw [Tr.get_set] at hk
      by_cases e : k = r
      · subst e; rw [hr]; simp
      · rw [if_neg e] at hk; exact hk
    exact hp.rep.inj q q' L1 L2 hx hx' (live q h3) (live q' h4) hne e1 e2
end
end Go.Ev
namespace Go.Ev
open Go
set_option linter.unusedVariables false
set_option linter.unusedSimpArgs false
set_option linter.unusedSectionVars false
variable [Env]
theorem ieq_eq (a b : Int) : ieq a b = (a == b) := by
  rw [Bool.eq_iff_iff]
  cases a with
  | ofNat x => cases b with
    | ofNat y => simp [ieq, Nat.beq_eq] <;> omega
    | negSucc y => simp [ieq] <;> omega
  | negSucc x => cases b with
    | ofNat y => simp [ieq] <;> omega
    | negSucc y => simp [ieq, Nat.beq_eq] <;> omega
theorem ile_eq (a b : Int) : ile a b = decide (a ≤ b) := by
  rw [Bool.eq_iff_iff]
  cases a with
  | ofNat x => cases b with
    | ofNat y => simp [ile, Nat.ble_eq] <;> omega
    | negSucc y => simp [ile] <;> omega
  | negSucc x => cases b with
    | ofNat y => simp [ile] <;> omega
    | negSucc y => simp [ile, Nat.ble_eq] <;> omega
theorem seq'_eq : ∀ (x y : List UInt8), seq' x y = (x == y)
  | [], [] => rfl
  | [], _ :: _ => rfl
  | _ :: _, [] => rfl
  | a :: x, b :: y => by
    simp only [seq']
    cases h : Nat.beq a.toNat b.toNat with
    | true =>
      have := UInt8.toNat_inj.1 (beq_t h)
      subst this
      simp [seq'_eq x y]
    | false =>
      have : a ≠ b := fun e => beq_f h (by rw [e])
      simp [this]
theorem slt_eq : ∀ (x y : List UInt8), slt x y = Op.bytesLess x y
  | [], [] => rfl
  | _ :: _, [] => rfl
  | [], _ :: _ => rfl
  | a :: x, b :: y => by
    simp only [slt, Op.bytesLess]
    cases h : Nat.beq a.toNat b.toNat with
    | true =>
      have := UInt8.toNat_inj.1 (beq_t h)
      subst this
      simp [slt_eq x y]
    | false =>
      have : a ≠ b := fun e => beq_f h (by rw [e])
      have h2 : (a == b) = false := by simp [this]
      simp only [h2, Bool.false_and, Bool.or_false]
      rw [Bool.eq_iff_iff]
      simp [Nat.blt_eq, UInt8.lt_iff_toNat_lt]
section
variable {P : Program}
theorem run_v {x : Sem Value} {V : Value} {w w' : World} (h : x.run P w = .ok V w') : (x >>= fun y => (pure (Next.value y) : Sem Next)).run P w = .ok (.value V) w' := by
  rw [Sem.run_bind, h]; rfl
theorem run_u {x : Sem Unit} {w w' : World} (h : x.run P w = .ok () w') : (x >>= fun _ => (pure Next.skip : Sem Next)).run P w = .ok .skip w' := by
  rw [Sem.run_bind, h]; rfl
def OpR (m : Mp) (T : Tr AV) (ρ : Operand → Value) (op : Op) : Prop := ∀ x v, x ∈ op.operands.toList → evx T x = some v → Rel m v (ρ x)
def Goal (P : Program) (T : Tr AV) (H : Tr AO) (nx : Nat) (o : Oper) (u : Ou) : Prop :=
  Keep H nx u ∧ ∀ X m ρ w, OpR m T ρ o.op → Pre P X m H nx u w → Does P (execOp ρ o) X nx u m w
theorem lift_inv {H : Tr AO} {nx : Nat} {x : Option AV} {u : Ou} (h : lift H nx x = some (.ok u)) : ∃ v, x = some v ∧ u = ⟨v, H, nx, 0, 0⟩ := by
  cases x with
  | none => simp [lift] at h
  | some v => simp [lift, pure'] at h; exact ⟨v, rfl, h.symm⟩
theorem pure_inv {H : Tr AO} {nx : Nat} {v : AV} {u : Ou} (h : pure' H nx v = some (.ok u)) : u = ⟨v, H, nx, 0, 0⟩ := by
  simp [pure'] at h; exact h.symm
theorem goal_pure {T : Tr AV} {H : Tr AO} {nx : Nat} {o : Oper} {u : Ou} {v : AV} {R : Nat} (hu : u = ⟨v, H, nx, R, 0⟩)
    (h : ∀ X m ρ w, OpR m T ρ o.op → Pre P X m H nx u w → ∃ V, (execOp ρ o).run P w = .ok (.value V) w ∧ Rel m v V) (hR : ∀ r, R.testBit r = true → H.get r ≠ none := by exact live_0 _) : Goal P T H nx o u := by
  subst hu
  refine ⟨keep_pure _ _ _ _ hR, fun X m ρ w hr hp => ?_⟩
  obtain ⟨V, h1, h2⟩ := h X m ρ w hr hp
  exact does_pure hp h1 h2
theorem inB_t {i : Int} {n k : Nat} (h : inB i n = some k) : i = (k : Int) ∧ k < n := by
  unfold inB at h
  split at h
  · split at h
    · rename_i hb; cases h; exact ⟨rfl, blt_t hb⟩
    · cases h
  · cases h
theorem ok_move {T : Tr AV} {H : Tr AO} {nx : Nat} {o : Oper} {u : Ou} {x : Operand} (ho : o.op = .move x) (h : evOp P T H nx (.move x) = some (.ok u)) : Goal P T H nx o u := by
  simp only [evOp] at h
  obtain ⟨v, h1, hu⟩ := lift_inv h
  refine goal_pure hu fun X m ρ w hr hp => ⟨ρ x, ?_, hr x v (by rw [ho]; simp [Op.operands]) h1⟩
  unfold execOp; rw [ho]; rfl
theorem ok_assign {T : Tr AV} {H : Tr AO} {nx : Nat} {o : Oper} {u : Ou} {x : Operand} (ho : o.op = .assign x) (h : evOp P T H nx (.assign x) = some (.ok u)) : Goal P T H nx o u := by
  simp only [evOp] at h
  obtain ⟨v, h1, hu⟩ := lift_inv h
  refine goal_pure hu fun X m ρ w hr hp => ⟨ρ x, ?_, hr x v (by rw [ho]; simp [Op.operands]) h1⟩
  unfold execOp; rw [ho]; rfl
theorem ok_pick {T : Tr AV} {H : Tr AO} {nx : Nat} {o : Oper} {u : Ou} {c a b : Operand} (ho : o.op = .pick c a b) (h : evOp P T H nx (.pick c a b) = some (.ok u)) : Goal P T H nx o u := by
  simp only [evOp] at h
  split at h
  · rename_i hc
    obtain ⟨v, h1, hu⟩ := lift_inv h
    refine goal_pure hu fun X m ρ w hr hp => ⟨ρ a, ?_, hr a v (by rw [ho]; simp [Op.operands]) h1⟩
    have := hr c _ (by rw [ho]; simp [Op.operands]) hc
    unfold execOp; rw [ho]; simp only []
    generalize ρ c = C at this
    cases this
    simp [asBool]
  · rename_i hc
    obtain ⟨v, h1, hu⟩ := lift_inv h
    refine goal_pure hu fun X m ρ w hr hp => ⟨ρ b, ?_, hr b v (by rw [ho]; simp [Op.operands]) h1⟩
    have := hr c _ (by rw [ho]; simp [Op.operands]) hc
    unfold execOp; rw [ho]; simp only []
    generalize ρ c = C at this
    cases this
    simp [asBool]
  · cases h
theorem ok_extract {T : Tr AV} {H : Tr AO} {nx : Nat} {o : Oper} {u : Ou} {x : Operand} {i : Nat} (ho : o.op = .extract x i) (h : evOp P T H nx (.extract x i) = some (.ok u)) : Goal P T H nx o u := by
  simp only [evOp] at h
  split at h
  · rename_i l hx
    obtain ⟨v, h1, hu⟩ := lift_inv h
    refine goal_pure hu fun X m ρ w hr hp => ?_
    have := hr x _ (by rw [ho]; simp [Op.operands]) hx
    unfold execOp; rw [ho]
    simp only []
    generalize ρ x = C at this
    cases this
    rename_i A hl hA
    obtain ⟨V, g1, g2⟩ := RelL.get ⟨hl, hA⟩ h1
    refine ⟨V, run_v ?_, g2⟩
    have : A[i]? = some V := by rw [← Array.getElem?_toList]; exact g1
    simp [Instr.extract, this]
  · cases h
theorem ok_field {T : Tr AV} {H : Tr AO} {nx : Nat} {o : Oper} {u : Ou} {t : TypeId} {x : Operand} {f : Nat} (ho : o.op = .field t x f) (h : evOp P T H nx (.field t x f) = some (.ok u)) : Goal P T H nx o u := by
  simp only [evOp] at h
  split at h
  · rename_i v0 hx
    obtain ⟨v, h1, hu⟩ := lift_inv h
    refine goal_pure hu fun X m ρ w hr hp => ?_
    have := hr x _ (by rw [ho]; simp [Op.operands]) hx
    unfold execOp; rw [ho]
    simp only []
    generalize ρ x = C at this
    unfold evPart at h1
    split at h1
    · cases this
      rename_i A hl hA
      split at h1
      · rename_i fs hfs
        split at h1
        · rename_i fd hfd
          obtain ⟨V, g1, g2⟩ := run_part h1 ⟨hl, hA⟩ w
          exact ⟨V, run_v (by simp [Instr.field, run_und hfs, hfd, asAgg, g1]), g2⟩
        · cases h1
      · cases h1
    · cases h1
  · cases h
theorem ok_fieldAddr {T : Tr AV} {H : Tr AO} {nx : Nat} {o : Oper} {u : Ou} {t : TypeId} {x : Operand} {f : Nat} (ho : o.op = .fieldAddr t x f) (h : evOp P T H nx (.fieldAddr t x f) = some (.ok u)) : Goal P T H nx o u := by
  simp only [evOp] at h
  split at h
  · rename_i v0 hx
    obtain ⟨v, h1, hu⟩ := lift_inv h
    refine goal_pure hu fun X m ρ w hr hp => ?_
    have := hr x _ (by rw [ho]; simp [Op.operands]) hx
    unfold execOp; rw [ho]
    simp only []
    generalize ρ x = C at this
    unfold evField at h1
    split at h1
    · rename_i r off
      cases this
      rename_i L hL
      split at h1
      · rename_i fs hfs
        split at h1
        · rename_i fd hfd
          split at h1
          · rename_i n hn
            split at h1
            · cases h1
            · rename_i hz
              cases h1
              refine ⟨_, run_v (V := .pointer (some ⟨L.block, L.base + (off + fd.offset), none⟩)) ?_, .p _ _ L hL⟩
              have hz' := beq_f hz
              simp [Instr.fieldAt, run_und hfs, hfd, Instr.sureAddr, fieldPlace, run_size hn, hz', add_none, Nat.add_assoc]
          · cases h1
        · cases h1
      · cases h1
    · cases h1
  · cases h
theorem ok_indexAddr {T : Tr AV} {H : Tr AO} {nx : Nat} {o : Oper} {u : Ou} {t : TypeId} {x i : Operand} (ho : o.op = .indexAddr t x i) (h : evOp P T H nx (.indexAddr t x i) = some (.ok u)) : Goal P T H nx o u := by
  simp only [evOp] at h
  split at h
  · rename_i v0 k0 hx hi
    obtain ⟨v, h1, hu⟩ := lift_inv h
    refine goal_pure hu fun X m ρ w hr hp => ?_
    have hX := hr x _ (by rw [ho]; simp [Op.operands]) hx
    have hI := hr i _ (by rw [ho]; simp [Op.operands]) hi
    unfold execOp; rw [ho]
    simp only []
    generalize ρ x = C at hX
    generalize ρ i = D at hI
    unfold evIndexA at h1
    split at h1
    · rename_i q n
      cases hI
      split at h1
      · rename_i len e r off hd
        cases hX
        rename_i L hL
        split at h1
        · rename_i k z hk hz
          cases h1
          obtain ⟨rfl, hlt⟩ := inB_t hk
          refine ⟨_, run_v (V := .pointer (some ⟨L.block, L.base + (off + k * z), none⟩)) ?_, .p _ _ L hL⟩
          simp [Instr.indexAt, asIntOf, run_und hd, Instr.sureAddr, run_size hz, hlt, add_none, Nat.add_assoc]
        · cases h1
      · rename_i e r off len c rel hd
        have key : ∀ L, m r = some L → ∀ cp, C = .slice (some ⟨L.block, L.base + off, none⟩) len cp → ∃ V, (Instr.indexAt t C (.int q n) >>= fun y => (pure (Next.value y) : Sem Next)).run P w = .ok (.value V) w ∧ Rel m v V := by
          intro L hL cp hC
          subst hC
          split at h1
          · rename_i k z hk hz
            cases h1
            obtain ⟨rfl, hlt⟩ := inB_t hk
            refine ⟨_, run_v (V := .pointer (some ⟨L.block, L.base + (off + k * z), none⟩)) ?_, .p _ _ L hL⟩
            simp [Instr.indexAt, asIntOf, run_und hd, run_size hz, hlt, add_none, Nat.add_assoc]
          · cases h1
        cases hX
        · rename_i L hL; exact key L hL _ rfl
        · rename_i L hL hn; exact key L hL _ rfl
      · cases h1
    · cases h1
  · cases h
theorem ok_index {T : Tr AV} {H : Tr AO} {nx : Nat} {o : Oper} {u : Ou} {t : TypeId} {x i : Operand} (ho : o.op = .index t x i) (h : evOp P T H nx (.index t x i) = some (.ok u)) : Goal P T H nx o u := by
  simp only [evOp] at h
  split at h
  · rename_i v0 k0 hx hi
    obtain ⟨v, h1, hu⟩ := lift_inv h
    refine goal_pure hu fun X m ρ w hr hp => ?_
    have hX := hr x _ (by rw [ho]; simp [Op.operands]) hx
    have hI := hr i _ (by rw [ho]; simp [Op.operands]) hi
    unfold execOp; rw [ho]
    simp only []
    generalize ρ x = C at hX
    generalize ρ i = D at hI
    unfold evIndex at h1
    split at h1
    · rename_i q n
      cases hI
      split at h1
      · rename_i len e l hd
        cases hX
        rename_i A hl hA
        split at h1
        · rename_i k z hk hz
          obtain ⟨rfl, hlt⟩ := inB_t hk
          obtain ⟨V, g1, g2⟩ := run_part h1 ⟨hl, hA⟩ w
          exact ⟨V, run_v (by simp [Instr.index, asIntOf, run_und hd, run_size hz, hlt, g1]), g2⟩
        · cases h1
      · rename_i l hd
        cases hX
        rename_i S hS
        split at h1
        · rename_i k hk
          split at h1
          · rename_i c hc
            cases h1
            obtain ⟨rfl, hlt⟩ := inB_t hk
            have hget : S[k]? = some c := by
              rw [← hS] at hc
              have hk2 := (List.getElem?_eq_some_iff.1 hc)
              obtain ⟨h3, h4⟩ := hk2
              have h5 : k < S.size := by rw [Array.length_toList] at h3; exact h3
              rw [getElem?_pos S k h5, ← h4]
              rfl
            refine ⟨_, run_v (V := .int .u8 c.toNat) ?_, .i _ _⟩
            have e : (if (0 : Int) ≤ (k : Int) then S[((k : Int)).toNat]? else none) = some c := by rw [if_pos (by omega), Int.toNat_natCast]; exact hget
            simp only [Instr.index, asIntOf, Sem.run_bind, Sem.run_pure, Result.andThen_ok, run_und hd, e]
          · cases h1
        · cases h1
      · cases h1
    · cases h1
  · cases h
theorem nilAhead_ok {t : TypeId} {v : AV} {name : String} {m : Mp} {V : Value} (h : evNilS P t v name = true) (hv : Rel m v V) (n : Nat) (w : World) : (nilAhead (n + 1) t V name).run P w = .ok (some false) w := by
  unfold evNilS at h
  split at h
  · rename_i i hi
    split at h
    · rename_i mm hm
      split at h
      · rename_i hp
        split at h
        · rename_i g b hf
          split at h
          · simp [nilAhead, run_info hi, hm, hp, followBlind, hf]
          · unfold evNilT at h
            split at h
            · rename_i e hu
              split at h
              · cases hv
                simp [nilAhead, run_info hi, hm, hp, followBlind, hf, run_und hu]
              · cases h
            · rename_i d hd hu
              have : ∀ e, d ≠ .pointer e := fun e h => hd e (by rw [h])
              cases d <;> simp [nilAhead, run_info hi, hm, hp, followBlind, hf, run_und hu] at this ⊢
            · cases h
        · cases h
      · cases h
    · cases h
  · cases h
theorem ok_nilCheck {T : Tr AV} {H : Tr AO} {nx : Nat} {o : Oper} {u : Ou} {x : Operand} (ho : o.op = .nilCheck x) (h : evOp P T H nx (.nilCheck x) = some (.ok u)) : Goal P T H nx o u := by
  simp only [evOp] at h
  split at h
  · rename_i r off hx
    refine goal_pure (pure_inv h) fun X m ρ w hr hp => ?_
    have := hr x _ (by rw [ho]; simp [Op.operands]) hx
    unfold execOp; rw [ho]; simp only []
    generalize ρ x = C at this
    cases this
    rename_i L hL
    exact ⟨_, rfl, .p _ _ L hL⟩
  · rename_i f a b hx
    refine goal_pure (pure_inv h) fun X m ρ w hr hp => ?_
    have := hr x _ (by rw [ho]; simp [Op.operands]) hx
    unfold execOp; rw [ho]; simp only []
    generalize ρ x = C at this
    cases this with
    | f _ _ _ A B ha hb h1 h2 => exact ⟨_, rfl, .f _ _ _ A B ha hb h1 h2⟩
  · rename_i t v hx
    refine goal_pure (pure_inv h) fun X m ρ w hr hp => ?_
    have := hr x _ (by rw [ho]; simp [Op.operands]) hx
    unfold execOp; rw [ho]; simp only []
    generalize ρ x = C at this
    cases this
    rename_i V hV
    exact ⟨_, rfl, .it _ _ V hV⟩
  · rename_i name a b hx
    cases a with
    | nil => simp [evNilM] at h
    | cons y a => cases y with
      | it t v =>
        simp only [evNilM] at h
        split at h
        · rename_i hs
          refine goal_pure (pure_inv h) fun X m ρ w hr hp => ?_
          have := hr x _ (by rw [ho]; simp [Op.operands]) hx
          unfold execOp; rw [ho]; simp only []
          generalize ρ x = C at this
          cases this with
          | f _ _ _ A B ha hb h1 h2 =>
            refine ⟨_, ?_, .f _ _ _ A B ha hb h1 h2⟩
            have hl : RelL m (.it t v :: a) A.toList := ⟨ha, h1⟩
            obtain ⟨V, A', e, hv, _⟩ := hl.cons_inv
            cases hv
            rename_i V' hV'
            have e0 : A[0]? = some (.iface t V') := by rw [← Array.getElem?_toList, e]; rfl
            have hk := nilAhead_ok hs hV' (P.types.size + 99) w
            simp only [e0]
            have e1 : P.types.size + Made.depth = P.types.size + 99 + 1 := rfl
            simp only [Sem.run_bind, run_program, Result.andThen_ok, e1, hk]
            simp
        · cases h
      | _ => simp [evNilM] at h
  · cases h
theorem ok_makeInterface {T : Tr AV} {H : Tr AO} {nx : Nat} {o : Oper} {u : Ou} {t : TypeId} {x : Operand} (ho : o.op = .makeInterface t x) (h : evOp P T H nx (.makeInterface t x) = some (.ok u)) : Goal P T H nx o u := by
  simp only [evOp] at h
  split at h
  · cases h
  · rename_i v d hn hx hd
    refine goal_pure (pure_inv h) fun X m ρ w hr hp => ⟨.iface t (ρ x), ?_, .it _ _ _ (hr x _ (by rw [ho]; simp [Op.operands]) hx)⟩
    unfold execOp; rw [ho]; simp only []
    refine run_v ?_
    simp only [Instr.makeInterface, Sem.run_bind, run_und hd, Result.andThen_ok]
    rfl
  · cases h
theorem evArgs_rel {m : Mp} {T : Tr AV} {ρ : Operand → Value} : ∀ {l : List Operand} {r : List AV}, evArgs T l = some r → (∀ x v, x ∈ l → evx T x = some v → Rel m v (ρ x)) → RelL m r (l.map ρ)
  | [], r, h, _ => by simp [evArgs, allSome] at h; subst h; exact .nil m
  | x :: l, r, h, hr => by
    simp only [evArgs, allSome] at h
    split at h
    · rename_i y ys h1 h2
      cases h
      exact .cons (hr x y (by simp) h1) (evArgs_rel (l := l) h2 fun z v hz => hr z v (by simp [hz]))
    · cases h
theorem ok_makeFunc {T : Tr AV} {H : Tr AO} {nx : Nat} {o : Oper} {u : Ou} {fn : Fn} {a b : Array Operand} (ho : o.op = .makeFunc fn a b) (h : evOp P T H nx (.makeFunc fn a b) = some (.ok u)) : Goal P T H nx o u := by
  simp only [evOp] at h
  split at h
  · rename_i l1 l2 h1 h2
    refine goal_pure (pure_inv h) fun X m ρ w hr hp => ⟨.func fn (a.map ρ) (b.map ρ), ?_, .f_of ?_ ?_⟩
    · unfold execOp; rw [ho]; rfl
    · rw [Array.toList_map]; exact evArgs_rel h1 fun x v hx => hr x v (by rw [ho]; simp [Op.operands]; exact .inl (by simpa using hx))
    · rw [Array.toList_map]; exact evArgs_rel h2 fun x v hx => hr x v (by rw [ho]; simp [Op.operands]; exact .inr (by simpa using hx))
  · cases h
end
end Go.Ev
namespace Go.Ev
open Go
set_option linter.unusedVariables false
set_option linter.unusedSimpArgs false
set_option linter.unusedSectionVars false
variable [Env]
theorem bnd_i {x : Option AV} {X : Option Value} {m : Mp} {d most k : Nat} (h : bnd x d most = some k) (hx : ∀ v, x = some v → ∃ V, X = some V ∧ Rel m v V) (hn : x = none → X = none) :
    (X = none ∧ k = d ∧ x = none) ∨ ∃ q, X = some (.int q (k : Int)) ∧ k ≤ most := by
  unfold bnd at h
  split at h
  · cases h; exact .inl ⟨hn rfl, rfl, rfl⟩
  · rename_i q i
    obtain ⟨V, h1, h2⟩ := hx _ rfl
    cases h2
    obtain ⟨rfl, h3⟩ := inB_t h
    exact .inr ⟨q, h1, by omega⟩
  · cases h
section
variable {P : Program}
theorem run_sliceBound (q : IntKind) (k y : Nat) (code : BoundsCode) (h : k ≤ y) (w : World) : (Instr.sliceBound (.int q (k : Int)) y code).run P w = .ok k w := by
  have : (0 : Int) ≤ k ∧ (k : Int) ≤ y := ⟨by omega, by omega⟩
  simp [Instr.sliceBound, asIntOf, this, h]
def RelO (m : Mp) (x : Option AV) (X : Option Value) : Prop := (x = none → X = none) ∧ ∀ v, x = some v → ∃ V, X = some V ∧ Rel m v V
theorem run_bnds {m : Mp} {n c' c a h q : Nat} {lo hi mx : Option AV} {LO HI MX : Option Value} (e : bnds n c' lo hi mx = some (a, h, q)) (hc : c' ≤ c) (h1 : RelO m lo LO) (h2 : RelO m hi HI) (h3 : RelO m mx MX) (b : Bool) (w : World) :
    ∃ q', (Instr.sliceBounds b n c LO HI MX).run P w = .ok (a, h, q') w ∧ a ≤ h ∧ (h ≤ c' ∨ h = n) ∧ (mx = none → q' = c ∧ q = c') ∧ (mx ≠ none → q' = q ∧ h ≤ q ∧ q ≤ c') := by
  unfold bnds at e
  split at e
  · have e3 := h3.1 rfl
    subst e3
    split at e
    · rename_i h' eh
      split at e
      · rename_i l el
        cases e
        have gl : (LO = none ∧ a = 0 ∧ lo = none) ∨ ∃ q', LO = some (.int q' (a : Int)) ∧ a ≤ h := bnd_i el h1.2 h1.1
        have gh : (HI = none ∧ h = n ∧ hi = none) ∨ ∃ q', HI = some (.int q' (h : Int)) ∧ h ≤ c' := bnd_i eh h2.2 h2.1
        refine ⟨c, ?_, ?_, ?_, fun _ => ⟨rfl, rfl⟩, fun e => absurd rfl e⟩
        · rcases gl with ⟨rfl, rfl, _⟩ | ⟨ql, rfl, hl⟩ <;> rcases gh with ⟨rfl, rfl, eh0⟩ | ⟨qh, rfl, hh⟩
          · simp [Instr.sliceBounds]
          · simp [Instr.sliceBounds, run_sliceBound _ _ _ _ (Nat.le_trans hh hc)]
          · simp [Instr.sliceBounds, run_sliceBound _ _ _ _ hl]
          · simp [Instr.sliceBounds, run_sliceBound _ _ _ _ hl, run_sliceBound _ _ _ _ (Nat.le_trans hh hc)]
        · rcases gl with ⟨_, rfl, _⟩ | ⟨_, _, hl⟩
          · exact Nat.zero_le _
          · exact hl
        · rcases gh with ⟨_, rfl, _⟩ | ⟨_, _, hh⟩
          · exact .inr rfl
          · exact .inl hh
      · cases e
    · cases e
  · rename_i x
    split at e
    · rename_i y q' eq
      split at e
      · rename_i h' eh
        split at e
        · rename_i l el
          cases e
          have gl : (LO = none ∧ a = 0 ∧ lo = none) ∨ ∃ q', LO = some (.int q' (a : Int)) ∧ a ≤ h := bnd_i el h1.2 h1.1
          have gh : (HI = none ∧ h = 0 ∧ some y = none) ∨ ∃ q', HI = some (.int q' (h : Int)) ∧ h ≤ q := bnd_i eh h2.2 h2.1
          have gq : (MX = none ∧ q = 0 ∧ some x = none) ∨ ∃ q', MX = some (.int q' (q : Int)) ∧ q ≤ c' := bnd_i eq h3.2 h3.1
          rcases gh with ⟨_, _, e0⟩ | ⟨qh, rfl, hh⟩
          · cases e0
          rcases gq with ⟨_, _, e0⟩ | ⟨qq, rfl, hq⟩
          · cases e0
          refine ⟨q, ?_, ?_, .inl (Nat.le_trans hh hq), (fun e => by cases e), fun _ => ⟨rfl, hh, hq⟩⟩
          · rcases gl with ⟨rfl, rfl, _⟩ | ⟨ql, rfl, hl⟩
            · simp [Instr.sliceBounds, run_sliceBound _ _ _ _ hh, run_sliceBound _ _ _ _ (Nat.le_trans hq hc)]
            · simp [Instr.sliceBounds, run_sliceBound _ _ _ _ hl, run_sliceBound _ _ _ _ hh, run_sliceBound _ _ _ _ (Nat.le_trans hq hc)]
          · rcases gl with ⟨_, rfl, _⟩ | ⟨_, _, hl⟩
            · exact Nat.zero_le _
            · exact hl
        · cases e
      · cases e
    · cases e
theorem mx_rel {m : Mp} {T : Tr AV} {ρ : Operand → Value} {x : Option Operand} {v : Option AV} (h : evMx T x = some v) (hr : ∀ y z, x = some y → evx T y = some z → Rel m z (ρ y)) : RelO m v (x.map ρ) := by
  unfold evMx at h
  split at h
  · cases h; exact ⟨fun _ => rfl, fun v e => by cases e⟩
  · rename_i y
    split at h
    · rename_i z hz
      cases h
      exact ⟨(fun e => by cases e), (fun v e => by cases e; exact ⟨ρ y, rfl, hr y _ rfl hz⟩)⟩
    · cases h
theorem sl_at (b : Nat) (a q o z : Nat) : (if q = a then (Addr.mk b o none) else (Addr.mk b o none).add (a * z)) = ⟨b, (match Nat.beq q a with | true => o | false => o + a * z), none⟩ := by
  cases e : Nat.beq q a with
  | true => rw [if_pos (beq_t e)]
  | false => rw [if_neg (beq_f e), add_none]
theorem sl_at' (b : Nat) (a q o z : Nat) (B : Nat) : (if q = a then (Addr.mk b (B + o) none) else (Addr.mk b (B + o) none).add (a * z)) = ⟨b, B + (match Nat.beq q a with | true => o | false => o + a * z), none⟩ := by
  rw [sl_at]; cases Nat.beq q a <;> simp [Nat.add_assoc]
theorem slice_run {t e : TypeId} {z n c a h q : Nat} {A : Addr} {LO HI MX : Option Value} {w : World} (hd : P.underlying t = some (.slice e)) (hz : szO P e = some z) (g : (Instr.sliceBounds true n c LO HI MX).run P w = .ok (a, h, q) w) :
    (Instr.sliceAt t (.slice (some A) n c) LO HI MX).run P w = .ok (.slice (some (if q = a then A else A.add (a * z))) (h - a) (q - a)) w := by
  simp only [Instr.sliceAt, Instr.slice, Sem.run_bind, run_und hd, Result.andThen_ok, g, run_size hz, Sem.run_pure]
  by_cases e : q = a
  · simp [e]
  · simp [e]
theorem slice_ok {t : TypeId} {x v : AV} {lo hi mx : Option AV} (h : evSlice P t x lo hi mx = some v) {m : Mp} {X : Value} {LO HI MX : Option Value} (hx : Rel m x X) (h1 : RelO m lo LO) (h2 : RelO m hi HI) (h3 : RelO m mx MX) (w : World) :
    ∃ V, (Instr.sliceAt t X LO HI MX).run P w = .ok V w ∧ Rel m v V := by
  unfold evSlice at h
  split at h
  · rename_i l hd
    cases hx
    rename_i S hS
    split at h
    · rename_i a hh _ e
      cases h
      have e3 := h3.1 rfl
      subst e3
      obtain ⟨q', g, ga, gh, _, _⟩ := run_bnds (P := P) e (Nat.le_refl _) h1 h2 (⟨fun _ => rfl, fun v e => by cases e⟩ : RelO m none none) false w
      have hsz : S.size = l.length := by rw [← hS, Array.length_toList]; rfl
      refine ⟨.string (S.extract a hh), ?_, .s _ _ ?_⟩
      · rw [← hsz] at g
        simp [Instr.sliceAt, Instr.slice, run_und hd, g]
      · rw [← hS]
        simp [ByteArray.data_extract, List.extract_eq_take_drop]
    · cases h
  · rename_i e0 hd
    cases hx
    split at h
    · rename_i z p hz e
      obtain ⟨a, hh, q⟩ := p
      cases h
      obtain ⟨q', g, ga, gh, g1, g2⟩ := run_bnds (P := P) e (Nat.le_refl _) h1 h2 h3 true w
      have hh0 : hh = 0 := by omega
      have hq0 : q' = 0 := by
        cases mx with
        | none => exact (g1 rfl).1
        | some x => have := g2 (by simp); omega
      have ha0 : a = 0 := by omega
      subst hq0; subst hh0; subst ha0
      exact ⟨_, by simp [Instr.sliceAt, Instr.slice, run_und hd, g, run_size hz], .ns⟩
    · cases h
  · rename_i e0 r o n c hd
    cases hx
    rename_i L hL
    split at h
    · rename_i z a hh q hz e
      cases h
      obtain ⟨q', g, ga, gh, g1, g2⟩ := run_bnds (P := P) e (Nat.le_refl _) h1 h2 h3 true w
      have hq : q' = q := by
        cases mx with
        | none => have := g1 rfl; omega
        | some x => exact (g2 (by simp)).1
      subst hq
      refine ⟨_, slice_run hd hz g, ?_⟩
      rw [sl_at']
      exact .sl _ _ _ _ L hL
    · cases h
  · rename_i e0 r o n c hd
    cases hx
    rename_i L hL hn
    split at h
    · rename_i z a hh q hz e
      obtain ⟨q', g, ga, gh, g1, g2⟩ := run_bnds (P := P) (c := L.cap - c) e (by omega) h1 h2 h3 true w
      split at h
      · split at h
        · rename_i hb
          cases h
          have hlt := blt_t hb
          obtain ⟨rfl, hq⟩ := g1 rfl
          refine ⟨_, slice_run hd hz g, ?_⟩
          rw [if_neg (by omega), add_none, Nat.add_assoc, show L.cap - c - a = L.cap - (c + a) by omega]
          exact .slr _ _ _ _ L hL (by omega)
        · cases h
      · cases h
        obtain ⟨rfl, hq1, hq2⟩ := g2 (by simp)
        refine ⟨_, slice_run hd hz g, ?_⟩
        rw [sl_at']
        exact .sl _ _ _ _ L hL
    · cases h
  · rename_i n e0 r o hd
    cases hx
    rename_i L hL
    split at h
    · rename_i z a hh q hz e
      cases h
      obtain ⟨q', g, ga, gh, g1, g2⟩ := run_bnds (P := P) e (Nat.le_refl _) h1 h2 h3 false w
      have hq : q' = q := by
        cases mx with
        | none => have := g1 rfl; omega
        | some x => exact (g2 (by simp)).1
      subst hq
      refine ⟨.slice (some (if q' = a then (Addr.mk L.block (L.base + o) none) else (Addr.mk L.block (L.base + o) none).add (a * z))) (hh - a) (q' - a), ?_, ?_⟩
      · simp only [Instr.sliceAt, Sem.run_bind, run_und hd, Result.andThen_ok, g, run_size hz, Sem.run_pure, Instr.sureAddr]
      · rw [sl_at']; exact .sl _ _ _ _ L hL
    · cases h
  · cases h
theorem ok_slice {T : Tr AV} {H : Tr AO} {nx : Nat} {o : Oper} {u : Ou} {t : TypeId} {x : Operand} {lo hi mx : Option Operand} (ho : o.op = .slice t x lo hi mx) (h : evOp P T H nx (.slice t x lo hi mx) = some (.ok u)) : Goal P T H nx o u := by
  simp only [evOp] at h
  split at h
  · rename_i v0 a b c hx h1 h2 h3
    obtain ⟨v, hv, hu⟩ := lift_inv h
    refine goal_pure hu fun X m ρ w hr hp => ?_
    obtain ⟨V, g1, g2⟩ := slice_ok hv (hr x _ (by rw [ho]; simp [Op.operands]) hx) (mx_rel h1 fun y z e hz => hr y z (by rw [ho]; subst e; simp [Op.operands]) hz)
      (mx_rel h2 fun y z e hz => hr y z (by rw [ho]; subst e; simp [Op.operands]) hz) (mx_rel h3 fun y z e hz => hr y z (by rw [ho]; subst e; simp [Op.operands]) hz) w
    refine ⟨V, ?_, g2⟩
    unfold execOp; rw [ho]
    exact run_v g1
  · cases h
/-! Comparison and arithmetic. -/
theorem noIf_ok : ∀ (d : Nat) (t : TypeId), noIf P d t = true → ∀ D, d ≤ D → P.eqGuardType D t = false
  | 0, t, h, D, hD => by simp [noIf] at h
  | d + 1, t, h, D, hD => by
    obtain ⟨D, rfl⟩ : ∃ E, D = E + 1 := ⟨D - 1, by omega⟩
    simp only [noIf] at h
    simp only [Program.eqGuardType]
    split at h
    · cases h
    · rename_i fs hf
      rw [hf]
      simp only []
      rw [Bool.eq_false_iff]
      intro hc
      rw [Array.any_eq_true'] at hc
      obtain ⟨f, hf1, hf2⟩ := hc
      have h3 := List.all_eq_true.1 h f (by simpa using hf1)
      simp only [Bool.and_eq_true, bne_iff_ne, ne_eq] at hf2
      simp only [Bool.or_eq_true, beq_iff_eq] at h3
      rcases h3 with h3 | h3
      · exact hf2.1 h3
      · have := noIf_ok d f.type h3 D (by omega)
        rw [this] at hf2; cases hf2.2
    · rename_i n e hf
      rw [hf]
      exact noIf_ok d e h D (by omega)
    · rename_i n1 n2 n3
      cases hu : P.underlying t with
      | none => rfl
      | some d' =>
        cases d' <;> first
          | rfl
          | exact absurd hu (n1 _)
          | exact absurd hu (n2 _)
          | exact absurd hu (n3 _ _)
set_option maxHeartbeats 2000000 in
theorem evEq_ok : ∀ (d : Nat) (t : TypeId) (x y : AV) (b : Bool), evEq P d t x y = some b → ∀ (m : Mp) (X Y : Value), Rel m x X → Rel m y Y → ∀ D, d ≤ D → ∀ w, (Op.equalIn D t X Y).run P w = .ok b w
  | 0, t, x, y, b, h => by simp [evEq] at h
  | d + 1, t, x, y, b, h => by
    intro m X Y hx hy D hD w
    obtain ⟨D, rfl⟩ : ∃ E, D = E + 1 := ⟨D - 1, by omega⟩
    have go : ∀ (fl : List Field) (p q : List AV) (A B : Array Value) (b : Bool), eqFl P (evEq P d) p q fl = some b → RelL m p A.toList → RelL m q B.toList → ∀ w, (Op.eqFields D A B fl).run P w = .ok b w := by
      intro fl
      induction fl with
      | nil => intro p q A B b h _ _ w; simp [eqFl] at h; subst h; simp [Op.eqFields]
      | cons f fl ih =>
        intro p q A B b h hA hB w
        simp only [eqFl] at h
        split at h
        · rename_i hn
          have hn' : f.name = "_" := by simpa using hn
          simp only [Op.eqFields, hn', ne_eq, not_true_eq_false, if_false]
          exact ih p q A B b h hA hB w
        · rename_i hn
          have hn' : f.name ≠ "_" := by simpa using hn
          split at h
          · rename_i x1 y1 e1 e2
            obtain ⟨V1, g1, r1⟩ := run_part e1 hA w
            obtain ⟨V2, g2, r2⟩ := run_part e2 hB w
            split at h
            · rename_i e3
              have g3 := evEq_ok d f.type x1 y1 true e3 m V1 V2 r1 r2 D (by omega) w
              simp only [Op.eqFields, if_pos hn', Sem.run_bind, g1, g2, g3, Result.andThen_ok, Bool.not_true, Bool.false_eq_true, if_false]
              exact ih p q A B b h hA hB w
            · rename_i e3
              cases h
              have g3 := evEq_ok d f.type x1 y1 false e3 m V1 V2 r1 r2 D (by omega) w
              simp [Op.eqFields, if_pos hn', Sem.run_bind, g1, g2, g3]
            · cases h
          · cases h
    simp only [evEq] at h
    split at h
    · rename_i hd; cases hx; cases hy; cases h; simp [Op.equalIn, run_und hd]
    · rename_i hd; cases hx; cases hy
      split at h
      · rename_i e; subst e; cases h; simp [Op.equalIn, run_und hd, ieq_eq]
      · cases h
    · rename_i hd; cases hx; cases hy
      rename_i n h1 h2
      split at h
      · rename_i e; subst e
        have hne : ∀ {lo hi q : Int}, rngNe lo hi q = some b → lo ≤ n → n ≤ hi → b = false ∧ n ≠ q := by
          intro lo hi q h a1 a2
          unfold rngNe at h
          split at h
          · rename_i e; rw [ile_eq, decide_eq_false_iff_not] at e; cases h; exact ⟨rfl, by omega⟩
          · split at h
            · rename_i e; rw [ile_eq, decide_eq_false_iff_not] at e; cases h; exact ⟨rfl, by omega⟩
            · cases h
        obtain ⟨rfl, hq⟩ := hne h h1 h2
        simp [Op.equalIn, run_und hd, hq]
      · cases h
    · rename_i hd; cases hx; cases hy; cases h
      rename_i S1 h1 S2 h2
      simp only [Op.equalIn, Sem.run_bind, run_und hd, Result.andThen_ok, Sem.run_pure]
      rw [seq'_eq, beq_toListBytes, ByteArray.toList_eq, ByteArray.toList_eq, h1, h2]
    · rename_i hd; cases hx; cases hy; cases h; simp [Op.equalIn, run_und hd]
    · rename_i hd; cases hx; cases hy; cases h; simp [Op.equalIn, run_und hd]
    · rename_i hd; cases hx; cases hy; cases h; simp [Op.equalIn, run_und hd]
    · rename_i hd; cases hx; cases hy; cases h; simp [Op.equalIn, run_und hd]
    · rename_i hd; cases hx; cases hy <;> (cases h; simp [Op.equalIn, run_und hd])
    · rename_i hd; cases hy; cases hx <;> (cases h; simp [Op.equalIn, run_und hd])
    · rename_i hd; cases hx; cases hy; cases h; simp [Op.equalIn, run_und hd]
    · rename_i hd; cases hx; cases hy; cases h; simp [Op.equalIn, run_und hd]
    · rename_i hd; cases hx; cases hy; cases h; simp [Op.equalIn, run_und hd]
    · rename_i hd; cases hx; cases hy; cases h; simp [Op.equalIn, run_und hd]
    · rename_i hd; cases hx; cases hy; cases h; simp [Op.equalIn, run_und hd]
    · rename_i hd; cases hx; cases hy; cases h; simp [Op.equalIn, run_und hd]
    · rename_i hd; cases hx; cases hy; cases h; simp [Op.equalIn, run_und hd]
    · rename_i hd; cases hx; cases hy; cases h; simp [Op.equalIn, run_und hd]
    · rename_i fs p q hd
      cases hx; cases hy
      rename_i A ha1 ha2 B hb1 hb2
      split at h
      · cases h
      · rename_i hs
        have hf : P.fieldsOf t = fs := by simp [Program.fieldsOf, hd]
        rw [run_equalIn_struct w D t A B (by rw [hf]; exact hd) hs, hf]
        exact go fs.toList p q A B b h ⟨ha1, ha2⟩ ⟨hb1, hb2⟩ w
    · cases h
theorem equal_ok {d : Nat} {t : TypeId} {x y : AV} {b : Bool} (h : evEq P d t x y = some b) (hd : d ≤ 10000) {m : Mp} {X Y : Value} (hx : Rel m x X) (hy : Rel m y Y) (w : World) : (Op.equal t X Y).run P w = .ok b w :=
  evEq_ok d t x y b h m X Y hx hy 10000 hd w
end
end Go.Ev
