/- The evaluator's operations are the model's: what reads, and makes, and writes rows. Plain lemmas. -/
import Derived.Test.YthfkgdjekmebgaaGreatDoorEv2
namespace Go.Ev
open Go
set_option linter.unusedVariables false
set_option linter.unusedSimpArgs false
set_option linter.unusedSectionVars false
variable [Env]

theorem bit_tb (r k : Nat) : (bit r).testBit k = decide (k = r) := by
  unfold bit
  show (1 <<< r).testBit k = _
  rw [Nat.one_shiftLeft, Nat.testBit_two_pow]
  exact decide_eq_decide.2 ⟨fun h => h.symm, fun h => h.symm⟩
theorem bit_self (r : Nat) : (bit r).testBit r = true := by simp [bit_tb]
theorem or_l {a b k : Nat} (h : a.testBit k = true) : (a ||| b).testBit k = true := by simp [Nat.testBit_or, h]
theorem or_r {a b k : Nat} (h : b.testBit k = true) : (a ||| b).testBit k = true := by simp [Nat.testBit_or, h]

section
variable {P : Program}
theorem run_info {t : TypeId} {i : TypeInfo} (h : P.info? t = some i) (w : World) : (typeInfo t).run P w = .ok i w := by
  simp [typeInfo, h]
theorem run_und {t : TypeId} {d : TypeDesc} (h : P.underlying t = some d) (w : World) : (underlying t).run P w = .ok d w := by
  simp [underlying, h]
theorem info_of_sz {t : TypeId} {n : Nat} (h : szO P t = some n) : ∃ i, P.info? t = some i ∧ i.size = n := by
  unfold szO at h
  split at h
  · rename_i i hi; cases h; exact ⟨i, hi, rfl⟩
  · cases h
theorem run_size {t : TypeId} {n : Nat} (h : szO P t = some n) (w : World) : (sizeOf t).run P w = .ok n w := by
  obtain ⟨i, hi, hn⟩ := info_of_sz h
  simp [sizeOf, run_info hi, hn]
theorem run_zero {t : TypeId} {z : AV} (h : zero P t = some z) : ∃ V, absV V = some z ∧ ∀ w, (zeroValue t).run P w = .ok V w := by
  unfold zero at h
  split at h
  · rename_i i hi
    split at h
    · rename_i V hV
      exact ⟨V, h, fun w => by simp [zeroValue, run_info hi, hV]⟩
    · cases h
  · cases h
theorem run_isA {t : TypeId} {b : Bool} (h : isA P t = some b) (w : World) : (isAgg t).run P w = .ok b w := by
  unfold isA at h
  split at h <;> try (cases h)
  · rename_i fs hf; simp [isAgg, run_und hf]
  · rename_i n e hf; simp [isAgg, run_und hf]
  · rename_i d n1 n2 hf
    simp only [isAgg, Sem.run_bind, run_und hf, Result.andThen_ok]
    rfl
theorem cut_eq {l xs : List AV} {off n : Nat} (h : cut l off n = some xs) : xs = (l.drop off).take n ∧ xs.length = n := by
  unfold cut at h
  simp only [] at h
  split at h
  · rename_i hb; cases h; exact ⟨rfl, beq_t hb⟩
  · cases h
theorem cut_rel {m : Mp} {l xs : List AV} {A : List Value} {off n : Nat} (h : cut l off n = some xs) (hA : RelL m l A) : RelL m xs ((A.drop off).take n) := by
  rw [(cut_eq h).1]; exact (hA.drop off).take n
theorem ext_list (A : Array Value) (a n : Nat) : (A.extract a (a + n)).toList = (A.toList.drop a).take n := by
  simp [List.extract_eq_take_drop]
theorem run_part {t : TypeId} {l : List AV} {off : Nat} {v : AV} {m : Mp} {A : Array Value} (h : partA P t l off = some v) (hA : RelL m l A.toList) (w : World) :
    ∃ V, (part t A off).run P w = .ok V w ∧ Rel m v V := by
  unfold partA at h
  split at h
  · rename_i hi
    split at h
    · rename_i n hn
      split at h
      · rename_i xs hx
        cases h
        refine ⟨.agg (A.extract off (off + n)), by simp [part, run_isA hi, run_size hn], .a_of ?_⟩
        rw [ext_list]; exact cut_rel hx hA
      · cases h
    · cases h
  · rename_i hi
    obtain ⟨V, h1, h2⟩ := hA.get h
    refine ⟨V, ?_, h2⟩
    have : A[off]? = some V := by rw [← Array.getElem?_toList]; exact h1
    simp [part, run_isA hi, this]
  · cases h

/-! Rows. -/
theorem add_none (b o i : Nat) : (Addr.mk b o none).add i = ⟨b, o + i, none⟩ := by
  unfold Addr.add; split
  · rename_i h; subst h; rfl
  · rfl
theorem cell_at {w : World} {b : Nat} {C : Array Value} {e : TypeId} {fr : Nat × Nat} (hg : w.heap[b]? = some (.cells C e fr)) (k : Nat) : w.cell? ⟨b, k, none⟩ = C[k]? := by
  simp [World.cell?, hg]
theorem run_loadFrom {w : World} {b off : Nat} {C : Array Value} {e : TypeId} {fr : Nat × Nat} (hg : w.heap[b]? = some (.cells C e fr)) :
    ∀ (n i : Nat) (acc : Array Value), off + i + n ≤ C.size → (loadCellsFrom ⟨b, off, none⟩ i n acc).run P w = .ok (acc ++ C.extract (off + i) (off + i + n)) w
  | 0, i, acc, h => by
    simp [loadCellsFrom]
    omega
  | n + 1, i, acc, h => by
    have hk : off + i < C.size := by omega
    have h1 : w.cell? ⟨b, off + i, none⟩ = some C[off + i] := by rw [cell_at hg, Array.getElem?_eq_getElem hk]
    simp only [loadCellsFrom, Sem.run_bind, add_none, run_load, h1, Result.andThen_ok]
    rw [run_loadFrom hg n (i + 1) (acc.push C[off + i]) (by omega)]
    congr 1
    apply Array.ext'
    simp only [Array.toList_append, Array.toList_push, ext_list]
    rw [show off + (i + 1) = off + i + 1 by omega]
    rw [show (C.toList.drop (off + i)) = C[off + i] :: C.toList.drop (off + i + 1) from by
      rw [List.drop_eq_getElem_cons (by simpa using hk)]; simp]
    simp
theorem run_loadRow {w : World} {b off n : Nat} {C : Array Value} {e : TypeId} {fr : Nat × Nat} (hg : w.heap[b]? = some (.cells C e fr)) (h : n = 0 ∨ off + n ≤ C.size) :
    (loadCells ⟨b, off, none⟩ n).run P w = .ok (C.extract off (off + n)) w := by
  rcases h with h | h
  · subst h
    simp [loadCells, loadCellsFrom]
    omega
  · have := run_loadFrom (P := P) hg n 0 #[] (by omega)
    simpa [loadCells] using this
theorem run_loadRow0 (a : Addr) (w : World) : (loadCells a 0).run P w = .ok #[] w := rfl
theorem row_le {m : Mp} {l : List AV} {C : Array Value} {base : Nat} (h : ∀ i x, l[i]? = some x → ∃ V, C[base + i]? = some V ∧ Rel m x V) : l = [] ∨ base + l.length ≤ C.size := by
  cases hl : l with
  | nil => exact .inl rfl
  | cons a b =>
    right
    have hi : l.length - 1 < l.length := by rw [hl]; simp
    obtain ⟨V, h1, _⟩ := h (l.length - 1) _ (List.getElem?_eq_getElem hi)
    have := (Array.getElem?_eq_some_iff.1 h1).1
    rw [← hl]; omega
theorem row_cut {m : Mp} {l xs : List AV} {C : Array Value} {base o n : Nat} (h : ∀ i x, l[i]? = some x → ∃ V, C[base + i]? = some V ∧ Rel m x V) (hc : cut l o n = some xs) :
    (n = 0 ∨ base + o + n ≤ C.size) ∧ RelL m xs (C.extract (base + o) (base + o + n)).toList := by
  obtain ⟨h1, h2⟩ := cut_eq hc
  have hle : n = 0 ∨ o + n ≤ l.length := by
    rw [h1] at h2; simp at h2; omega
  have hC : n = 0 ∨ base + o + n ≤ C.size := by
    rcases row_le h with e | e
    · subst e; rcases hle with e | e
      · exact .inl e
      · simp at e; exact .inl e.2
    · rcases hle with e' | e'
      · exact .inl e'
      · right; omega
  refine ⟨hC, ?_, fun i x V hx hV => ?_⟩
  · rw [h2]
    rcases hC with e | e
    · subst e; simp
    · simp; omega
  · have hi : i < n := by
      have := (List.getElem?_eq_some_iff.1 hx).1; omega
    rw [h1, List.getElem?_take, if_pos hi, List.getElem?_drop] at hx
    obtain ⟨V', g1, g2⟩ := h _ _ hx
    rw [ext_list, List.getElem?_take, if_pos hi, List.getElem?_drop, Array.getElem?_toList, show base + o + i = base + (o + i) by omega, g1] at hV
    cases hV; exact g2

/-- What is known where an operation starts. -/
structure Pre (P : Program) (X : Nat → Prop) (m : Mp) (H : Tr AO) (nx : Nat) (u : Ou) (w : World) : Prop where
  rep : RepOn P X m H.get w
  R : ∀ r, u.R.testBit r = true → X r
  fresh : ∀ r, nx ≤ r → r < u.nx → m r = none ∧ ¬ X r
/-- What an operation does. -/
def Does (P : Program) (x : Sem Next) (X : Nat → Prop) (nx : Nat) (u : Ou) (m : Mp) (w : World) : Prop :=
  ∃ m' V w', (x.run P w = .ok (.value V) w' ∨ (x.run P w = .ok .skip w' ∧ V = undef)) ∧ Rel m' u.v V ∧ Mv u.W nx u.nx m w m' w' ∧
    RepOn P (fun r => X r ∨ (nx ≤ r ∧ r < u.nx)) m' u.H.get w'
/-- What an evaluator's step keeps. -/
structure Keep (H : Tr AO) (nx : Nat) (u : Ou) : Prop where
  le : nx ≤ u.nx
  rd : ∀ r, u.R.testBit r = true → H.get r ≠ none
  wr : ∀ r, u.W.testBit r = true → u.R.testBit r = true ∧ H.get r ≠ none
  kp : ∀ r, u.W.testBit r = false → ¬ (nx ≤ r ∧ r < u.nx) → u.H.get r = H.get r
def upd (m : Mp) (r : Nat) (L : Loc) : Mp := fun r' => if r' = r then some L else m r'
theorem upd_ext {m : Mp} {r : Nat} {L : Loc} (h : m r = none) : ∀ r' L', m r' = some L' → upd m r L r' = some L' := by
  intro r' L' e
  unfold upd
  by_cases hr : r' = r
  · subst hr; rw [h] at e; cases e
  · rw [if_neg hr]; exact e
theorem upd_self (m : Mp) (r : Nat) (L : Loc) : upd m r L r = some L := by simp [upd]
theorem live_0 (H : Tr AO) : ∀ r, (0 : Nat).testBit r = true → H.get r ≠ none := fun r h => by simp at h
theorem live_bit {H : Tr AO} {r : Nat} {o : AO} (h : H.get r = some o) : ∀ q, (bit r).testBit q = true → H.get q ≠ none := fun q hq => by
  rw [bit_tb] at hq
  have := of_decide_eq_true hq
  subst this
  rw [h]; simp
theorem live_or {H : Tr AO} {a b : Nat} (ha : ∀ q, a.testBit q = true → H.get q ≠ none) (hb : ∀ q, b.testBit q = true → H.get q ≠ none) : ∀ q, (a ||| b).testBit q = true → H.get q ≠ none := fun q hq => by
  rw [Nat.testBit_or, Bool.or_eq_true] at hq
  exact hq.elim (ha q) (hb q)
theorem keep_pure (H : Tr AO) (nx : Nat) (v : AV) (R : Nat) (hR : ∀ r, R.testBit r = true → H.get r ≠ none) : Keep H nx ⟨v, H, nx, R, 0⟩ := ⟨Nat.le_refl _, hR, fun r h => by simp at h, fun r _ _ => rfl⟩
theorem does_pure {x : Sem Next} {X : Nat → Prop} {H : Tr AO} {nx R : Nat} {v : AV} {m : Mp} {w : World} {V : Value} (hp : Pre P X m H nx ⟨v, H, nx, R, 0⟩ w) (h : x.run P w = .ok (.value V) w) (hv : Rel m v V) :
    Does P x X nx ⟨v, H, nx, R, 0⟩ m w := by
  refine ⟨m, V, w, .inl h, hv, Mv.refl _ _ _, hp.rep.sub P (fun r hr => hr.resolve_right fun e => ?_) fun _ _ => rfl⟩
  have := e.1; have := e.2; simp at this; omega
theorem keep_new (H : Tr AO) (nx : Nat) (v : AV) (o : AO) (R : Nat) (hR : ∀ r, R.testBit r = true → H.get r ≠ none) : Keep H nx ⟨v, H.set nx (some o), nx + 1, R, 0⟩ :=
  ⟨Nat.le_succ _, hR, fun r h => by simp at h, fun r _ h => by simp only [Tr.get_set]; rw [if_neg]; simp at h; omega⟩
/-- What a step that makes one block turns. -/
structure Made1 (w w' : World) : Prop where
  size : w'.heap.size = w.heap.size + 1
  old : ∀ b, b < w.heap.size → w'.heap[b]? = w.heap[b]?
  os : w'.os = w.os
  tape : w'.tape = w.tape
  output : w'.output = w.output
theorem does_new {x : Sem Next} {X : Nat → Prop} {H : Tr AO} {nx R : Nat} {v : AV} {o : AO} {m : Mp} {w w' : World} {V : Value} {L : Loc} (hp : Pre P X m H nx ⟨v, H.set nx (some o), nx + 1, R, 0⟩ w)
    (hw : Made1 w w') (hL : L.block = w.heap.size) (ho : (∀ r L', m r = some L' → upd m nx L r = some L') → RepO P (upd m nx L) L o w') (hv : (∀ r L', m r = some L' → upd m nx L r = some L') → Rel (upd m nx L) v V)
    (h : x.run P w = .ok (.value V) w') : Does P x X nx ⟨v, H.set nx (some o), nx + 1, R, 0⟩ m w := by
  obtain ⟨hm, hX⟩ := hp.fresh nx (Nat.le_refl _) (Nat.lt_succ_self _)
  have hext := upd_ext (L := L) hm
  have hget : ∀ r, r ≠ nx → (H.set nx (some o)).get r = H.get r := fun r hr => by rw [Tr.get_set, if_neg hr]
  have old : ∀ r o', X r → H.get r = some o' → ∃ L', m r = some L' ∧ RepO P (upd m nx L) L' o' w' ∧ L'.block < w.heap.size := fun r o' hr ho' => by
    obtain ⟨L', g1, g2⟩ := hp.rep.rep r o' hr ho'
    exact ⟨L', g1, g2.keep P hext (hw.old _ g2.lt), g2.lt⟩
  refine ⟨upd m nx L, V, w', .inl h, hv hext, ⟨hext, fun r L' e => ?_, by have := hw.size; omega, fun b hb _ => hw.old b hb, hw.os, hw.tape, hw.output⟩, fun r o' hr ho' => ?_, fun r r' L1 L2 h1 h2 h3 h4 hne e1 e2 => ?_, Env.st hp.rep.env (a := nx) (z := nx + 1) (W := 0) ⟨hext, fun r L' e => ?_, by have := hw.size; omega, fun b hb _ => hw.old b hb, hw.os, hw.tape, hw.output⟩⟩
  · unfold upd at e
    by_cases hr : r = nx
    · subst hr
      rw [if_pos rfl] at e; cases e
      exact .inr ⟨Nat.le_refl _, Nat.lt_succ_self _, .inl (by omega)⟩
    · rw [if_neg hr] at e; exact .inl e
  · by_cases hr' : r = nx
    · subst hr'
      simp only [Tr.get_set, if_pos] at ho'
      cases ho'
      exact ⟨L, upd_self _ _ _, ho hext⟩
    · have hx : X r := hr.resolve_right fun e => by have := e.1; have := e.2; simp at this; omega
      rw [hget r hr'] at ho'
      obtain ⟨L', g1, g2, _⟩ := old r o' hx ho'
      exact ⟨L', hext _ _ g1, g2⟩
  · have key : ∀ q L', q ≠ nx → (X q ∨ (nx ≤ q ∧ q < nx + 1)) → (H.set nx (some o)).get q ≠ none → upd m nx L q = some L' → X q ∧ H.get q ≠ none ∧ m q = some L' ∧ L'.block < w.heap.size := by
      intro q L' hq hx hn e
      have hx : X q := hx.resolve_right fun e => by have := e.1; have := e.2; omega
      rw [hget q hq] at hn
      obtain ⟨o', ho'⟩ := Option.ne_none_iff_exists'.1 hn
      obtain ⟨L'', g1, _, g3⟩ := old q o' hx ho'
      have e' : m q = some L' := by unfold upd at e; rw [if_neg hq] at e; exact e
      rw [e'] at g1; cases g1
      exact ⟨hx, hn, e', g3⟩
    by_cases hr : r = nx
    · subst hr
      rw [upd_self] at e1; cases e1
      obtain ⟨_, _, _, g⟩ := key r' L2 (fun e => hne e.symm) h2 h4 e2
      omega
    · obtain ⟨a1, a2, a3, a4⟩ := key r L1 hr h1 h3 e1
      by_cases hr' : r' = nx
      · subst hr'
        rw [upd_self] at e2; cases e2
        omega
      · obtain ⟨b1, b2, b3, b4⟩ := key r' L2 hr' h2 h4 e2
        exact hp.rep.inj r r' L1 L2 a1 b1 a2 b2 hne a3 b3
  · unfold upd at e
    by_cases hr : r = nx
    · subst hr
      rw [if_pos rfl] at e; cases e
      exact .inr ⟨Nat.le_refl _, Nat.lt_succ_self _, .inl (by omega)⟩
    · rw [if_neg hr] at e; exact .inl e
theorem keep_set {H : Tr AO} {nx r : Nat} {v : AV} {o o' : AO} {R : Nat} (hr : H.get r = some o) (hR : R.testBit r = true) (hl : ∀ r, R.testBit r = true → H.get r ≠ none) : Keep H nx ⟨v, H.set r (some o'), nx, R, bit r⟩ :=
  ⟨Nat.le_refl _, hl, fun k h => by rw [bit_tb] at h; have := of_decide_eq_true h; subst this; exact ⟨hR, by rw [hr]; simp⟩,
    fun k h _ => by rw [bit_tb] at h; simp only [Tr.get_set]; rw [if_neg (of_decide_eq_false h)]⟩
/-- What a step that writes one block turns. -/
structure Wrote1 (b : Nat) (w w' : World) : Prop where
  size : w'.heap.size = w.heap.size
  old : ∀ k, k ≠ b → w'.heap[k]? = w.heap[k]?
  os : w'.os = w.os
  tape : w'.tape = w.tape
  output : w'.output = w.output
theorem does_set {x : Sem Next} {X : Nat → Prop} {H : Tr AO} {nx R r : Nat} {v : AV} {o o' : AO} {m : Mp} {w w' : World} {V : Value} {L : Loc} (hp : Pre P X m H nx ⟨v, H.set r (some o'), nx, R, bit r⟩ w)
    (hR : R.testBit r = true) (hr : H.get r = some o) (hL : m r = some L) (hw : Wrote1 L.block w w') (ho : RepO P m L o' w') (hv : Rel m v V)
    (h : x.run P w = .ok (.value V) w' ∨ (x.run P w = .ok .skip w' ∧ V = undef)) : Does P x X nx ⟨v, H.set r (some o'), nx, R, bit r⟩ m w := by
  have hX : X r := hp.R r hR
  refine ⟨m, V, w', h, hv, ⟨fun _ _ e => e, fun _ _ e => .inl e, by have := hw.size; omega, fun b hb hn => hw.old b fun e => hn r L (bit_self r) hL e.symm, hw.os, hw.tape, hw.output⟩, fun q oq hq ho' => ?_, fun q q' L1 L2 h1 h2 h3 h4 hne e1 e2 => ?_, Env.st hp.rep.env (a := nx) (z := nx) (W := bit r) ⟨fun _ _ e => e, fun _ _ e => .inl e, by have := hw.size; omega, fun b hb hn => hw.old b fun e => hn r L (bit_self r) hL e.symm, hw.os, hw.tape, hw.output⟩⟩
  · have hx : X q := hq.resolve_right fun e => by have := e.1; have := e.2; simp at this; omega
    simp only [Tr.get_set] at ho'
    by_cases e : q = r
    · subst e
      rw [if_pos rfl] at ho'; cases ho'
      exact ⟨L, hL, ho⟩
    · rw [if_neg e] at ho'
      obtain ⟨L', g1, g2⟩ := hp.rep.rep q oq hx ho'
      exact ⟨L', g1, g2.keep P (fun _ _ e => e) (hw.old _ (hp.rep.inj q r L' L hx hX (by rw [ho']; simp) (by rw [hr]; simp) e g1 hL))⟩
  · have hx : X q := h1.resolve_right fun e => by have := e.1; have := e.2; simp at this; omega
    have hx' : X q' := h2.resolve_right fun e => by have := e.1; have := e.2; simp at this; omega
    have live : ∀ k, (H.set r (some o')).get k ≠ none → H.get k ≠ none := fun k hk => by
      rw [Tr.get_set] at hk
      by_cases e : k = r
      · subst e; rw [hr]; simp
      · rw [if_neg e] at hk; exact hk
    exact hp.rep.inj q q' L1 L2 hx hx' (live q h3) (live q' h4) hne e1 e2
end
end Go.Ev
