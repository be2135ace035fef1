/- The evaluator's operations are the model's: those that make, read and write memory. Plain lemmas. -/
import Derived.Test.YthfkgdjekmebgaaGreatDoorEv6
import Derived.Deep.AppendSrc
import Derived.Laws.BytesString
namespace Go.Ev
open Go
set_option linter.unusedVariables false
set_option linter.unusedSimpArgs false
set_option linter.unusedSectionVars false
variable [Env]
section
variable {P : Program}
theorem made_push (w : World) (o : Obj) : Made1 w { w with heap := w.heap.push o } :=
  ⟨by simp, fun b hb => by simp [Array.getElem?_push]; intro h; omega, rfl, rfl, rfl⟩
theorem made_alloc (w : World) (o : Obj) : Made1 w (w.drew.alloc o) :=
  ⟨by show (w.heap.push o).size = _; simp, fun b hb => by show (w.heap.push o)[b]? = _; simp [Array.getElem?_push]; intro h; omega, rfl, rfl, rfl⟩
theorem row_new {m : Mp} {L : Loc} {l : List AV} {C : Array Value} {e : TypeId} {w' : World} (hg : w'.heap[L.block]? = some (.cells C e (0, 0))) (hb : L.base = 0) (hl : RelL m l C.toList) : RepO P m L (.c l e false) w' := by
  refine ⟨C, (0, 0), hg, .inr (Nat.le_refl _), fun i x hx => ?_, fun h => by cases h⟩
  obtain ⟨V, h1, h2⟩ := hl.get hx
  exact ⟨V, by rw [hb, Nat.zero_add, ← Array.getElem?_toList]; exact h1, h2⟩
/-- An operation that makes a row of known cells. -/
theorem goal_row {T : Tr AV} {H : Tr AO} {nx : Nat} {o : Oper} {u : Ou} {l : List AV} {e : TypeId} {v : AV} {R : Nat} (V : Nat → Value) (hu : u = ⟨v, H.set nx (some (.c l e false)), nx + 1, R, 0⟩)
    (hv : ∀ m b cp, Rel (upd m nx ⟨b, 0, cp⟩) v (V b))
    (h : ∀ X m ρ w, OpR m T ρ o.op → Pre P X m H nx u w → ∃ C : Array Value, (execOp ρ o).run P w = .ok (.value (V w.heap.size)) { w with heap := w.heap.push (.cells C e) } ∧ RelL m l C.toList) (hR : ∀ r, R.testBit r = true → H.get r ≠ none := by exact live_0 _) : Goal P T H nx o u := by
  subst hu
  refine ⟨keep_new _ _ _ _ _ hR, fun X m ρ w hr hp => ?_⟩
  obtain ⟨C, h1, h2⟩ := h X m ρ w hr hp
  refine does_new (L := ⟨w.heap.size, 0, 0⟩) hp (made_push w _) rfl (fun hext => row_new (C := C) ?_ rfl (h2.mono hext)) (fun hext => hv m _ _) h1
  show (w.heap.push _)[w.heap.size]? = _
  simp
theorem ok_alloc {T : Tr AV} {H : Tr AO} {nx : Nat} {o : Oper} {u : Ou} {e : TypeId} (ho : o.op = .alloc e) (h : evOp P T H nx (.alloc e) = some (.ok u)) : Goal P T H nx o u := by
  simp only [evOp] at h
  split at h
  · rename_i z hz
    obtain ⟨Z, z1, z2⟩ := run_zero hz
    refine goal_row (fun b => .pointer (some ⟨b, 0, none⟩)) (by simp [newO] at h; exact h.symm) (fun m b cp => .p nx 0 ⟨b, 0, cp⟩ (upd_self _ _ _)) fun X m ρ w hr hp => ⟨Z.cells, ?_, (absV_rel m z1).cells⟩
    unfold execOp; rw [ho]
    refine run_v ?_
    simp [Instr.alloc, z2, newVar, newRow]
  · cases h
theorem ok_box {T : Tr AV} {H : Tr AO} {nx : Nat} {o : Oper} {u : Ou} {e : TypeId} {x : Operand} (ho : o.op = .box e x) (h : evOp P T H nx (.box e x) = some (.ok u)) : Goal P T H nx o u := by
  simp only [evOp] at h
  split at h
  · rename_i v hx
    refine goal_row (fun b => .pointer (some ⟨b, 0, none⟩)) (by simp [newO] at h; exact h.symm) (fun m b cp => .p nx 0 ⟨b, 0, cp⟩ (upd_self _ _ _)) fun X m ρ w hr hp => ⟨(ρ x).cells, ?_, (hr x _ (by rw [ho]; simp [Op.operands]) hx).cells⟩
    unfold execOp; rw [ho]
    refine run_v ?_
    simp [Instr.box, newVar, newRow]
  · cases h
theorem rept_len (z : List AV) : ∀ n, (rept z n).length = n * z.length
  | 0 => by simp [rept]
  | n + 1 => by simp [rept, rept_len z n, Nat.succ_mul]; omega
theorem rept_get (z : List AV) : ∀ n i, i < n * z.length → (rept z n)[i]? = z[i % z.length]?
  | 0, i, h => by simp at h
  | n + 1, i, h => by
    simp only [rept]
    by_cases hi : i < z.length
    · rw [List.getElem?_append_left hi, Nat.mod_eq_of_lt hi]
    · rw [List.getElem?_append_right (by omega), rept_get z n (i - z.length) (by rw [Nat.succ_mul] at h; omega)]
      rw [← Nat.mod_eq_sub_mod (by omega)]
theorem rept_rel {m : Mp} {z : List AV} {Z : Array Value} (h : RelL m z Z.toList) (n : Nat) : RelL m (rept z n) ((Array.range (n * z.length)).map (Z[· % Z.size]!)).toList := by
  have hs : Z.size = z.length := by have := h.1; simp at this; omega
  refine ⟨by rw [rept_len]; simp, fun i x V h1 h2 => ?_⟩
  have hi : i < n * z.length := by rw [← rept_len]; exact (List.getElem?_eq_some_iff.1 h1).1
  rw [rept_get z n i hi] at h1
  obtain ⟨V', g1, g2⟩ := h.get h1
  have hpos : 0 < z.length := by
    rcases Nat.eq_zero_or_pos z.length with e | e
    · rw [e] at hi; omega
    · exact e
  have hlt : i % z.length < Z.size := by rw [hs]; exact Nat.mod_lt _ hpos
  simp [hi] at h2
  have : Z[i % Z.size]! = V' := by
    rw [hs, getElem!_pos Z _ hlt]
    rw [Array.getElem?_toList, Array.getElem?_eq_getElem hlt] at g1
    exact Option.some.inj g1
  rw [← h2, this]; exact g2
theorem ok_buildSlice {T : Tr AV} {H : Tr AO} {nx : Nat} {o : Oper} {u : Ou} {t : TypeId} {len : Nat} {parts : Array (Nat × Operand)} (ho : o.op = .buildSlice t len parts) (h : evOp P T H nx (.buildSlice t len parts) = some (.ok u)) : Goal P T H nx o u := by
  simp only [evOp] at h
  split at h
  · rename_i pl hl
    unfold evBuildS at h
    split at h
    · rename_i e hd
      split at h
      · rename_i n z hn hz
        split at h
        · rename_i l b1 b2 b3 hf
          have h1 := beq_f b1; have h2 := beq_t b2; have h3 := ble_t b3
          obtain ⟨Z, z1, z2⟩ := run_zero hz
          refine goal_row (fun b => .slice (some ⟨b, 0, none⟩) len len) (by simp [newO] at h; exact h.symm) (fun m b cp => .sl nx 0 len len ⟨b, 0, cp⟩ (upd_self _ _ _)) fun X m ρ w hr hp => ?_
          obtain ⟨e1, e2⟩ := evParts_rel (m := m) (ρ := ρ) hl fun x v hx => hr x v (by rw [ho]; simpa [Op.operands] using hx)
          have hpt : (parts.map fun (i, x) => (i, ρ x)).toList = parts.toList.map fun p => (p.1, ρ p.2) := by simp
          have hZ := (absV_rel m z1).cells
          have hZ' := rept_rel hZ len
          obtain ⟨R, g1, g2⟩ := fill_ok (VP := (parts.map fun (i, x) => (i, ρ x)).toList) hf (by rw [hpt]; exact e1) (by rw [hpt]; exact e2) hZ'
          refine ⟨R, ?_, g2⟩
          unfold execOp; rw [ho]
          refine run_v ?_
          rw [h2, hpt] at g1
          by_cases hl0 : len * n = 0
          · rw [hl0] at g1
            simp only [Instr.buildSlice, Sem.run_bind, run_und hd, run_size hn, Result.andThen_ok, hl0]
            rw [show Array.map (fun x => Z.cells[x % Z.cells.size]!) (Array.range 0) = #[] by simp] at g1
            simp [g1, newRow, Array.range_zero']
          · simp only [Instr.buildSlice, Sem.run_bind, run_und hd, run_size hn, Result.andThen_ok]
            rw [if_neg (by omega)]
            simp [hl0, z2, g1, newRow]
        · cases h
      · cases h
    · cases h
  · cases h
theorem wrap_small {n : Nat} (h : n ≤ 100000) : IntKind.i64.wrap (n : Int) = n := by
  unfold IntKind.wrap
  simp [IntKind.bits, IntKind.signed]
  omega
theorem ok_makeSlice {T : Tr AV} {H : Tr AO} {nx : Nat} {o : Oper} {u : Ou} {t : TypeId} {lo co : Operand} (ho : o.op = .makeSlice t lo co) (h : evOp P T H nx (.makeSlice t lo co) = some (.ok u)) : Goal P T H nx o u := by
  simp only [evOp] at h
  split at h
  · rename_i a b ha hb
    unfold evMakeS at h
    split at h
    · rename_i e n c hd
      split at h
      · rename_i inf z hi hz
        split at h
        · rename_i b1 b2 b3 b4
          have h1 := beq_f b1; have h2 := beq_t b2; have h3 := ble_t b3; have h4 := ble_t b4
          obtain ⟨Z, z1, z2⟩ := run_zero hz
          refine goal_row (fun b => .slice (some ⟨b, 0, none⟩) n c) (by simp [newO] at h; exact h.symm) (fun m b cp => .sl nx 0 n c ⟨b, 0, cp⟩ (upd_self _ _ _)) fun X m ρ w hr hp => ?_
          have hZ := (absV_rel m z1).cells
          have hZ' := rept_rel hZ c
          refine ⟨_, ?_, hZ'⟩
          have hA := hr lo _ (by rw [ho]; simp [Op.operands]) ha
          have hB := hr co _ (by rw [ho]; simp [Op.operands]) hb
          unfold execOp; rw [ho]
          refine run_v ?_
          generalize ρ lo = A at hA
          generalize ρ co = B at hB
          cases hA; cases hB
          have hc : c ≤ 100000 := by
            have : c * 1 ≤ c * (inf.size + inf.bytes) := Nat.mul_le_mul_left _ (by omega)
            omega
          have hbc : c * inf.bytes ≤ 100000 := Nat.le_trans (Nat.mul_le_mul_left _ (by omega)) h4
          have w1 := wrap_small (n := n) (by omega)
          have w2 := wrap_small hc
          have hbc' : ¬ ((inf.bytes : Int) * (c : Int) > 2 ^ 48) := by
            have : (inf.bytes : Int) * (c : Int) = ((c * inf.bytes : Nat) : Int) := by push_cast; rw [Int.mul_comm]
            rw [this]; omega
          have hsz : szO P e = some inf.size := by simp [szO, hi]
          simp only [Int.ofNat_eq_natCast] at *
          have hcond : ((decide ((c : Int) < 0) || decide ((inf.bytes : Int) * (c : Int) > 2 ^ 48)) || decide ((n : Int) < 0) || decide ((n : Int) > (c : Int))) = false := by
            simp only [Bool.or_eq_false_iff, decide_eq_false_iff_not]
            exact ⟨⟨⟨by omega, hbc'⟩, by omega⟩, by omega⟩
          simp only [Instr.makeSlice, Sem.run_bind, run_und hd, Result.andThen_ok, asInt, asIntOf, Sem.run_pure, run_info hi, w1, w2, hcond, Bool.false_eq_true, if_false, run_askRoom, run_size hsz, Int.toNat_natCast]
          by_cases hz0 : c * inf.size = 0
          · have hc0 : c = 0 := by
              rcases Nat.mul_eq_zero.1 hz0 with e | e
              · exact e
              · exact absurd e h1
            subst hc0
            simp [newRow, Array.range_zero']
          · simp only [hz0, if_false, Sem.run_bind, z2, Result.andThen_ok, Sem.run_pure, newRow, run_newObj]
            rw [h2]
        · cases h
      · cases h
    · cases h
  · cases h
theorem ok_makeMap {T : Tr AV} {H : Tr AO} {nx : Nat} {o : Oper} {u : Ou} {t : TypeId} (ho : o.op = .makeMap t none) (h : evOp P T H nx (.makeMap t none) = some (.ok u)) : Goal P T H nx o u := by
  simp only [evOp, newO] at h
  have hu : u = ⟨.m nx, H.set nx (some (.m [] 0)), nx + 1, 0, 0⟩ := by simp at h; exact h.symm
  subst hu
  refine ⟨keep_new _ _ _ _ _ (live_0 _), fun X m ρ w hr hp => ?_⟩
  refine does_new (L := ⟨w.heap.size, 0, 0⟩) (V := .map (some w.heap.size)) (w' := { w with heap := w.heap.push (.map #[] 0) }) hp (made_push w _) rfl (fun hext => ⟨#[], ?_, rfl, fun i k v b x h1 h2 => by simp at h1⟩) (fun hext => .m nx ⟨w.heap.size, 0, 0⟩ (upd_self _ _ _)) ?_
  · show (w.heap.push _)[w.heap.size]? = _
    simp
  · unfold execOp; rw [ho]
    refine run_v ?_
    simp [Instr.makeMap]
/-- The row that a pointer or a slice leads to. -/
theorem Pre.row {X : Nat → Prop} {m : Mp} {H : Tr AO} {nx : Nat} {u : Ou} {w : World} (hp : Pre P X m H nx u w) {r : Nat} {o : AO} (ho : H.get r = some o) (hR : u.R.testBit r = true) {L : Loc} (hL : m r = some L) : RepO P m L o w := by
  obtain ⟨L', h1, h2⟩ := hp.rep.rep r o (hp.R r hR) ho
  rw [hL] at h1; cases h1; exact h2
theorem ok_load {T : Tr AV} {H : Tr AO} {nx : Nat} {o : Oper} {u : Ou} {t : TypeId} {a : Operand} (ho : o.op = .load t a) (h : evOp P T H nx (.load t a) = some (.ok u)) : Goal P T H nx o u := by
  simp only [evOp] at h
  split at h
  · rename_i v0 ha
    unfold evLoad at h
    split at h
    · rename_i r off
      split at h
      · rename_i l e tl hrow
        split at h
        · rename_i v hv
          cases h
          refine goal_pure rfl (hR := live_bit hrow) fun X m ρ w hr hp => ?_
          have hA := hr a _ (by rw [ho]; simp [Op.operands]) ha
          unfold execOp; rw [ho]; simp only []
          generalize ρ a = A at hA
          cases hA
          rename_i L hL
          obtain ⟨C, fr, g1, g2, g3, g4⟩ := hp.row hrow (bit_self r) hL
          unfold partA at hv
          split at hv
          · rename_i hi
            split at hv
            · rename_i n hn
              split at hv
              · rename_i xs hx
                cases hv
                obtain ⟨c1, c2⟩ := row_cut g3 hx
                refine ⟨.agg _, run_v ?_, .a_of c2⟩
                simp only [Instr.loadAt, Instr.sureAddr, loadVar, Sem.run_bind, Sem.run_pure, run_isA hi, run_size hn, Result.andThen_ok, if_true, run_loadRow g1 c1]
              · cases hv
            · cases hv
          · rename_i hi
            obtain ⟨V, c1, c2⟩ := g3 _ _ hv
            refine ⟨V, run_v ?_, c2⟩
            have hc : w.cell? ⟨L.block, L.base + off, none⟩ = some V := by rw [cell_at g1]; exact c1
            simp [Instr.loadAt, Instr.sureAddr, loadVar, run_isA hi, hc]
          · cases hv
        · cases h
      · cases h
    · cases h
  · cases h
theorem setCells_row {b : Nat} {e : TypeId} {fr : Nat × Nat} : ∀ (vs : List Value) (o : Nat) (w : World) (C : Array Value), w.heap[b]? = some (.cells C e fr) → o + vs.length ≤ C.size →
    ∃ C', (w.setCells b o vs).heap[b]? = some (.cells C' e fr) ∧ C'.size = C.size ∧ (∀ k, C'[k]? = if o ≤ k ∧ k < o + vs.length then vs[k - o]? else C[k]?) ∧ Wrote1 b w (w.setCells b o vs)
  | [], o, w, C, h, hl => ⟨C, h, rfl, fun k => by rw [if_neg (by rw [List.length_nil]; omega)], ⟨rfl, fun _ _ => rfl, rfl, rfl, rfl⟩⟩
  | v :: vs, o, w, C, h, hl => by
    simp only [List.length_cons] at hl
    have h1 : (w.setCell ⟨b, o, none⟩ v).heap[b]? = some (.cells (C.setIfInBounds o v) e fr) := by
      simp [World.setCell, Array.getElem?_modify, h]
    obtain ⟨C', g1, g2, g3, g4⟩ := setCells_row vs (o + 1) (w.setCell ⟨b, o, none⟩ v) (C.setIfInBounds o v) h1 (by simp; omega)
    refine ⟨C', g1, by rw [g2]; simp, fun k => ?_, ⟨by rw [show (w.setCells b o (v :: vs)) = (w.setCell ⟨b, o, none⟩ v).setCells b (o + 1) vs from rfl, g4.size]; simp [World.setCell], fun k hk => ?_, g4.os, g4.tape, g4.output⟩⟩
    · rw [g3 k]
      simp only [List.length_cons]
      by_cases e : k = o
      · subst e
        rw [if_neg (by omega), if_pos ⟨by omega, by omega⟩, Array.getElem?_setIfInBounds_self_of_lt (by omega)]
        simp
      · rw [Array.getElem?_setIfInBounds_ne (fun h => e h.symm)]
        by_cases g : o + 1 ≤ k ∧ k < o + 1 + vs.length
        · rw [if_pos g, if_pos ⟨by omega, by omega⟩, show k - o = (k - (o + 1)) + 1 by omega, List.getElem?_cons_succ]
        · rw [if_neg g, if_neg (by omega)]
    · rw [show (w.setCells b o (v :: vs)) = (w.setCell ⟨b, o, none⟩ v).setCells b (o + 1) vs from rfl, g4.old k hk]
      simp only [World.setCell, Array.getElem?_modify]
      rw [if_neg (fun h => hk h.symm)]
theorem frozen_not {w : World} {b : Nat} {C : Array Value} {e : TypeId} {fr : Nat × Nat} (hg : w.heap[b]? = some (.cells C e fr)) (hf : C.size ≤ fr.1 ∨ fr.2 ≤ fr.1) {k : Nat} (hk : k < C.size) : w.frozen? ⟨b, k, none⟩ = false := by
  obtain ⟨lo, hi⟩ := fr
  simp only [World.frozen?, hg]
  simp at hf
  simp
  intro h; omega
theorem one_all {m : Mp} {xs : List AV} {vs : List Value} (h : RelL m xs vs) (h1 : xs.all AV.one = true) : ∀ v ∈ vs, v.oneCell' = true := by
  intro v hv
  obtain ⟨i, hi⟩ := List.getElem?_of_mem hv
  have hl := h.1
  have hlt : i < xs.length := by rw [hl]; exact (List.getElem?_eq_some_iff.1 hi).1
  have hr := h.2 i _ v (List.getElem?_eq_getElem hlt) hi
  have h2 := List.all_eq_true.1 h1 xs[i] (List.getElem_mem hlt)
  generalize xs[i] = x at hr h2
  cases hr <;> simp_all [AV.one, Value.oneCell']
/-- Cells written over a row. -/
theorem row_over {m : Mp} {L : Loc} {l xs l' : List AV} {e : TypeId} {tl : Bool} {o : Nat} {w : World} {vs : List Value} (h : RepO P m L (.c l e tl) w) (ho : over l o xs = some l') (hv : RelL m xs vs) (h1 : xs.all AV.one = true) :
    ((storeCells ⟨L.block, L.base + o, none⟩ vs).run P w = .ok () (w.setCells L.block (L.base + o) vs)) ∧ (∀ j, j < vs.length → (w.cell? ⟨L.block, L.base + o + j, none⟩).isSome = true) ∧ (∀ j, j < vs.length → w.frozen? ⟨L.block, L.base + o + j, none⟩ = false) ∧
      Wrote1 L.block w (w.setCells L.block (L.base + o) vs) ∧ RepO P m L (.c l' e tl) (w.setCells L.block (L.base + o) vs) := by
  obtain ⟨C, fr, g1, g2, g3, g4⟩ := h
  obtain ⟨o1, o2⟩ := over_get ho
  have o3 := (over_eq ho).1
  have hl := hv.1
  have hle : vs.length = 0 ∨ L.base + o + vs.length ≤ C.size := by
    rcases row_le g3 with e | e
    · subst e; rw [List.length_nil] at o3; left; omega
    · right; omega
  have c1 : ∀ j, j < vs.length → (w.cell? ⟨L.block, L.base + o + j, none⟩).isSome = true := fun j hj => by
    rw [cell_at g1, Array.getElem?_eq_getElem (by omega)]; rfl
  have c2 : ∀ j, j < vs.length → w.frozen? ⟨L.block, L.base + o + j, none⟩ = false := fun j hj => frozen_not g1 g2 (by omega)
  have c3 := one_all hv h1
  refine ⟨by simpa using run_storeCells_cells (P := P) L.block (L.base + o) vs 0 w (by simpa using c1) (by simpa using c2) c3, c1, c2, ?_⟩
  rcases hle with e0 | hle
  · have : vs = [] := List.eq_nil_of_length_eq_zero e0
    subst this
    refine ⟨⟨rfl, fun _ _ => rfl, rfl, rfl, rfl⟩, C, fr, g1, g2, fun i x hx => ?_, g4⟩
    rw [o2 i, if_neg (by rw [hl, List.length_nil]; omega)] at hx
    exact g3 i x hx
  · obtain ⟨C', d1, d2, d3, d4⟩ := setCells_row vs (L.base + o) w C g1 hle
    refine ⟨d4, C', fr, d1, by rw [d2]; exact g2, fun i x hx => ?_, fun ht => by rw [d2]; exact g4 ht⟩
    rw [d3]
    rw [o2 i] at hx
    split at hx
    · rename_i hi
      obtain ⟨V, v1, v2⟩ := hv.get hx
      exact ⟨V, by rw [if_pos ⟨by omega, by omega⟩, show L.base + i - (L.base + o) = i - o by omega]; exact v1, v2⟩
    · rename_i hi
      obtain ⟨V, v1, v2⟩ := g3 i x hx
      exact ⟨V, by rw [if_neg (by omega)]; exact v1, v2⟩
theorem ok_store {T : Tr AV} {H : Tr AO} {nx : Nat} {o : Oper} {u : Ou} {t : TypeId} {a x : Operand} (ho : o.op = .store t a x) (h : evOp P T H nx (.store t a x) = some (.ok u)) : Goal P T H nx o u := by
  simp only [evOp] at h
  split at h
  · rename_i p v ha hx
    unfold evStore at h
    split at h
    · rename_i r off
      split at h
      · rename_i l e tl n hrow hn
        split at h
        · rename_i l' b1 b2 b3
          cases h
          refine ⟨keep_set hrow (bit_self r) (live_bit hrow), fun X m ρ w hr hp => ?_⟩
          have hA := hr a _ (by rw [ho]; simp [Op.operands]) ha
          have hX := (hr x _ (by rw [ho]; simp [Op.operands]) hx).cells
          have hex : execOp ρ o = ((Instr.storeAt t (ρ a) (ρ x)) >>= fun _ => pure Next.skip) := by unfold execOp; rw [ho]
          generalize hα : ρ a = A at hA
          cases hA
          rename_i L hL
          obtain ⟨g1, _, _, g2, g3⟩ := row_over (hp.row hrow (bit_self r) hL) b3 hX b2
          refine does_set hp (bit_self r) hrow hL g2 g3 (.un m) (.inr ⟨?_, rfl⟩)
          rw [hex, hα]
          refine run_u ?_
          have hsz : (ρ x).cells.size = n := by have := hX.1; have := beq_t b1; simp at *; omega
          simp only [Instr.storeAt, Instr.sureAddr, storeVar, Sem.run_bind, Sem.run_pure, run_size hn, Result.andThen_ok, hsz, ne_eq, not_true_eq_false, if_false, g1]
        · cases h
      · cases h
    · cases h
  · cases h
end
end Go.Ev
