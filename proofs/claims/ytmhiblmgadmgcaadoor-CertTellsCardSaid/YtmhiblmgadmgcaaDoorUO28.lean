/- Arguments that are certificates: their rows of numbers and of edges. -/
import Derived.Test.YtmhiblmgadmgcaaDoorU21
import Derived.Test.YtmhiblmgadmgcaaDoorChecked
import Derived.Deep.Slices
import Derived.DataReads
import Derived.ProofKit
import Derived.WideShapes
namespace Go.Proofs.YtmhiblmgadmgcaaDoor
open Go.ChangeShapes Go.WideShapes Go.RowKit Go Go.Deep
set_option linter.unusedVariables false
set_option linter.unusedSimpArgs false
theorem crtFields : ∃ fs : Array Field, Tryd.prog.underlying 25 = some (.struct fs) ∧ fs.toList.map (fun f => (f.type, f.offset)) = [(3, 0), (22, 1), (3, 2), (3, 3), (23, 4)] := ⟨_, Tryd.underlying25, by kernel_rfl⟩
theorem edFields : ∃ fs : Array Field, Tryd.prog.underlying 52 = some (.struct fs) ∧ fs.toList.map (fun f => (f.type, f.offset)) = [(3, 0), (3, 1), (3, 2), (48, 3), (50, 4), (50, 6), (3, 8)] := ⟨_, Tryd.underlying52, by kernel_rfl⟩
theorem verFields : ∃ fs : Array Field, Tryd.prog.underlying 50 = some (.struct fs) ∧ fs.toList.map (fun f => (f.type, f.offset)) = [(48, 0), (48, 1)] := ⟨_, Tryd.underlying50, by kernel_rfl⟩
theorem cCrt : Tryd.prog.cellsOf 25 = 5 := by kernel_rfl
theorem cEd : Tryd.prog.cellsOf 52 = 9 := by kernel_rfl
theorem cVer : Tryd.prog.cellsOf 50 = 2 := by kernel_rfl
theorem cI1 : Tryd.prog.cellsOf 3 = 1 := by kernel_rfl
theorem cU1 : Tryd.prog.cellsOf 48 = 1 := by kernel_rfl
theorem cS1 : Tryd.prog.cellsOf 22 = 1 := by kernel_rfl
theorem cS2 : Tryd.prog.cellsOf 23 = 1 := by kernel_rfl
/-- The cells of all elements, one after the other. -/
theorem fm_length {α : Type} (f : α → List Value) (k : Nat) (l : List α) (h : ∀ a ∈ l, (f a).length = k) : (l.flatMap f).length = l.length * k := by
  induction l with
  | nil => simp
  | cons a l ih => rw [List.flatMap_cons, List.length_append, h a (by simp), ih (fun b hb => h b (by simp [hb])), List.length_cons, Nat.succ_mul, Nat.add_comm]
theorem fm_get {α : Type} (f : α → List Value) (k : Nat) (hk : 0 < k) : ∀ (l : List α), (∀ a ∈ l, (f a).length = k) → ∀ i (hi : i < l.length) o, o < k → (l.flatMap f)[i * k + o]? = (f l[i])[o]?
  | [], _, i, hi, _, _ => by simp at hi
  | a :: l, h, 0, hi, o, ho => by
    have ha := h a (by simp)
    rw [List.flatMap_cons, Nat.zero_mul, Nat.zero_add, List.getElem?_append_left (by omega)]; rfl
  | a :: l, h, i + 1, hi, o, ho => by
    have ha := h a (by simp)
    rw [List.flatMap_cons, Nat.succ_mul, List.getElem?_append_right (by omega), show i * k + k + o - (f a).length = i * k + o from by omega]
    exact fm_get f k hk l (fun b hb => h b (by simp [hb])) i (by simpa using hi) o ho
theorem flat_ints (o : List Int) : o.flatMap (fun n : Int => [Value.int .i64 n]) = ints o := by
  unfold ints
  induction o with
  | nil => rfl
  | cons a l ih => rw [List.flatMap_cons, List.map_cons, ih]; rfl
section
variable {H : Type} {enc : TypeId × Value → H} {w : World} {sp : Nat → Bool} {held : Bool}
/-- The fields of a struct that came in, one by one. -/
theorem trod_fieldsC {fuel : Nat} {T : TypeId} {fs : Array Field} {l : List (TypeId × Nat)} {cs : List Value} {x : DataW H × List MemPlace} (hu : Tryd.prog.underlying T = some (.struct fs)) (hf : fs.toList.map (fun f => (f.type, f.offset)) = l)
    (h : DataW.trod enc Tryd.prog w 0 sp held fuel T cs = some x) : cs.length = Tryd.prog.cellsOf T ∧ ∃ n, n < fuel ∧ ∀ i (hi : i < l.length), ∃ y, DataW.trod enc Tryd.prog w 0 sp held n l[i].1 ((cs.drop l[i].2).take (Tryd.prog.cellsOf l[i].1)) = some y := by
  obtain ⟨xs, n, rfl, rfl, hl, hxl, hall⟩ := DataW.trod_struct hu h
  refine ⟨hl, n, by omega, fun i hi => ?_⟩
  have hfl : fs.size = l.length := by have := congrArg List.length hf; simpa using this
  have hi' : i < fs.size := by omega
  have hfi : (fs[i].type, fs[i].offset) = l[i] := by
    have := List.getElem_of_eq hf (i := i) (by simpa using hi')
    simpa using this
  have ha := hall i fs[i] (by simp [hi'])
  rw [List.getElem?_eq_getElem (show i < xs.length by omega)] at ha
  rw [← hfi]
  exact ⟨_, ha⟩
/-- A row that came in: its elements. -/
theorem row_of_trod {α : Type} {T E : TypeId} {k : Nat} {f : α → List Value} {Q : α → Prop} (d : α) (hu : Tryd.prog.underlying T = some (.slice E)) (hk : Tryd.prog.cellsOf E = k) (hk0 : 0 < k) (hfl : ∀ a, (f a).length = k)
    (hone : ∀ n cs y, DataW.trod enc Tryd.prog w 0 sp held n E cs = some y → ∃ a, Q a ∧ cs = f a) {fuel : Nat} {c : Value} {x : DataW H × List MemPlace} (h : DataW.trod enc Tryd.prog w 0 sp held fuel T [c] = some x) :
    ∃ l : List α, (∀ a ∈ l, Q a) ∧ Sl w (fun _ => True) false k l.length (l.flatMap f) c := by
  rcases DataW.trod_slice hu h with ⟨hc, _⟩ | ⟨ad, len, cap, elems, rest, m, hm, hc, _, _, hlc, hcap, hlen, hel, _, _⟩
  · simp only [List.cons.injEq, and_true] at hc
    subst hc
    exact ⟨[], ⟨fun a h => absurd h (by simp), Sl.nil _ _ _ _⟩⟩
  · simp only [List.cons.injEq, and_true] at hc
    subst hc
    rw [hk] at hel
    have hone' : ∀ i, i < len → ∃ a : α, w.cells? 0 (ad.add (i * k)) k = some (f a) ∧ Q a := by
      intro i hi
      have h1 := hel i hi
      rw [List.getElem?_eq_getElem (by omega)] at h1
      obtain ⟨cs', h2, h3⟩ := Option.bind_eq_some_iff.1 h1
      obtain ⟨a, ha, rfl⟩ := hone m cs' _ h3
      exact ⟨a, h2, ha⟩
    haveI : Inhabited α := ⟨d⟩
    obtain ⟨F, hF⟩ := choose_lt hone'
    have hll : ((List.range len).map F).length = len := by simp
    have hfm := fm_length f k ((List.range len).map F) (fun a _ => hfl a)
    refine ⟨(List.range len).map F, fun a ha => ?_, ⟨by rw [hfm], by rw [hll]; unfold maxLen at hcap; omega, some ad, cap, by rw [hll], by rw [hll]; exact hlc, fun hn => ?_⟩⟩
    · obtain ⟨i, hi, rfl⟩ := List.mem_map.1 ha
      exact (hF i (List.mem_range.1 hi)).2
    · have hn' : 0 < len := by simpa using hn
      obtain ⟨bl, off, sp'⟩ := ad
      have hsp : sp' = none := by
        obtain ⟨_, h2, h3⟩ := World.cells?_some (hF 0 hn').1
        have h4 := h3 0 (by omega)
        obtain ⟨v, hv⟩ : ∃ v, (f (F 0))[0]? = some v := ⟨(f (F 0))[0]'(by rw [hfl]; exact hk0), List.getElem?_eq_getElem (by rw [hfl]; exact hk0)⟩
        rw [hv] at h4
        exact World.cell?_spot (a := ⟨bl, off, sp'⟩) (by simpa [Addr.add] using h4)
      subst hsp
      refine ⟨bl, off, rfl, trivial, fun j hj => ⟨?_, fun h => by cases h⟩⟩
      have hjk : j < len * k := by rw [hfm, hll] at hj; exact hj
      have hi : j / k < len := (Nat.div_lt_iff_lt_mul hk0).2 hjk
      have ho : j % k < k := Nat.mod_lt _ hk0
      have hjj : j / k * k + j % k = j := by rw [Nat.mul_comm]; exact Nat.div_add_mod j k
      have h1 := fm_get f k hk0 ((List.range len).map F) (fun a _ => hfl a) (j / k) (by rw [hll]; exact hi) (j % k) ho
      rw [hjj] at h1
      obtain ⟨_, h2, h3⟩ := World.cells?_some (hF (j / k) hi).1
      have h4 := h3 (j % k) ho
      have h5 : w.cell? ⟨bl, off + j, none⟩ = (f (F (j / k)))[j % k]? := by
        rw [← h4, Go.Deep.add_add, hjj]
        unfold Addr.add
        split
        · rename_i h0; rw [h0]; rfl
        · rfl
      rw [h5, ← List.getElem?_eq_getElem hj, h1]
      simp
theorem int_trod {n : Nat} {cs : List Value} {y : DataW H × List MemPlace} (h : DataW.trod enc Tryd.prog w 0 sp held n 3 cs = some y) : ∃ a : Int, i64 a ∧ cs = [.int .i64 a] := by
  obtain ⟨k, q0, _, w0⟩ := DataW.trod_int Tryd.underlying3 h
  have hk : -9223372036854775808 ≤ k ∧ k ≤ 9223372036854775807 := by simpa [Lit.wf, IntKind.min, IntKind.max, IntKind.signed, IntKind.bits] using w0
  exact ⟨k, hk, q0⟩
theorem u64_trod {n : Nat} {cs : List Value} {y : DataW H × List MemPlace} (h : DataW.trod enc Tryd.prog w 0 sp held n 48 cs = some y) : ∃ a : Nat, a < 18446744073709551616 ∧ cs = [.int .u64 (a : Nat)] := by
  obtain ⟨k, q0, _, w0⟩ := DataW.trod_int Tryd.underlying48 h
  have hk : 0 ≤ k ∧ k ≤ 18446744073709551615 := by simpa [Lit.wf, IntKind.min, IntKind.max, IntKind.signed, IntKind.bits] using w0
  obtain ⟨m, rfl⟩ := Int.eq_ofNat_of_zero_le hk.1
  exact ⟨m, by omega, q0⟩
set_option maxRecDepth 100000 in
theorem ver_trod {n : Nat} {cs : List Value} {y : DataW H × List MemPlace} (h : DataW.trod enc Tryd.prog w 0 sp held n 50 cs = some y) : ∃ a b : Nat, a < 18446744073709551616 ∧ b < 18446744073709551616 ∧ cs = [.int .u64 (a : Nat), .int .u64 (b : Nat)] := by
  obtain ⟨fs, hu, hf⟩ := verFields
  obtain ⟨hl, m, hm, hall⟩ := trod_fieldsC hu hf h
  rw [cVer] at hl
  match cs, hl with
  | [c0, c1], _ =>
    obtain ⟨_, a0⟩ := hall 0 (by simp)
    obtain ⟨_, a1⟩ := hall 1 (by simp)
    simp only [List.getElem_cons_zero, List.getElem_cons_succ, cU1, List.drop_zero, List.drop_succ_cons, List.take_succ_cons, List.take_zero] at a0 a1
    obtain ⟨a, ha, e0⟩ := u64_trod a0
    obtain ⟨b, hb, e1⟩ := u64_trod a1
    simp only [List.cons.injEq, and_true] at e0 e1
    exact ⟨a, b, ha, hb, by rw [e0, e1]⟩
set_option maxRecDepth 100000 in
theorem ed_trod {n : Nat} {cs : List Value} {y : DataW H × List MemPlace} (h : DataW.trod enc Tryd.prog w 0 sp held n 52 cs = some y) : ∃ e : Ed, e.nums ∧ cs = e.vals := by
  obtain ⟨fs, hu, hf⟩ := edFields
  obtain ⟨hl, m, hm, hall⟩ := trod_fieldsC hu hf h
  rw [cEd] at hl
  match cs, hl with
  | [c0, c1, c2, c3, c4, c5, c6, c7, c8], _ =>
    obtain ⟨_, a0⟩ := hall 0 (by simp)
    obtain ⟨_, a1⟩ := hall 1 (by simp)
    obtain ⟨_, a2⟩ := hall 2 (by simp)
    obtain ⟨_, a3⟩ := hall 3 (by simp)
    obtain ⟨_, a4⟩ := hall 4 (by simp)
    obtain ⟨_, a5⟩ := hall 5 (by simp)
    obtain ⟨_, a6⟩ := hall 6 (by simp)
    simp only [List.getElem_cons_zero, List.getElem_cons_succ, cU1, cI1, cVer, List.drop_zero, List.drop_succ_cons, List.take_succ_cons, List.take_zero] at a0 a1 a2 a3 a4 a5 a6
    obtain ⟨b0, h0, e0⟩ := int_trod a0
    obtain ⟨b1, h1, e1⟩ := int_trod a1
    obtain ⟨b2, h2, e2⟩ := int_trod a2
    obtain ⟨b3, h3, e3⟩ := u64_trod a3
    obtain ⟨b4, b5, h4, h5, e4⟩ := ver_trod a4
    obtain ⟨b6, b7, h6, h7, e6⟩ := ver_trod a5
    obtain ⟨b8, h8, e8⟩ := int_trod a6
    simp only [List.cons.injEq, and_true] at e0 e1 e2 e3 e4 e6 e8
    obtain ⟨e4, e5⟩ := e4
    obtain ⟨e6, e7⟩ := e6
    exact ⟨⟨b0, b1, b2, b3, b4, b5, b6, b7, b8⟩, ⟨h0, h1, h2, h3, h4, h5, h6, h7, h8⟩, by rw [e0, e1, e2, e3, e4, e5, e6, e7, e8]; rfl⟩
set_option maxRecDepth 100000 in
theorem crt_trod {n : Nat} {cs : List Value} {y : DataW H × List MemPlace} (h : DataW.trod enc Tryd.prog w 0 sp held n 25 cs = some y) : ∃ c : Crt, c.nums ∧ RepC w (fun _ => True) false c (.agg cs.toArray) := by
  obtain ⟨fs, hu, hf⟩ := crtFields
  obtain ⟨hl, m, hm, hall⟩ := trod_fieldsC hu hf h
  rw [cCrt] at hl
  match cs, hl with
  | [c0, c1, c2, c3, c4], _ =>
    obtain ⟨_, a0⟩ := hall 0 (by simp)
    obtain ⟨_, a1⟩ := hall 1 (by simp)
    obtain ⟨_, a2⟩ := hall 2 (by simp)
    obtain ⟨_, a3⟩ := hall 3 (by simp)
    obtain ⟨_, a4⟩ := hall 4 (by simp)
    simp only [List.getElem_cons_zero, List.getElem_cons_succ, cI1, cS1, cS2, List.drop_zero, List.drop_succ_cons, List.take_succ_cons, List.take_zero] at a0 a1 a2 a3 a4
    obtain ⟨b0, h0, e0⟩ := int_trod a0
    obtain ⟨b2, h2, e2⟩ := int_trod a2
    obtain ⟨b3, h3, e3⟩ := int_trod a3
    simp only [List.cons.injEq, and_true] at e0 e2 e3
    obtain ⟨o, ho, so⟩ := row_of_trod (f := fun n : Int => [Value.int .i64 n]) (Q := i64) 0 Tryd.underlying22 cI1 (by omega) (fun _ => rfl) (fun _ _ _ h => int_trod h) a1
    obtain ⟨l, hl, sl⟩ := row_of_trod (f := Ed.vals) (Q := Ed.nums) ⟨0, 0, 0, 0, 0, 0, 0, 0, 0⟩ Tryd.underlying23 cEd (by omega) (fun _ => rfl) (fun _ _ _ h => ed_trod h) a4
    refine ⟨⟨b0, o, b2, b3, l⟩, ⟨h0, h2, h3, ho, hl⟩, c1, c4, by rw [e0, e2, e3], ?_, sl⟩
    rw [flat_ints] at so
    exact so
set_option maxRecDepth 100000 in
/-- An argument that is a certificate. -/
theorem open_crt {r : Reach} {b0 : Nat} {v : Value} {d : DataW H} {ps : List MemPlace} (hval : Value.okWide Tryd.prog w r b0 25 v)
    (h : DataW.Trod enc Tryd.prog w 0 sp held 25 v d ps) : ∃ c : Crt, c.nums ∧ RepC w (fun _ => True) false c v := by
  obtain ⟨cs, rfl, _⟩ := okWide_struct Tryd.underlying25 hval
  obtain ⟨fuel, hf⟩ := h
  obtain ⟨e, hn, he⟩ := crt_trod hf
  exact ⟨e, hn, by simpa [Value.cells] using he⟩
end
end Go.Proofs.YtmhiblmgadmgcaaDoor
