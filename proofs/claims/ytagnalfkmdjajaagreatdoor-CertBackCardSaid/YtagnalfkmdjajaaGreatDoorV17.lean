/- The law CertBack returns true whatever the certificates, the place and what is added are, and the certificates read behind the call as before: the row and its tied card. The conditions are the card's own: the listed variables of Go's library read as laid. Ahead of it: Arguments that are certificates: their rows of numbers and of edges. What the rows' listed variables and the world's shape give a walk (for seats without chapter 4's readers: R05 over P01), the world that lays them, and the wrap that keeps both. Closed facts of the row and the card of CertBack, each by itself. -/
import Derived.Test.YtagnalfkmdjajaaGreatDoorV21
import Derived.Test.YtagnalfkmdjajaaGreatDoorChecked
import Derived.Test.YtagnalfkmdjajaaGreatDoorVP01
import Derived.Test.YtagnalfkmdjajaaGreatDoorRows
import Derived.Test.YtagnalfkmdjajaaGreatDoorV12
import Derived.Test.YtagnalfkmdjajaaGreatDoorTie
import Derived.Test.YtagnalfkmdjajaaGreatDoorCards
import Derived.Deep.Slices
import Derived.DataReads
import Derived.ProofKit
import Derived.WideShapes
import Derived.HandedShaped
import Derived.Shelf.Vars
import Derived.WalkKit
import Derived.Lib.LaidU8
import Derived.MakeChecks
import Derived.Lay
import Derived.LaidOnce
import Derived.LaidLaws
import Derived.SevenTiedAt
import Derived.JoinedOf
import Derived.KernelRfl
import Derived.Carry
namespace Go.Proofs.YtagnalfkmdjajaaGreatDoor
open Go.ChangeShapes Go.WideShapes Go.RowKit Go Go.Deep
set_option linter.unusedVariables false
set_option linter.unusedSimpArgs false
theorem crtFields : ∃ fs : Array Field, Tryz.prog.underlying 25 = some (.struct fs) ∧ fs.toList.map (fun f => (f.type, f.offset)) = [(3, 0), (22, 1), (3, 2), (3, 3), (23, 4)] := ⟨_, Tryz.underlying25, by kernel_rfl⟩
theorem edFields : ∃ fs : Array Field, Tryz.prog.underlying 54 = some (.struct fs) ∧ fs.toList.map (fun f => (f.type, f.offset)) = [(3, 0), (3, 1), (3, 2), (50, 3), (52, 4), (52, 6), (3, 8)] := ⟨_, Tryz.underlying54, by kernel_rfl⟩
theorem verFields : ∃ fs : Array Field, Tryz.prog.underlying 52 = some (.struct fs) ∧ fs.toList.map (fun f => (f.type, f.offset)) = [(50, 0), (50, 1)] := ⟨_, Tryz.underlying52, by kernel_rfl⟩
theorem cCrt : Tryz.prog.cellsOf 25 = 5 := by kernel_rfl
theorem cEd : Tryz.prog.cellsOf 54 = 9 := by kernel_rfl
theorem cVer : Tryz.prog.cellsOf 52 = 2 := by kernel_rfl
theorem cI1 : Tryz.prog.cellsOf 3 = 1 := by kernel_rfl
theorem cU1 : Tryz.prog.cellsOf 50 = 1 := by kernel_rfl
theorem cS1 : Tryz.prog.cellsOf 22 = 1 := by kernel_rfl
theorem cS2 : Tryz.prog.cellsOf 23 = 1 := by kernel_rfl
/-- The cells of all elements, one after the other. -/
theorem fm_length {α : Type} (f : α → List Value) (k : Nat) (l : List α) (h : ∀ a ∈ l, (f a).length = k) : (l.flatMap f).length = l.length * k := by
  induction l with
  | nil => simp
  | cons a l ih => rw [List.flatMap_cons, List.length_append, h a (by simp), ih (fun b hb => h b (by simp [hb])), List.length_cons, Nat.succ_mul, Nat.add_comm]
theorem fm_get {α : Type} (f : α → List Value) (k : Nat) (hk : 0 < k) : ∀ (l : List α), (∀ a ∈ l, (f a).length = k) → ∀ i (hi : i < l.length) o, o < k → (l.flatMap f)[i * k + o]? = (f l[i])[o]?
  | [], _, i, hi, _, _ => by simp at hi
  | a :: l, h, 0, hi, o, ho => by
    have ha := h a (by simp)
    rw [List.flatMap_cons, Nat.zero_mul, Nat.zero_add, List.getElem?_append_left (by omega)]; rfl
  | a :: l, h, i + 1, hi, o, ho => by
    have ha := h a (by simp)
    rw [List.flatMap_cons, Nat.succ_mul, List.getElem?_append_right (by omega), show i * k + k + o - (f a).length = i * k + o from by omega]
    exact fm_get f k hk l (fun b hb => h b (by simp [hb])) i (by simpa using hi) o ho
theorem flat_ints (o : List Int) : o.flatMap (fun n : Int => [Value.int .i64 n]) = ints o := by
  unfold ints
  induction o with
  | nil => rfl
  | cons a l ih => rw [List.flatMap_cons, List.map_cons, ih]; rfl
section
variable {H : Type} {enc : TypeId × Value → H} {w : World} {sp : Nat → Bool} {held : Bool}
/-- The fields of a struct that came in, one by one. -/
theorem trod_fieldsC {fuel : Nat} {T : TypeId} {fs : Array Field} {l : List (TypeId × Nat)} {cs : List Value} {x : DataW H × List MemPlace} (hu : Tryz.prog.underlying T = some (.struct fs)) (hf : fs.toList.map (fun f => (f.type, f.offset)) = l)
    (h : DataW.trod enc Tryz.prog w 0 sp held fuel T cs = some x) : cs.length = Tryz.prog.cellsOf T ∧ ∃ n, n < fuel ∧ ∀ i (hi : i < l.length), ∃ y, DataW.trod enc Tryz.prog w 0 sp held n l[i].1 ((cs.drop l[i].2).take (Tryz.prog.cellsOf l[i].1)) = some y := by
  obtain ⟨xs, n, rfl, rfl, hl, hxl, hall⟩ := DataW.trod_struct hu h
  refine ⟨hl, n, by omega, fun i hi => ?_⟩
  have hfl : fs.size = l.length := by have := congrArg List.length hf; simpa using this
  have hi' : i < fs.size := by omega
  have hfi : (fs[i].type, fs[i].offset) = l[i] := by
    have := List.getElem_of_eq hf (i := i) (by simpa using hi')
    simpa using this
  have ha := hall i fs[i] (by simp [hi'])
  rw [List.getElem?_eq_getElem (show i < xs.length by omega)] at ha
  rw [← hfi]
  exact ⟨_, ha⟩
/-- A row that came in: its elements. -/
theorem row_of_trod {α : Type} {T E : TypeId} {k : Nat} {f : α → List Value} {Q : α → Prop} (d : α) (hu : Tryz.prog.underlying T = some (.slice E)) (hk : Tryz.prog.cellsOf E = k) (hk0 : 0 < k) (hfl : ∀ a, (f a).length = k)
    (hone : ∀ n cs y, DataW.trod enc Tryz.prog w 0 sp held n E cs = some y → ∃ a, Q a ∧ cs = f a) {fuel : Nat} {c : Value} {x : DataW H × List MemPlace} (h : DataW.trod enc Tryz.prog w 0 sp held fuel T [c] = some x) :
    ∃ l : List α, (∀ a ∈ l, Q a) ∧ Sl w (fun _ => True) false k l.length (l.flatMap f) c := by
  rcases DataW.trod_slice hu h with ⟨hc, _⟩ | ⟨ad, len, cap, elems, rest, m, hm, hc, _, _, hlc, hcap, hlen, hel, _, _⟩
  · simp only [List.cons.injEq, and_true] at hc
    subst hc
    exact ⟨[], ⟨fun a h => absurd h (by simp), Sl.nil _ _ _ _⟩⟩
  · simp only [List.cons.injEq, and_true] at hc
    subst hc
    rw [hk] at hel
    have hone' : ∀ i, i < len → ∃ a : α, w.cells? 0 (ad.add (i * k)) k = some (f a) ∧ Q a := by
      intro i hi
      have h1 := hel i hi
      rw [List.getElem?_eq_getElem (by omega)] at h1
      obtain ⟨cs', h2, h3⟩ := Option.bind_eq_some_iff.1 h1
      obtain ⟨a, ha, rfl⟩ := hone m cs' _ h3
      exact ⟨a, h2, ha⟩
    haveI : Inhabited α := ⟨d⟩
    obtain ⟨F, hF⟩ := choose_lt hone'
    have hll : ((List.range len).map F).length = len := by simp
    have hfm := fm_length f k ((List.range len).map F) (fun a _ => hfl a)
    refine ⟨(List.range len).map F, fun a ha => ?_, ⟨by rw [hfm], by rw [hll]; unfold maxLen at hcap; omega, some ad, cap, by rw [hll], by rw [hll]; exact hlc, fun hn => ?_⟩⟩
    · obtain ⟨i, hi, rfl⟩ := List.mem_map.1 ha
      exact (hF i (List.mem_range.1 hi)).2
    · have hn' : 0 < len := by simpa using hn
      obtain ⟨bl, off, sp'⟩ := ad
      have hsp : sp' = none := by
        obtain ⟨_, h2, h3⟩ := World.cells?_some (hF 0 hn').1
        have h4 := h3 0 (by omega)
        obtain ⟨v, hv⟩ : ∃ v, (f (F 0))[0]? = some v := ⟨(f (F 0))[0]'(by rw [hfl]; exact hk0), List.getElem?_eq_getElem (by rw [hfl]; exact hk0)⟩
        rw [hv] at h4
        exact World.cell?_spot (a := ⟨bl, off, sp'⟩) (by simpa [Addr.add] using h4)
      subst hsp
      refine ⟨bl, off, rfl, trivial, fun j hj => ⟨?_, fun h => by cases h⟩⟩
      have hjk : j < len * k := by rw [hfm, hll] at hj; exact hj
      have hi : j / k < len := (Nat.div_lt_iff_lt_mul hk0).2 hjk
      have ho : j % k < k := Nat.mod_lt _ hk0
      have hjj : j / k * k + j % k = j := by rw [Nat.mul_comm]; exact Nat.div_add_mod j k
      have h1 := fm_get f k hk0 ((List.range len).map F) (fun a _ => hfl a) (j / k) (by rw [hll]; exact hi) (j % k) ho
      rw [hjj] at h1
      obtain ⟨_, h2, h3⟩ := World.cells?_some (hF (j / k) hi).1
      have h4 := h3 (j % k) ho
      have h5 : w.cell? ⟨bl, off + j, none⟩ = (f (F (j / k)))[j % k]? := by
        rw [← h4, Go.Deep.add_add, hjj]
        unfold Addr.add
        split
        · rename_i h0; rw [h0]; rfl
        · rfl
      rw [h5, ← List.getElem?_eq_getElem hj, h1]
      simp
theorem int_trod {n : Nat} {cs : List Value} {y : DataW H × List MemPlace} (h : DataW.trod enc Tryz.prog w 0 sp held n 3 cs = some y) : ∃ a : Int, i64 a ∧ cs = [.int .i64 a] := by
  obtain ⟨k, q0, _, w0⟩ := DataW.trod_int Tryz.underlying3 h
  have hk : -9223372036854775808 ≤ k ∧ k ≤ 9223372036854775807 := by simpa [Lit.wf, IntKind.min, IntKind.max, IntKind.signed, IntKind.bits] using w0
  exact ⟨k, hk, q0⟩
theorem u64_trod {n : Nat} {cs : List Value} {y : DataW H × List MemPlace} (h : DataW.trod enc Tryz.prog w 0 sp held n 50 cs = some y) : ∃ a : Nat, a < 18446744073709551616 ∧ cs = [.int .u64 (a : Nat)] := by
  obtain ⟨k, q0, _, w0⟩ := DataW.trod_int Tryz.underlying50 h
  have hk : 0 ≤ k ∧ k ≤ 18446744073709551615 := by simpa [Lit.wf, IntKind.min, IntKind.max, IntKind.signed, IntKind.bits] using w0
  obtain ⟨m, rfl⟩ := Int.eq_ofNat_of_zero_le hk.1
  exact ⟨m, by omega, q0⟩
set_option maxRecDepth 100000 in
theorem ver_trod {n : Nat} {cs : List Value} {y : DataW H × List MemPlace} (h : DataW.trod enc Tryz.prog w 0 sp held n 52 cs = some y) : ∃ a b : Nat, a < 18446744073709551616 ∧ b < 18446744073709551616 ∧ cs = [.int .u64 (a : Nat), .int .u64 (b : Nat)] := by
  obtain ⟨fs, hu, hf⟩ := verFields
  obtain ⟨hl, m, hm, hall⟩ := trod_fieldsC hu hf h
  rw [cVer] at hl
  match cs, hl with
  | [c0, c1], _ =>
    obtain ⟨_, a0⟩ := hall 0 (by simp)
    obtain ⟨_, a1⟩ := hall 1 (by simp)
    simp only [List.getElem_cons_zero, List.getElem_cons_succ, cU1, List.drop_zero, List.drop_succ_cons, List.take_succ_cons, List.take_zero] at a0 a1
    obtain ⟨a, ha, e0⟩ := u64_trod a0
    obtain ⟨b, hb, e1⟩ := u64_trod a1
    simp only [List.cons.injEq, and_true] at e0 e1
    exact ⟨a, b, ha, hb, by rw [e0, e1]⟩
set_option maxRecDepth 100000 in
theorem ed_trod {n : Nat} {cs : List Value} {y : DataW H × List MemPlace} (h : DataW.trod enc Tryz.prog w 0 sp held n 54 cs = some y) : ∃ e : Ed, e.nums ∧ cs = e.vals := by
  obtain ⟨fs, hu, hf⟩ := edFields
  obtain ⟨hl, m, hm, hall⟩ := trod_fieldsC hu hf h
  rw [cEd] at hl
  match cs, hl with
  | [c0, c1, c2, c3, c4, c5, c6, c7, c8], _ =>
    obtain ⟨_, a0⟩ := hall 0 (by simp)
    obtain ⟨_, a1⟩ := hall 1 (by simp)
    obtain ⟨_, a2⟩ := hall 2 (by simp)
    obtain ⟨_, a3⟩ := hall 3 (by simp)
    obtain ⟨_, a4⟩ := hall 4 (by simp)
    obtain ⟨_, a5⟩ := hall 5 (by simp)
    obtain ⟨_, a6⟩ := hall 6 (by simp)
    simp only [List.getElem_cons_zero, List.getElem_cons_succ, cU1, cI1, cVer, List.drop_zero, List.drop_succ_cons, List.take_succ_cons, List.take_zero] at a0 a1 a2 a3 a4 a5 a6
    obtain ⟨b0, h0, e0⟩ := int_trod a0
    obtain ⟨b1, h1, e1⟩ := int_trod a1
    obtain ⟨b2, h2, e2⟩ := int_trod a2
    obtain ⟨b3, h3, e3⟩ := u64_trod a3
    obtain ⟨b4, b5, h4, h5, e4⟩ := ver_trod a4
    obtain ⟨b6, b7, h6, h7, e6⟩ := ver_trod a5
    obtain ⟨b8, h8, e8⟩ := int_trod a6
    simp only [List.cons.injEq, and_true] at e0 e1 e2 e3 e4 e6 e8
    obtain ⟨e4, e5⟩ := e4
    obtain ⟨e6, e7⟩ := e6
    exact ⟨⟨b0, b1, b2, b3, b4, b5, b6, b7, b8⟩, ⟨h0, h1, h2, h3, h4, h5, h6, h7, h8⟩, by rw [e0, e1, e2, e3, e4, e5, e6, e7, e8]; rfl⟩
set_option maxRecDepth 100000 in
theorem crt_trod {n : Nat} {cs : List Value} {y : DataW H × List MemPlace} (h : DataW.trod enc Tryz.prog w 0 sp held n 25 cs = some y) : ∃ c : Crt, c.nums ∧ RepC w (fun _ => True) false c (.agg cs.toArray) := by
  obtain ⟨fs, hu, hf⟩ := crtFields
  obtain ⟨hl, m, hm, hall⟩ := trod_fieldsC hu hf h
  rw [cCrt] at hl
  match cs, hl with
  | [c0, c1, c2, c3, c4], _ =>
    obtain ⟨_, a0⟩ := hall 0 (by simp)
    obtain ⟨_, a1⟩ := hall 1 (by simp)
    obtain ⟨_, a2⟩ := hall 2 (by simp)
    obtain ⟨_, a3⟩ := hall 3 (by simp)
    obtain ⟨_, a4⟩ := hall 4 (by simp)
    simp only [List.getElem_cons_zero, List.getElem_cons_succ, cI1, cS1, cS2, List.drop_zero, List.drop_succ_cons, List.take_succ_cons, List.take_zero] at a0 a1 a2 a3 a4
    obtain ⟨b0, h0, e0⟩ := int_trod a0
    obtain ⟨b2, h2, e2⟩ := int_trod a2
    obtain ⟨b3, h3, e3⟩ := int_trod a3
    simp only [List.cons.injEq, and_true] at e0 e2 e3
    obtain ⟨o, ho, so⟩ := row_of_trod (f := fun n : Int => [Value.int .i64 n]) (Q := i64) 0 Tryz.underlying22 cI1 (by omega) (fun _ => rfl) (fun _ _ _ h => int_trod h) a1
    obtain ⟨l, hl, sl⟩ := row_of_trod (f := Ed.vals) (Q := Ed.nums) ⟨0, 0, 0, 0, 0, 0, 0, 0, 0⟩ Tryz.underlying23 cEd (by omega) (fun _ => rfl) (fun _ _ _ h => ed_trod h) a4
    refine ⟨⟨b0, o, b2, b3, l⟩, ⟨h0, h2, h3, ho, hl⟩, c1, c4, by rw [e0, e2, e3], ?_, sl⟩
    rw [flat_ints] at so
    exact so
set_option maxRecDepth 100000 in
/-- An argument that is a certificate. -/
theorem open_crt {r : Reach} {b0 : Nat} {v : Value} {d : DataW H} {ps : List MemPlace} (hval : Value.okWide Tryz.prog w r b0 25 v)
    (h : DataW.Trod enc Tryz.prog w 0 sp held 25 v d ps) : ∃ c : Crt, c.nums ∧ RepC w (fun _ => True) false c v := by
  obtain ⟨cs, rfl, _⟩ := okWide_struct Tryz.underlying25 hval
  obtain ⟨fuel, hf⟩ := h
  obtain ⟨e, hn, he⟩ := crt_trod hf
  exact ⟨e, hn, by simpa [Value.cells] using he⟩
end
end Go.Proofs.YtagnalfkmdjajaaGreatDoor
namespace Go.Proofs.YtagnalfkmdjajaaGreatDoor
open Go.ChangeShapes Go.WideShapes Go.ChangeAt Go.RowKit Go
theorem iface_of_reads {n : String} {nm : String} {d : DataW Unit} {w : World} {g : Nat} {t : TypeId} {ms : Array (String × TypeId)} (hg : Tryz.prog.globalNamed n = some g) (ht : (Tryz.prog.globals[g]?).map (·.type) = some t)
    (hi : Tryz.prog.underlying t = some (.interface ms)) (h : Lib.VarReads Tryz.prog w n (.iface nm d)) : ∃ tp p, w.var? Tryz.prog n = some #[.iface tp p] := by
  obtain ⟨g', t', cs, fuel, p, h1, h2, h3, h4⟩ := h
  obtain rfl := Option.some.inj (hg.symm.trans h1)
  obtain rfl := Option.some.inj (ht.symm.trans h2)
  obtain ⟨_, u, v, hcs, _, _⟩ := iface_of_trod hi h4
  refine ⟨u, v, ?_⟩
  rw [h3]
  cases cs
  simp at hcs
  simp [hcs]
theorem tab_of_reads {n : String} {w : World} {g : Nat} {t e : TypeId} {m : Nat} {k : IntKind} {zs : List Int} (hg : Tryz.prog.globalNamed n = some g) (ht : (Tryz.prog.globals[g]?).map (·.type) = some t)
    (hu : Tryz.prog.underlying t = some (.array m e)) (he : Tryz.prog.underlying e = some (.int k)) (hce : Tryz.prog.cellsOf e = 1) (hct : Tryz.prog.cellsOf t = m)
    (h : Lib.VarReads Tryz.prog w n (Lib.tabData k zs)) : Lib.TabIs Tryz.prog w n k zs := by
  obtain ⟨g', t', cs, fuel, p, h1, h2, h3, h4⟩ := h
  obtain rfl := Option.some.inj (hg.symm.trans h1)
  obtain rfl := Option.some.inj (ht.symm.trans h2)
  have := Lib.cells_of_tab hu he hce hct h4
  unfold Lib.TabIs
  rw [h3, ← this]
theorem global_lt {n : String} {w : World} {g : Nat} {cs : Array Value} (hg : Tryz.prog.globalNamed n = some g) (h : w.var? Tryz.prog n = some cs) : g < w.heap.size := by
  unfold World.var? at h
  rw [hg] at h
  simp only [Option.bind_some] at h
  cases e : w.heap[g]? with
  | none => simp [e] at h
  | some o => exact (Array.getElem?_eq_some_iff.1 e).1
/-- What is listed in the rows of the chapter. -/
noncomputable def laidL : List (String × DataW Unit) := Rows.certBackRow.laid
theorem lv_of_laid {w : World} (h : laidMetH Tryz.prog laidL w) : Lv w.heap.size w := by
  rw [MakeChecks.laidMetH_plain _ _ _ (by kernel_rfl)] at h
  have m3 : ("internal/strconv.uint64pow10", (Rows.laid_internal_strconv_uint64pow10 : DataW Unit)) ∈ laidL := by repeat (first | exact List.Mem.head _ | apply List.Mem.tail)
  have m5 : ("strconv.ErrRange", (Rows.laid_strconv_ErrRange : DataW Unit)) ∈ laidL := by repeat (first | exact List.Mem.head _ | apply List.Mem.tail)
  have m6 : ("strconv.ErrSyntax", (Rows.laid_strconv_ErrSyntax : DataW Unit)) ∈ laidL := by repeat (first | exact List.Mem.head _ | apply List.Mem.tail)
  have e3 : (Rows.laid_internal_strconv_uint64pow10 : DataW Unit) = Lib.tabData .u64 Lib.pow10Tab := by rfl
  rw [e3] at m3
  have hT := tab_of_reads gTab (by kernel_rfl) (t := 212) (e := 50) (m := 20) (by kernel_rfl) (by kernel_rfl) (by kernel_rfl) (by kernel_rfl) (Lib.laidMet.reads h m3)
  have hS := iface_of_reads gSyn (t := 142) (by kernel_rfl) Tryz.underlying142 (Lib.laidMet.reads h m6)
  have hR := iface_of_reads gRng (t := 142) (by kernel_rfl) Tryz.underlying142 (Lib.laidMet.reads h m5)
  obtain ⟨t1, p1, e1⟩ := hS
  obtain ⟨t2, p2, e2⟩ := hR
  exact ⟨hT, ⟨t1, p1, e1⟩, ⟨t2, p2, e2⟩, global_lt gTab hT, global_lt gSyn e1, global_lt gRng e2⟩
theorem lq_of_laid {w : World} (h : laidMetH Tryz.prog laidL w) (hsh : w.ShapedOpen Tryz.prog) : Lq w.heap.size w := by
  obtain ⟨m, hm⟩ := cell_of_shapedOpen_int (P := Tryz.prog) (g := 0) (t := 3) (zero := #[.int .i64 0]) hsh (of_decide_eq_true (by kernel_rfl)) (by kernel_rfl) rfl (by kernel_rfl) (by kernel_rfl) Tryz.underlying3
  exact ⟨lv_of_laid h, ⟨m, hm⟩, World.block_lt_of_cell? w _ hm⟩
theorem handed_both {H : Type} {enc : TypeId × Value → H} {a : Assume} {C : Checked} {os : Os} {f : FuncId} {fn : Func} {s : ChangeSpec} {conds : List PathCond} {apart fresh handsOn again : Bool} {X : World → Array Value → Prop}
    (hX : ∀ (w w' : World) (args : Array Value), w.heap = w'.heap → X w args → X w' args)
    (own : ownKnob C.prog.godebug = none) (started : os.Started) (noInit : C.prog.inits.idxOf? f = none) (hfn : C.prog.funcs[f]? = some fn)
    (witness : ∃ (w : World) (tape : Tape) (i : Input), w.os = os ∧ (w.forCall tape i).Shaped C.prog ∧ i.vars = [] ∧ Input.okWide C.prog (w.forCall tape i) .any w.heap.size f i ∧
      ((s.pre enc C.prog fn conds apart (w.forCall tape i).memory i.args ∧ X (w.forCall tape i).memory i.args) ∧ sizedMet enc C.prog fn (OpenSpec.ofChange s) apart (w.forCall tape i).memory i.args) ∧ a.holds C.prog (lone (Frame.enter C.prog f i.args .normal) [] (w.forCall tape i)))
    (contract : ∀ (W : World) (base : Nat) (args : Array Value) (ds gs : List (DataW H)) (before : List MemPlace),
      (∀ (j : Nat) t v, fn.params[j]? = some t → args[j]? = some v → Value.okWide C.prog W .any base t v) →
      DataW.Whole enc C.prog fn.params.toList s.vars apart W args.toList ds gs before →
      W.ShapedOpen C.prog → X W args →
      Calls C.prog f args W fun e W' => ∃ v, e = .returned v ∧ s.post enc C.prog fn apart fresh handsOn again W args v W') :
    ReturnsInHanded a C os f .any (fun w args => (s.pre enc C.prog fn conds apart w args ∧ X w args) ∧ sizedMet enc C.prog fn (OpenSpec.ofChange s) apart w args) (s.post enc C.prog fn apart fresh handsOn again) := by
  refine returnsInHanded_of_calls own started noInit witness ?_
  intro w tape i _ hsh _ hok hpre hholds
  obtain ⟨_, _, _, fn', hfn', _, _, _, _, hval⟩ := hok
  have e : fn' = fn := Option.some.inj (hfn'.symm.trans hfn)
  subst e
  obtain ⟨⟨⟨ds, gs, before, hw, _⟩, hx⟩, _⟩ := hpre
  refine (contract (w.forCall tape i) w.heap.size i.args ds gs before hval (DataW.Whole.of_heap (w' := w.forCall tape i) (by rfl) hw) hsh (hX _ _ _ (by rfl) hx)).mono fun e W' ⟨v, he, hp⟩ => ?_
  subst he
  exact ChangeSpec.post_blind hp
noncomputable def laidW (os : Os) : World := World.laidAll Tryz.prog os laidL
theorem laidW_met (os : Os) (args : Array Value) : laidMetH Tryz.prog laidL ((laidW os).forCall (fun _ _ => 0) ⟨#[], args, []⟩).memory := by
  rw [MakeChecks.laidMetH_plain _ _ _ (by kernel_rfl)]
  exact laidMet_laidAll _ (by kernel_rfl) (by kernel_rfl)
theorem laidW_shaped (os : Os) (args : Array Value) : ((laidW os).forCall (fun _ _ => 0) ⟨#[], args, []⟩).Shaped Tryz.prog := World.shaped_of_ZipB (by kernel_rfl) (by kernel_rfl)
end Go.Proofs.YtagnalfkmdjajaaGreatDoor
namespace Go.Proofs.YtagnalfkmdjajaaGreatDoor
open Go
theorem certBack_named : Tryz.pinned.checked.prog.funcNamed Rows.certBackRow.func = some 3 := by kernel_rfl
set_option maxHeartbeats 8000000 in
theorem certBack_facts : joinedFacts Tryz.pinned.checked.prog 3 Tryz.f3 Rows.certBackSpec Rows.certBackRow = true := by
  unfold joinedFacts
  simp only [Bool.and_eq_true]
  repeat' apply And.intro
  all_goals decide +kernel
theorem certBack_wf : Rows.certBackRow.wfByText (OpenSpec.ofChange Rows.certBackSpec) = true := by kernel_rfl
theorem certBack_goes : false = Rows.certBackRow.goesBy Tryz.pinned.checked.prog := by kernel_rfl
theorem seat_main : Tryz.pinned.checked.prog.mainIs = some (true, "8a5706ba4683c1f1df362a4acbd49c507d24f9d15c8d9a0dafb09c8f649db4b7".toList) := by kernel_rfl
theorem seat_looks : true = Tryz.pinned.checked.prog.looks [] := by kernel_rfl
theorem certBack_stand : ([25, 3, 5].all fun u => !Tryz.pinned.checked.prog.wantsStandIn u) = true := by kernel_rfl
end Go.Proofs.YtagnalfkmdjajaaGreatDoor
namespace Go.Proofs.YtagnalfkmdjajaaGreatDoor
open Go.ChangeShapes Go.WideShapes Go.ChangeAt Go.RowKit Go
set_option linter.unusedVariables false
set_option linter.unusedSimpArgs false
theorem ev_laidOut : laidOutB Tryz.prog = true := by kernel_rfl
theorem certBack_own : ownKnob Tryz.prog.godebug = none := by kernel_rfl
set_option maxRecDepth 100000 in
theorem certBack_lifted (os : Os) (started : os.Started) (H : Type) (enc : TypeId × Value → H) :
    ReturnsInHanded {} Tryz.checked os 3 .any (fun w args => (Rows.certBackSpec.pre enc Tryz.prog Tryz.f3 [] false w args ∧ laidMetH Tryz.prog laidL w) ∧ sizedMet enc Tryz.prog Tryz.f3 (OpenSpec.ofChange Rows.certBackSpec) false w args)
      (Rows.certBackSpec.post enc Tryz.prog Tryz.f3 false true false false) := by
  refine handed_both (C := Tryz.checked) (X := fun w _ => laidMetH Tryz.prog laidL w) (fun _ _ _ hh h => h.of_heap hh) certBack_own started (by kernel_rfl) Tryz.func3
    (ChangeSpec.witness_shaped (enc := enc) (C := Tryz.checked) (os := os) (X := fun w _ => laidMetH Tryz.prog laidL w) false (laidW os) #[(.agg #[.int .i64 0, .slice none 0 0, .int .i64 0, .int .i64 0, .slice none 0 0]), (.agg #[.int .i64 0, .slice none 0 0, .int .i64 0, .int .i64 0, .slice none 0 0]), .int .i64 0, .int .u8 0] 8 (World.laidAll_os _ _ _)
      (laidW_shaped os _) (by kernel_rfl) (by kernel_rfl) (by kernel_rfl) (laidW_met os _)) ?_
  intro W base args ds gs before hval0 hW hsh hL
  have hval : ∀ (j : Nat) t v, Tryz.f3.params[j]? = some t → args[j]? = some v → Value.okWide Tryz.prog W .any base t v := hval0
  have hW' := hW
  obtain ⟨p, q, hA0, hV, rfl, _, _⟩ := hW
  have hA : DataW.TrodAll enc Tryz.prog W 0 (fun _ => true) true Tryz.f3.params.toList args.toList ds p := hA0
  rw [Tryz.params3] at hA hval
  obtain ⟨v0, v1, v2, v3, d0, d1, d2, d3, p0, p1, p2, p3, rfl, rfl, rfl, h0, h1, h2, h3⟩ := trodAll_four hA
  obtain ⟨rfl, rfl⟩ := trodVars_none hV
  obtain ⟨c0, n0, r0⟩ := open_crt (hval 0 _ v0 rfl rfl) h0
  obtain ⟨c1, n1, r1⟩ := open_crt (hval 1 _ v1 rfl rfl) h1
  obtain ⟨x, rfl, rfl, rfl, wx⟩ := open_int Tryz.underlying3 (hval 2 _ v2 rfl rfl) h2
  obtain ⟨y, rfl, rfl, rfl, wy⟩ := open_int Tryz.underlying5 (hval 3 _ v3 rfl rfl) h3
  have hx : -9223372036854775808 ≤ x ∧ x ≤ 9223372036854775807 := by simpa [Lit.wf, IntKind.min, IntKind.max, IntKind.signed, IntKind.bits] using wx
  have hy : 0 ≤ y ∧ y ≤ 255 := by simpa [Lit.wf, IntKind.min, IntKind.max, IntKind.signed, IntKind.bits] using wy
  simp only [List.append_nil] at hW'
  have lt0 : ∀ z ∈ p0, z.block < W.heap.size := fun z hz => by simpa using hW'.lt z (by simp [hz])
  have lt1 : ∀ z ∈ p1, z.block < W.heap.size := fun z hz => by simpa using hW'.lt z (by simp [hz])
  obtain ⟨u, rfl⟩ : ∃ u : UInt8, y = (u.toNat : Int) := ⟨y.toNat.toUInt8, by rw [u8_toNat (by omega)]; omega⟩
  refine (certBack_law _ _ c0 c1 v0 v1 x u W r0 r1 n0 n1 hx (lq_of_laid hL hsh)).mono fun e W' ⟨he, hb⟩ => ?_
  subst he
  exact ⟨_, rfl, _, _, _, [], _, [], hW', trodAll_mk1 (shut_bool Tryz.underlying4 _), trodAll_mk4 (Below.trod ev_laidOut (by kernel_rfl) (of_decide_eq_true (by kernel_rfl)) h0 hb lt0) (Below.trod ev_laidOut (by kernel_rfl) (of_decide_eq_true (by kernel_rfl)) h1 hb lt1) (shut_int Tryz.underlying3 wx) (shut_int Tryz.underlying5 wy), rfl, hb.frame _, fun h => by cases h⟩
theorem certBack_row : Rows.CertBackSaid :=
  OpenClaim.holds_of_wide 3 Tryz.f3 rfl rfl rfl rfl rfl rfl rfl ⟨rfl, rfl, rfl, rfl, rfl⟩ rfl rfl rfl rfl rfl certBack_named Tryz.func3 certBack_facts
    (of_decide_eq_true (by kernel_rfl)) (by unfold Func.isWrapper; first | (rw [if_pos (by decide +kernel)]; kernel_rfl) | (rw [if_neg (by decide +kernel)]; exact ⟨rfl, rfl⟩))
    (fun os started H enc _ => certBack_lifted os started H enc)
theorem certBack_card : Rows.CertBackCardSaid :=
  Claim7.holds_tied_plain_at .later [] [.data, .data, .data, .data, .sentinel, .sentinel, .pinned] true (true, "8a5706ba4683c1f1df362a4acbd49c507d24f9d15c8d9a0dafb09c8f649db4b7") true
    certBack_row (fun _ h => by cases h) certBack_wf (fun _ h => by cases h) certBack_row_tie rfl ⟨rfl, rfl⟩ seat_main rfl
    (fun f fn hf hfn => by
      obtain rfl : f = 3 := Option.some.inj (certBack_named.symm.trans hf) |>.symm
      obtain rfl : fn = Tryz.f3 := (Option.some.inj (Tryz.func3.symm.trans hfn)).symm
      exact ⟨seat_looks, fun j t ht => by
        rw [Tryz.params3] at ht
        have hm : t ∈ [25, 3, 5] := by
          have := Array.mem_of_getElem? ht
          simp at this ⊢
          omega
        have hs := List.all_eq_true.1 certBack_stand t hm
        simpa using hs⟩)
    certBack_goes
#print axioms certBack_card
end Go.Proofs.YtagnalfkmdjajaaGreatDoor
