/- Walks. -/
import Derived.Test.YtagnalfkmdjajaaGreatDoorYC87
import Derived.Handy
set_option maxHeartbeats 4000000
set_option maxRecDepth 100000
namespace Go.Proofs.YtagnalfkmdjajaaGreatDoor
open Go.RowKit Go
set_option linter.unusedVariables false
set_option linter.unusedSimpArgs false
theorem xh (wb : Nat) (W : World) : (nilAhead (Tryz.prog.types.size + Made.depth) 63 (.pointer (some ⟨wb, 0, none⟩)) "alibi/cert.many").run Tryz.prog W = .ok (some false) W := by kernel_rfl
theorem iw (wb : Nat) (W : World) : (nilAhead (Tryz.prog.types.size + Made.depth) 63 (.pointer (some ⟨wb, 0, none⟩)) "alibi/cert.whole").run Tryz.prog W = .ok (some false) W := by kernel_rfl
theorem bF {P : Program} {o : Oper} {a : Act} {w : World} {K : Act → World → Prop} {Q : Exit → Act → World → Prop} {name : String} {t : TypeId} {v : Value} {cap : Array Value} (x : Operand) (ho : o.op = .nilCheck x)
  (hx : a.eval x = .func (.method name) #[.iface t v] cap) (hn : (nilAhead (P.types.size + Made.depth) t v name).run P w = .ok (some false) w) (h : K (a.put o.dst (.func (.method name) #[.iface t v] cap)) w) : Oper.wp P o a w K Q := by
 unfold Oper.wp execOp
 simp only [ho, hx, List.getElem?_toArray, List.getElem?_cons_zero]
 simp [hn]
 exact h
theorem pg {P : Program} (w : World) (t tx ty e : TypeId) (ht : P.underlying t = some (.slice e)) (htx : P.underlying tx = some (.int .i64)) (hi : (P.info? e).isSome = true) (hz : ((P.info? e).bind (·.zero)).isSome = true) (ad : Option Addr) (n cap : Nat) (h63 : n ≤ cap) :
  (Builtin.append_ #[t, tx] ty #[.slice ad n cap, .int .i64 0]).run P w = .ok (.slice ad n cap) w := by
 obtain ⟨i, hi⟩ := Option.isSome_iff_exists.1 hi
 rw [hi] at hz
 obtain ⟨z, hz⟩ := Option.isSome_iff_exists.1 hz
 have hz : i.zero = some z := hz
 have hw0 : IntKind.i64.wrap 0 = 0 := rfl
 cases ad <;> simp [Builtin.append_, run_underlying ht, run_underlying htx, sizeOf, typeInfo, zeroValue, hi, hz, asInt, asIntOf, Question.forced, hw0, h63, storeCells]
theorem fM {P : Program} {o : Oper} {a : Act} {w : World} {K : Act → World → Prop} {Q : Exit → Act → World → Prop} {ad : Option Addr} {n cap : Nat} (s x : Operand) (t tx : TypeId) (ho : o.op = .call { callee := .builtin .append, args := #[s, x], argTypes := #[t, tx] }) {e : TypeId} (ht : P.underlying t = some (.slice e)) (htx : P.underlying tx = some (.int .i64))
  (hi : (P.info? e).isSome = true) (hz : ((P.info? e).bind (·.zero)).isSome = true) (hs : a.eval s = .slice ad n cap) (hx : a.eval x = .int .i64 0) (h63 : n ≤ cap) (h : K (a.put o.dst (.slice ad n cap)) w) : Oper.wp P o a w K Q := by
 unfold Oper.wp execOp
 simp only [ho, resolve, invoke, builtin, Sem.run_bind, Sem.run_pure, Result.andThen_ok, List.map_toArray, List.map_cons, List.map_nil, hs, hx, pg w t tx o.type e ht htx hi hz ad n cap h63]
 exact h
theorem mO {w : World} {b o : Nat} {v : Value} (h : w.cell? ⟨b, o, none⟩ = some v) : w.setCell ⟨b, o, none⟩ v = w := by
 have hh : (w.setCell ⟨b, o, none⟩ v).heap = w.heap := by
  apply Array.ext_getElem?
  intro k
  by_cases hk : k = b
  ·subst hk
   unfold World.cell? at h
   split at h
   ·rename_i c T fr hc
    simp only [Option.isSome_none, Bool.false_eq_true, if_false] at h
    have ho := (Array.getElem?_eq_some_iff.1 h).1
    simp only [World.setCell, Array.getElem?_modify, if_true, hc, Option.map_some, Option.isSome_none, Bool.false_eq_true, if_false]
    congr 2
    apply Array.ext_getElem?
    intro j
    rw [Array.getElem?_setIfInBounds]
    split
    ·rename_i e; subst e; rw [h]
    ·rfl
   ·cases h
  ·exact Below.heap_setCell _ _ _ _ hk
 cases w
 simp only [World.setCell] at hh ⊢
 simp only [hh]
theorem gm (n : Nat) (l : List Nat) : ae (n :: l) = ae [n] ++ ae l := by simp [ae]
theorem fO (a b : List Nat) : ae (a ++ b) = ae a ++ ae b := by simp [ae]
def av (e : Ed) (i : Nat) : Int := if i = 0 then e.a else if i = 1 then e.b else e.k
def avn (e : Ed) (i : Nat) : Nat := (av e i).toNat
def xv (e : Ed) (i : Nat) : Nat := if i = 0 then e.x else if i = 1 then e.sw else if i = 2 then e.sn else if i = 3 then e.mw else e.mn
def avV (e : Ed) (i : Nat) : Value := .int .i64 (av e i)
def xvV (e : Ed) (i : Nat) : Value := .int .u64 (xv e i : Nat)
theorem Ct {e : Ed} (h : e.nums ∧ e.ok) (i : Nat) : (0 ≤ av e i ∧ av e i ≤ 9223372036854775807) ∧ i64 (av e i) := by
 obtain ⟨⟨h1, h2, h3, _⟩, h4, h5, h6, h7, _⟩ := h
 unfold i64 at *
 unfold av
 split
 ·omega
 ·split <;> omega
theorem Fh {e : Ed} (h : e.nums ∧ e.ok) (i : Nat) : xv e i < 18446744073709551616 := by
 obtain ⟨⟨_, _, _, h1, h2, h3, h4, h5, _⟩, _⟩ := h
 unfold xv
 split
 ·exact h1
 ·split
  ·exact h2
  ·split
   ·exact h3
   ·split
    ·exact h4
    ·exact h5
theorem Cu (e : Ed) (i : Nat) : True := trivial
theorem dz (l : List Ed) : (l.flatMap Ed.pays).length = l.length * 9 := by
 induction l with
 | nil => rfl
 | cons e l ih => rw [List.flatMap_cons, List.length_append, ih]; simp [Ed.pays]; omega
theorem yO (S : Nat → Prop) (own : Bool) (cb wb : Nat) (o : List Int) (p q : Int) (ws : List Ed) (ad ad' : Option Addr) (cp cp' : Nat) (w : World) (hS : ∀ b, S b → b < wb) (hcb : cb < wb) (hc : w.heap[cb]? = some (.cells #[.int .i64 2, .slice ad o.length cp, .int .i64 p, .int .i64 q, .slice ad' ws.length cp'] 25 (0, 0))) (hp : 0 ≤ p ∧ i64 p) (hq : 0 ≤ q ∧ i64 q) (hw : Wr 67 5 w wb (.slice none 0 0) []) :
  Calls Tryz.prog 29 #[.pointer (some ⟨cb, 0, none⟩), .iface 63 (.pointer (some ⟨wb, 0, none⟩))] w (Wg 67 5 w wb (.slice none 0 0) (ae [p.toNat, q.toNat]) (.tuple #[])) := by
 have d0 : w.cell? ⟨cb, 0, none⟩ = some (.int .i64 2) := by rw [cell_of_row w _ 0 _ _ _ hc]; rfl
 have d2 : w.cell? ⟨cb, 2, none⟩ = some (.int .i64 p) := by rw [cell_of_row w _ 2 _ _ _ hc]; rfl
 have d3 : w.cell? ⟨cb, 3, none⟩ = some (.int .i64 q) := by rw [cell_of_row w _ 3 _ _ _ hc]; rfl
 have hcl : cb < w.heap.size := (Array.getElem?_eq_some_iff.1 hc).1
 have HW := hid hw
 have HP := hid (And.intro hp hq)
 clear hw hc hp hq
 go_enter Tryz.func29, Tryz.ntmps29
 go_upto_region 1 with fail
 refine ak (w0 := w) rfl [.eq (.iface 63 (.pointer (some ⟨wb, 0, none⟩))), .eq (.pointer (some ⟨cb, 0, none⟩)), .eq (.pointer (some ⟨cb, 0, none⟩)), .eq (.pointer (some ⟨cb, 2, none⟩)), .eq (.func (.method "alibi/cert.whole") #[.iface 63 (.pointer (some ⟨wb, 0, none⟩))] #[]), .eq (.func (.method "alibi/cert.whole") #[.iface 63 (.pointer (some ⟨wb, 0, none⟩))] #[]), .eq (.iface 63 (.pointer (some ⟨wb, 0, none⟩))), .tail] 7 [] [] (by kernel_rfl) ⟨?_, ?_, ?_, ?_, ?_, ?_, ?_, trivial⟩ trivial [fun vs w' => ∃ sv', Wr 67 5 w' wb sv' ([] ++ ae [p.toNat]) ∧ Wrote wb (.slice none 0 0) sv' w w'] ⟨?_, trivial⟩ (fun vs => [(17, (.iface 63 (.pointer (some ⟨wb, 0, none⟩)))), (18, (.pointer (some ⟨cb, 0, none⟩))), (19, (.pointer (some ⟨cb, 0, none⟩))), (20, (.pointer (some ⟨cb, 2, none⟩))), (21, (.func (.method "alibi/cert.whole") #[.iface 63 (.pointer (some ⟨wb, 0, none⟩))] #[])), (22, (.func (.method "alibi/cert.whole") #[.iface 63 (.pointer (some ⟨wb, 0, none⟩))] #[])), (23, (.iface 63 (.pointer (some ⟨wb, 0, none⟩)))), (24, vs 7)]) (fun _ => rfl) ?_
 ·refine rs fun S a wx K Q hR hK => ?_
  have t1 : a.tmps[1]? = some (.iface 63 (.pointer (some ⟨wb, 0, none⟩))) := hR.o 1
  go_simp
  exact hK _ _ br rfl
 ·refine rs fun S a wx K Q hR hK => ?_
  have t0 : a.tmps[0]? = some (.pointer (some ⟨cb, 0, none⟩)) := hR.o 0
  go_simp
  exact hK _ _ br rfl
 ·refine rs fun S a wx K Q hR hK => ?_
  have t18 := hR.q 1
  go_simp
  exact hK _ _ br rfl
 ·refine rs fun S a wx K Q hR hK => ?_
  have t19 := hR.q 2
  go_simp
  exact hK _ _ br rfl
 ·refine rs fun S a wx K Q hR hK => ?_
  have t17 := hR.q 0
  go_simp
  exact hK _ _ br rfl
 ·refine rs fun S a wx K Q hR hK => ?_
  have t21 := hR.q 4
  refine bF (.tmp 21) rfl (aI t21) (iw wb _) ?_
  exact hK _ _ br rfl
 ·refine rs fun S a wx K Q hR hK => ?_
  have t17 := hR.q 0
  go_simp
  exact hK _ _ br rfl
 ·refine ts fun vs a wx K Q hR hZ hK => ?_
  have t23 := hR.d 6 23
  rw [hR.eqs 6 _ rfl] at t23
  have t20 := hR.d 3 20
  rw [hR.eqs 3 _ rfl] at t20
  obtain ⟨hbel2, S2, hlow, hof⟩ := hZ
  have hwx := HW.out.below hbel2
  go_simp
  go_invoke
  go_simp
  go_at_call 171
  refine (eT wb _ [] cb 2 p 0 p.toNat wx hwx ((hbel2.cell (p := ⟨cb, 2, none⟩) hcl).trans d2) (by have := HP.out.1.1; omega) (by have := HP.out.1.2.2; omega) (.inl rfl) HP.out.1.2 (by simp)).mono ?_
  rintro e w2 ⟨rfl, sv2, hw2, ht2⟩
  exact hK _ _ ⟨sv2, hw2, (Wrote.of_below hbel2).trans ht2⟩
 intro vs wN hE hZ
 have HZ := hid hZ
 simp only [aP, List.foldl_cons, List.foldl_nil]
 clear hE hZ
 generalize vs 7 = vt
 go_simp
 obtain ⟨sv1, hw1, ht1⟩ := HZ.out
 have hlw := HW.out.lt
 have hcl1 : cb < wN.heap.size := by have := ht1.size; omega
 have e3 : wN.cell? ⟨cb, 3, none⟩ = some (.int .i64 q) := by rw [World.cell?_of_block (w := w) (a := ⟨cb, 3, none⟩) (ht1.keep cb hcl (by omega) (fun e => by cases e))]; exact d3
 have HT1 := hid ht1
 have HW1 := HW
 clear HW HZ ht1
 have HW := hid hw1
 clear hw1 d0 d2 d3
 go_wp2_with fail
 refine ak (w0 := wN) rfl [.eq (.iface 63 (.pointer (some ⟨wb, 0, none⟩))), .eq (.pointer (some ⟨cb, 0, none⟩)), .eq (.pointer (some ⟨cb, 0, none⟩)), .eq (.pointer (some ⟨cb, 3, none⟩)), .eq (.func (.method "alibi/cert.whole") #[.iface 63 (.pointer (some ⟨wb, 0, none⟩))] #[]), .eq (.func (.method "alibi/cert.whole") #[.iface 63 (.pointer (some ⟨wb, 0, none⟩))] #[]), .eq (.iface 63 (.pointer (some ⟨wb, 0, none⟩))), .tail] 7 [] [] (by kernel_rfl) ⟨?_, ?_, ?_, ?_, ?_, ?_, ?_, trivial⟩ trivial [fun vs w' => ∃ sv', Wr 67 5 w' wb sv' ([] ++ ae [p.toNat] ++ ae [q.toNat]) ∧ Wrote wb sv1 sv' wN w'] ⟨?_, trivial⟩ (fun vs => [(25, (.iface 63 (.pointer (some ⟨wb, 0, none⟩)))), (26, (.pointer (some ⟨cb, 0, none⟩))), (27, (.pointer (some ⟨cb, 0, none⟩))), (28, (.pointer (some ⟨cb, 3, none⟩))), (29, (.func (.method "alibi/cert.whole") #[.iface 63 (.pointer (some ⟨wb, 0, none⟩))] #[])), (30, (.func (.method "alibi/cert.whole") #[.iface 63 (.pointer (some ⟨wb, 0, none⟩))] #[])), (31, (.iface 63 (.pointer (some ⟨wb, 0, none⟩)))), (32, vs 7)]) (fun _ => rfl) ?_
 ·refine rs fun S a wx K Q hR hK => ?_
  have t1 : a.tmps[1]? = some (.iface 63 (.pointer (some ⟨wb, 0, none⟩))) := hR.o 1
  go_simp
  exact hK _ _ br rfl
 ·refine rs fun S a wx K Q hR hK => ?_
  have t0 : a.tmps[0]? = some (.pointer (some ⟨cb, 0, none⟩)) := hR.o 0
  go_simp
  exact hK _ _ br rfl
 ·refine rs fun S a wx K Q hR hK => ?_
  have t26 := hR.q 1
  go_simp
  exact hK _ _ br rfl
 ·refine rs fun S a wx K Q hR hK => ?_
  have t27 := hR.q 2
  go_simp
  exact hK _ _ br rfl
 ·refine rs fun S a wx K Q hR hK => ?_
  have t25 := hR.q 0
  go_simp
  exact hK _ _ br rfl
 ·refine rs fun S a wx K Q hR hK => ?_
  have t29 := hR.q 4
  refine bF (.tmp 29) rfl (aI t29) (iw wb _) ?_
  exact hK _ _ br rfl
 ·refine rs fun S a wx K Q hR hK => ?_
  have t25 := hR.q 0
  go_simp
  exact hK _ _ br rfl
 ·refine ts fun vs a wx K Q hR hZ hK => ?_
  have t31 := hR.d 6 31
  rw [hR.eqs 6 _ rfl] at t31
  have t28 := hR.d 3 28
  rw [hR.eqs 3 _ rfl] at t28
  obtain ⟨hbel2, S2, hlow, hof⟩ := hZ
  have hwx := HW.out.below hbel2
  go_simp
  go_invoke
  go_simp
  go_at_call 171
  refine (eT wb _ _ cb 3 q 0 q.toNat wx hwx ((hbel2.cell (p := ⟨cb, 3, none⟩) hcl1).trans e3) (by have := HP.out.2.1; omega) (by have := HP.out.2.2.2; omega) (.inl rfl) HP.out.2.2 (by have := aJ [p.toNat]; simp at this ⊢; omega)).mono ?_
  rintro e w2 ⟨rfl, sv2, hw2, ht2⟩
  exact hK _ _ ⟨sv2, hw2, (Wrote.of_below hbel2).trans ht2⟩
 intro vs wE hE hZ
 have HZ := hid hZ
 simp only [aP, List.foldl_cons, List.foldl_nil]
 clear hE hZ
 generalize vs 7 = vt
 go_simp
 (try (go_wp2_with fail))
 go_end0
 obtain ⟨sv2, hw2, ht2⟩ := HZ.out
 exact ⟨rfl, sv2, by rw [gm]; exact hw2, HT1.out.trans ht2⟩
theorem yP (S : Nat → Prop) (own : Bool) (cb wb : Nat) (o : List Int) (p q : Int) (ws : List Ed) (ad ad' : Option Addr) (cp cp' : Nat) (w : World) (hS : ∀ b, S b → b < wb) (hcb : cb < wb) (hc : w.heap[cb]? = some (.cells #[.int .i64 3, .slice ad o.length cp, .int .i64 p, .int .i64 q, .slice ad' ws.length cp'] 25 (0, 0))) (hp : 0 ≤ p ∧ i64 p) (hq : 0 ≤ q ∧ i64 q) (hw : Wr 67 5 w wb (.slice none 0 0) []) :
  Calls Tryz.prog 29 #[.pointer (some ⟨cb, 0, none⟩), .iface 63 (.pointer (some ⟨wb, 0, none⟩))] w (Wg 67 5 w wb (.slice none 0 0) (ae [p.toNat, q.toNat]) (.tuple #[])) := by
 have d0 : w.cell? ⟨cb, 0, none⟩ = some (.int .i64 3) := by rw [cell_of_row w _ 0 _ _ _ hc]; rfl
 have d2 : w.cell? ⟨cb, 2, none⟩ = some (.int .i64 p) := by rw [cell_of_row w _ 2 _ _ _ hc]; rfl
 have d3 : w.cell? ⟨cb, 3, none⟩ = some (.int .i64 q) := by rw [cell_of_row w _ 3 _ _ _ hc]; rfl
 have hcl : cb < w.heap.size := (Array.getElem?_eq_some_iff.1 hc).1
 have HW := hid hw
 have HP := hid (And.intro hp hq)
 clear hw hc hp hq
 go_enter Tryz.func29, Tryz.ntmps29
 go_upto_region 1 with fail
 refine ak (w0 := w) rfl [.eq (.iface 63 (.pointer (some ⟨wb, 0, none⟩))), .eq (.pointer (some ⟨cb, 0, none⟩)), .eq (.pointer (some ⟨cb, 0, none⟩)), .eq (.pointer (some ⟨cb, 2, none⟩)), .eq (.func (.method "alibi/cert.whole") #[.iface 63 (.pointer (some ⟨wb, 0, none⟩))] #[]), .eq (.func (.method "alibi/cert.whole") #[.iface 63 (.pointer (some ⟨wb, 0, none⟩))] #[]), .eq (.iface 63 (.pointer (some ⟨wb, 0, none⟩))), .tail] 7 [] [] (by kernel_rfl) ⟨?_, ?_, ?_, ?_, ?_, ?_, ?_, trivial⟩ trivial [fun vs w' => ∃ sv', Wr 67 5 w' wb sv' ([] ++ ae [p.toNat]) ∧ Wrote wb (.slice none 0 0) sv' w w'] ⟨?_, trivial⟩ (fun vs => [(17, (.iface 63 (.pointer (some ⟨wb, 0, none⟩)))), (18, (.pointer (some ⟨cb, 0, none⟩))), (19, (.pointer (some ⟨cb, 0, none⟩))), (20, (.pointer (some ⟨cb, 2, none⟩))), (21, (.func (.method "alibi/cert.whole") #[.iface 63 (.pointer (some ⟨wb, 0, none⟩))] #[])), (22, (.func (.method "alibi/cert.whole") #[.iface 63 (.pointer (some ⟨wb, 0, none⟩))] #[])), (23, (.iface 63 (.pointer (some ⟨wb, 0, none⟩)))), (24, vs 7)]) (fun _ => rfl) ?_
 ·refine rs fun S a wx K Q hR hK => ?_
  have t1 : a.tmps[1]? = some (.iface 63 (.pointer (some ⟨wb, 0, none⟩))) := hR.o 1
  go_simp
  exact hK _ _ br rfl
 ·refine rs fun S a wx K Q hR hK => ?_
  have t0 : a.tmps[0]? = some (.pointer (some ⟨cb, 0, none⟩)) := hR.o 0
  go_simp
  exact hK _ _ br rfl
 ·refine rs fun S a wx K Q hR hK => ?_
  have t18 := hR.q 1
  go_simp
  exact hK _ _ br rfl
 ·refine rs fun S a wx K Q hR hK => ?_
  have t19 := hR.q 2
  go_simp
  exact hK _ _ br rfl
 ·refine rs fun S a wx K Q hR hK => ?_
  have t17 := hR.q 0
  go_simp
  exact hK _ _ br rfl
 ·refine rs fun S a wx K Q hR hK => ?_
  have t21 := hR.q 4
  refine bF (.tmp 21) rfl (aI t21) (iw wb _) ?_
  exact hK _ _ br rfl
 ·refine rs fun S a wx K Q hR hK => ?_
  have t17 := hR.q 0
  go_simp
  exact hK _ _ br rfl
 ·refine ts fun vs a wx K Q hR hZ hK => ?_
  have t23 := hR.d 6 23
  rw [hR.eqs 6 _ rfl] at t23
  have t20 := hR.d 3 20
  rw [hR.eqs 3 _ rfl] at t20
  obtain ⟨hbel2, S2, hlow, hof⟩ := hZ
  have hwx := HW.out.below hbel2
  go_simp
  go_invoke
  go_simp
  go_at_call 171
  refine (eT wb _ [] cb 2 p 0 p.toNat wx hwx ((hbel2.cell (p := ⟨cb, 2, none⟩) hcl).trans d2) (by have := HP.out.1.1; omega) (by have := HP.out.1.2.2; omega) (.inl rfl) HP.out.1.2 (by simp)).mono ?_
  rintro e w2 ⟨rfl, sv2, hw2, ht2⟩
  exact hK _ _ ⟨sv2, hw2, (Wrote.of_below hbel2).trans ht2⟩
 intro vs wN hE hZ
 have HZ := hid hZ
 simp only [aP, List.foldl_cons, List.foldl_nil]
 clear hE hZ
 generalize vs 7 = vt
 go_simp
 obtain ⟨sv1, hw1, ht1⟩ := HZ.out
 have hlw := HW.out.lt
 have hcl1 : cb < wN.heap.size := by have := ht1.size; omega
 have e3 : wN.cell? ⟨cb, 3, none⟩ = some (.int .i64 q) := by rw [World.cell?_of_block (w := w) (a := ⟨cb, 3, none⟩) (ht1.keep cb hcl (by omega) (fun e => by cases e))]; exact d3
 have HT1 := hid ht1
 have HW1 := HW
 clear HW HZ ht1
 have HW := hid hw1
 clear hw1 d0 d2 d3
 go_wp2_with fail
 refine ak (w0 := wN) rfl [.eq (.iface 63 (.pointer (some ⟨wb, 0, none⟩))), .eq (.pointer (some ⟨cb, 0, none⟩)), .eq (.pointer (some ⟨cb, 0, none⟩)), .eq (.pointer (some ⟨cb, 3, none⟩)), .eq (.func (.method "alibi/cert.whole") #[.iface 63 (.pointer (some ⟨wb, 0, none⟩))] #[]), .eq (.func (.method "alibi/cert.whole") #[.iface 63 (.pointer (some ⟨wb, 0, none⟩))] #[]), .eq (.iface 63 (.pointer (some ⟨wb, 0, none⟩))), .tail] 7 [] [] (by kernel_rfl) ⟨?_, ?_, ?_, ?_, ?_, ?_, ?_, trivial⟩ trivial [fun vs w' => ∃ sv', Wr 67 5 w' wb sv' ([] ++ ae [p.toNat] ++ ae [q.toNat]) ∧ Wrote wb sv1 sv' wN w'] ⟨?_, trivial⟩ (fun vs => [(25, (.iface 63 (.pointer (some ⟨wb, 0, none⟩)))), (26, (.pointer (some ⟨cb, 0, none⟩))), (27, (.pointer (some ⟨cb, 0, none⟩))), (28, (.pointer (some ⟨cb, 3, none⟩))), (29, (.func (.method "alibi/cert.whole") #[.iface 63 (.pointer (some ⟨wb, 0, none⟩))] #[])), (30, (.func (.method "alibi/cert.whole") #[.iface 63 (.pointer (some ⟨wb, 0, none⟩))] #[])), (31, (.iface 63 (.pointer (some ⟨wb, 0, none⟩)))), (32, vs 7)]) (fun _ => rfl) ?_
 ·refine rs fun S a wx K Q hR hK => ?_
  have t1 : a.tmps[1]? = some (.iface 63 (.pointer (some ⟨wb, 0, none⟩))) := hR.o 1
  go_simp
  exact hK _ _ br rfl
 ·refine rs fun S a wx K Q hR hK => ?_
  have t0 : a.tmps[0]? = some (.pointer (some ⟨cb, 0, none⟩)) := hR.o 0
  go_simp
  exact hK _ _ br rfl
 ·refine rs fun S a wx K Q hR hK => ?_
  have t26 := hR.q 1
  go_simp
  exact hK _ _ br rfl
 ·refine rs fun S a wx K Q hR hK => ?_
  have t27 := hR.q 2
  go_simp
  exact hK _ _ br rfl
 ·refine rs fun S a wx K Q hR hK => ?_
  have t25 := hR.q 0
  go_simp
  exact hK _ _ br rfl
 ·refine rs fun S a wx K Q hR hK => ?_
  have t29 := hR.q 4
  refine bF (.tmp 29) rfl (aI t29) (iw wb _) ?_
  exact hK _ _ br rfl
 ·refine rs fun S a wx K Q hR hK => ?_
  have t25 := hR.q 0
  go_simp
  exact hK _ _ br rfl
 ·refine ts fun vs a wx K Q hR hZ hK => ?_
  have t31 := hR.d 6 31
  rw [hR.eqs 6 _ rfl] at t31
  have t28 := hR.d 3 28
  rw [hR.eqs 3 _ rfl] at t28
  obtain ⟨hbel2, S2, hlow, hof⟩ := hZ
  have hwx := HW.out.below hbel2
  go_simp
  go_invoke
  go_simp
  go_at_call 171
  refine (eT wb _ _ cb 3 q 0 q.toNat wx hwx ((hbel2.cell (p := ⟨cb, 3, none⟩) hcl1).trans e3) (by have := HP.out.2.1; omega) (by have := HP.out.2.2.2; omega) (.inl rfl) HP.out.2.2 (by have := aJ [p.toNat]; simp at this ⊢; omega)).mono ?_
  rintro e w2 ⟨rfl, sv2, hw2, ht2⟩
  exact hK _ _ ⟨sv2, hw2, (Wrote.of_below hbel2).trans ht2⟩
 intro vs wE hE hZ
 have HZ := hid hZ
 simp only [aP, List.foldl_cons, List.foldl_nil]
 clear hE hZ
 generalize vs 7 = vt
 go_simp
 (try (go_wp2_with fail))
 go_end0
 obtain ⟨sv2, hw2, ht2⟩ := HZ.out
 exact ⟨rfl, sv2, by rw [gm]; exact hw2, HT1.out.trans ht2⟩
theorem yQ (S : Nat → Prop) (own : Bool) (cb wb : Nat) (o : List Int) (p q : Int) (ws : List Ed) (ad ad' : Option Addr) (cp cp' : Nat) (w : World) (hS : ∀ b, S b → b < wb) (hcb : cb < wb) (hc : w.heap[cb]? = some (.cells #[.int .i64 1, .slice ad o.length cp, .int .i64 p, .int .i64 q, .slice ad' ws.length cp'] 25 (0, 0))) (ho : bn w S own o (.slice ad o.length cp)) (hn : ∀ n ∈ o, 0 ≤ n ∧ i64 n) (hl : o.length ≤ 65536) (hcp : o.length ≤ cp) (hw : Wr 67 5 w wb (.slice none 0 0) []) :
  Calls Tryz.prog 29 #[.pointer (some ⟨cb, 0, none⟩), .iface 63 (.pointer (some ⟨wb, 0, none⟩))] w (Wg 67 5 w wb (.slice none 0 0) (ae (o.length :: o.map Int.toNat)) (.tuple #[])) := by
 have d1 : w.cell? ⟨cb, 1, none⟩ = some (.slice ad o.length cp) := by rw [cell_of_row w _ 1 _ _ _ hc]; rfl
 have d0 : w.cell? ⟨cb, 0, none⟩ = some (.int .i64 1) := by rw [cell_of_row w _ 0 _ _ _ hc]; rfl
 have fz : w.frozen? ⟨cb, 1, none⟩ = false := by rw [frozen_of_row w _ 1 _ _ hc]
 have hcl : cb < w.heap.size := (Array.getElem?_eq_some_iff.1 hc).1
 have HW := hid hw
 have HP := hid (And.intro ho hn)
 clear hw hc ho hn
 go_enter Tryz.func29, Tryz.ntmps29
 go_upto_region 4 with fail
 refine ak (w0 := w) rfl [.eq (.iface 63 (.pointer (some ⟨wb, 0, none⟩))), .eq (.pointer (some ⟨cb, 0, none⟩)), .eq (.pointer (some ⟨cb, 0, none⟩)), .eq (.pointer (some ⟨cb, 1, none⟩)), .eq (.slice ad o.length cp), .eq (.int .i64 (o.length : Nat)), .eq (.func (.method "alibi/cert.many") #[.iface 63 (.pointer (some ⟨wb, 0, none⟩))] #[]), .eq (.func (.method "alibi/cert.many") #[.iface 63 (.pointer (some ⟨wb, 0, none⟩))] #[]), .eq (.iface 63 (.pointer (some ⟨wb, 0, none⟩))), .tail, .tail] 9 [10] [] (by kernel_rfl) ⟨?_, ?_, ?_, ?_, ?_, ?_, ?_, ?_, ?_, trivial⟩ trivial [fun vs w' => vs 9 = .int .i64 (o.length : Nat) ∧ ∃ sv', Wr 67 5 w' wb sv' ([] ++ ae [o.length]) ∧ Wrote wb (.slice none 0 0) sv' w w', fun vs w' => vs 10 = .int .i64 (o.length : Nat) ∧ ∃ sv', Wr 67 5 w' wb sv' ([] ++ ae [o.length]) ∧ Wrote wb (.slice none 0 0) sv' w w'] ⟨?_, ?_, trivial⟩ (fun vs => [(35, (.iface 63 (.pointer (some ⟨wb, 0, none⟩)))), (36, (.pointer (some ⟨cb, 0, none⟩))), (37, (.pointer (some ⟨cb, 0, none⟩))), (38, (.pointer (some ⟨cb, 1, none⟩))), (39, (.slice ad o.length cp)), (40, (.int .i64 (o.length : Nat))), (41, (.func (.method "alibi/cert.many") #[.iface 63 (.pointer (some ⟨wb, 0, none⟩))] #[])), (42, (.func (.method "alibi/cert.many") #[.iface 63 (.pointer (some ⟨wb, 0, none⟩))] #[])), (43, (.iface 63 (.pointer (some ⟨wb, 0, none⟩)))), (44, vs 9), (4, vs 10)]) (fun _ => rfl) ?_
 ·refine rs fun S a wx K Q hR hK => ?_
  have t1 : a.tmps[1]? = some (.iface 63 (.pointer (some ⟨wb, 0, none⟩))) := hR.o 1
  go_simp
  exact hK _ _ br rfl
 ·refine rs fun S a wx K Q hR hK => ?_
  have t0 : a.tmps[0]? = some (.pointer (some ⟨cb, 0, none⟩)) := hR.o 0
  go_simp
  exact hK _ _ br rfl
 ·refine rs fun S a wx K Q hR hK => ?_
  have t36 := hR.q 1
  go_simp
  exact hK _ _ br rfl
 ·refine rs fun S a wx K Q hR hK => ?_
  have t37 := hR.q 2
  go_simp
  exact hK _ _ br rfl
 ·refine rs fun S a wx K Q hR hK => ?_
  have t38 := hR.q 3
  have y0 := (hR.bel.cell (p := ⟨cb, 1, none⟩) hcl).trans d1
  go_simp
  exact hK _ _ br rfl
 ·refine rs fun S a wx K Q hR hK => ?_
  have t39 := hR.q 4
  go_simp
  exact hK _ _ br rfl
 ·refine rs fun S a wx K Q hR hK => ?_
  have t35 := hR.q 0
  go_simp
  exact hK _ _ br rfl
 ·refine rs fun S a wx K Q hR hK => ?_
  have t41 := hR.q 6
  refine bF (.tmp 41) rfl (aI t41) (xh wb _) ?_
  exact hK _ _ br rfl
 ·refine rs fun S a wx K Q hR hK => ?_
  have t35 := hR.q 0
  go_simp
  exact hK _ _ br rfl
 ·refine ts fun vs a wx K Q hR hZ hK => ?_
  have t43 := hR.d 8 43
  rw [hR.eqs 8 _ rfl] at t43
  have t40 := hR.d 5 40
  rw [hR.eqs 5 _ rfl] at t40
  obtain ⟨hbel2, S2, hlow, hof⟩ := hZ
  have hwx := HW.out.below hbel2
  go_simp
  go_invoke
  go_simp
  go_at_call 170
  refine (qK wb _ [] o.length wx hwx (by omega) (by simp)).mono ?_
  rintro e w2 ⟨rfl, sv2, hw2, ht2⟩
  exact hK _ _ ⟨upd_self _ _ _, sv2, hw2, (Wrote.of_below hbel2).trans ht2⟩
 ·refine ts fun vs a wx K Q hR hZ hK => ?_
  have t44 := hR.d 9 44
  obtain ⟨ev, hz⟩ := hZ
  rw [ev] at t44
  have HZ := hid hz
  clear hz ev
  go_simp
  exact hK _ _ ⟨upd_self _ _ _, HZ.out⟩
 intro vs wN hE hZ
 obtain ⟨ev, hZ⟩ := hZ
 have HZ := hid hZ
 simp only [ev, aP, List.foldl_cons, List.foldl_nil]
 clear hE hZ ev
 generalize vs 9 = vt
 go_simp
 obtain ⟨sv1, hw1, ht1⟩ := HZ.out
 have hlw := HW.out.lt
 have hcl1 : cb < wN.heap.size := by have := ht1.size; omega
 have u1 : wN.cell? ⟨cb, 1, none⟩ = some (.slice ad o.length cp) := by rw [World.cell?_of_block (w := w) (a := ⟨cb, 1, none⟩) (ht1.keep cb hcl (by omega) (fun e => by cases e))]; exact d1
 have v1 : wN.frozen? ⟨cb, 1, none⟩ = false := by rw [World.frozen?_of_block (w := w) (a := ⟨cb, 1, none⟩) (ht1.keep cb hcl (by omega) (fun e => by cases e))]; exact fz
 have H1 := hid (And.intro hw1 ht1)
 clear HZ hw1 ht1 d0
 go_upto_region 5 with fail
 refine ak (w0 := wN) rfl [.eq (.pointer (some ⟨cb, 0, none⟩)), .eq (.pointer (some ⟨cb, 0, none⟩)), .eq (.pointer (some ⟨cb, 0, none⟩)), .eq (.pointer (some ⟨cb, 1, none⟩)), .eq (.slice ad o.length cp), .eq (.int .i64 (o.length : Nat)), .eq (.pointer (some ⟨cb, 0, none⟩)), .eq (.pointer (some ⟨cb, 0, none⟩)), .eq (.pointer (some ⟨cb, 1, none⟩)), .eq (.slice ad o.length cp), .eq (.int .i64 (o.length : Nat)), .eq (.int .i64 0), .eq (.slice ad o.length cp), .eq (.pointer (some ⟨cb, 0, none⟩)), .eq (.pointer (some ⟨cb, 1, none⟩)), .tail] 15 [] [] (by kernel_rfl) ⟨?_, ?_, ?_, ?_, ?_, ?_, ?_, ?_, ?_, ?_, ?_, ?_, ?_, ?_, ?_, trivial⟩ trivial [fun vs w' => Below wN.heap.size wN w'] ⟨?_, trivial⟩ (fun vs => [(45, (.pointer (some ⟨cb, 0, none⟩))), (46, (.pointer (some ⟨cb, 0, none⟩))), (47, (.pointer (some ⟨cb, 0, none⟩))), (48, (.pointer (some ⟨cb, 1, none⟩))), (49, (.slice ad o.length cp)), (50, (.int .i64 (o.length : Nat))), (51, (.pointer (some ⟨cb, 0, none⟩))), (52, (.pointer (some ⟨cb, 0, none⟩))), (53, (.pointer (some ⟨cb, 1, none⟩))), (54, (.slice ad o.length cp)), (55, (.int .i64 (o.length : Nat))), (56, (.int .i64 0)), (57, (.slice ad o.length cp)), (58, (.pointer (some ⟨cb, 0, none⟩))), (59, (.pointer (some ⟨cb, 1, none⟩)))]) (fun _ => rfl) ?_
 ·refine rs fun S a wx K Q hR hK => ?_
  have t0 : a.tmps[0]? = some (.pointer (some ⟨cb, 0, none⟩)) := hR.o 0
  go_simp
  exact hK _ _ br rfl
 ·refine rs fun S a wx K Q hR hK => ?_
  have t0 : a.tmps[0]? = some (.pointer (some ⟨cb, 0, none⟩)) := hR.o 0
  go_simp
  exact hK _ _ br rfl
 ·refine rs fun S a wx K Q hR hK => ?_
  have t46 := hR.q 1
  go_simp
  exact hK _ _ br rfl
 ·refine rs fun S a wx K Q hR hK => ?_
  have t47 := hR.q 2
  go_simp
  exact hK _ _ br rfl
 ·refine rs fun S a wx K Q hR hK => ?_
  have t48 := hR.q 3
  have y0 := (hR.bel.cell (p := ⟨cb, 1, none⟩) hcl1).trans u1
  go_simp
  exact hK _ _ br rfl
 ·refine rs fun S a wx K Q hR hK => ?_
  have t4 : a.tmps[4]? = some (.int .i64 (o.length : Nat)) := hR.o 4
  go_simp
  exact hK _ _ br rfl
 ·refine rs fun S a wx K Q hR hK => ?_
  have t0 : a.tmps[0]? = some (.pointer (some ⟨cb, 0, none⟩)) := hR.o 0
  go_simp
  exact hK _ _ br rfl
 ·refine rs fun S a wx K Q hR hK => ?_
  have t51 := hR.q 6
  go_simp
  exact hK _ _ br rfl
 ·refine rs fun S a wx K Q hR hK => ?_
  have t52 := hR.q 7
  go_simp
  exact hK _ _ br rfl
 ·refine rs fun S a wx K Q hR hK => ?_
  have t53 := hR.q 8
  have y0 := (hR.bel.cell (p := ⟨cb, 1, none⟩) hcl1).trans u1
  go_simp
  exact hK _ _ br rfl
 ·refine rs fun S a wx K Q hR hK => ?_
  have t54 := hR.q 9
  go_simp
  exact hK _ _ br rfl
 ·refine rs fun S a wx K Q hR hK => ?_
  have t50 := hR.q 5
  have t55 := hR.q 10
  have y1 : IntKind.i64.wrap ((o.length : Int) - (o.length : Int)) = 0 := by rw [Int.sub_self]; rfl
  go_simp
  (try go_ints)
  exact hK _ _ br rfl
 ·refine rs fun S a wx K Q hR hK => ?_
  have t49 := hR.q 4
  have t56 := hR.q 11
  refine fM (.tmp 49) (.tmp 56) 22 3 rfl Tryz.underlying22 (by kernel_rfl) (by kernel_rfl) (by kernel_rfl) (aI t49) (aI t56) hcp ?_
  exact hK _ _ br rfl
 ·refine rs fun S a wx K Q hR hK => ?_
  have t45 := hR.q 0
  go_simp
  exact hK _ _ br rfl
 ·refine rs fun S a wx K Q hR hK => ?_
  have t58 := hR.q 13
  go_simp
  exact hK _ _ br rfl
 ·refine ts fun vs a wx K Q hR hZ hK => ?_
  have t59 := hR.d 14 59
  rw [hR.eqs 14 _ rfl] at t59
  have t57 := hR.d 12 57
  rw [hR.eqs 12 _ rfl] at t57
  obtain ⟨hbel2, S2, hlow, hof⟩ := hZ
  have c5 := (hbel2.cell (p := ⟨cb, 1, none⟩) hcl1).trans u1
  have f5 := (hbel2.frozen (p := ⟨cb, 1, none⟩) hcl1).trans v1
  have hs := mO c5
  go_simp
  (try rw [hs])
  exact hK undef _ hbel2
 intro vs wM hE hZ
 have HZ := hid hZ
 simp only [aP, List.foldl_cons, List.foldl_nil]
 clear hE hZ
 go_simp
 have hM : Wr 67 5 wM wb sv1 ([] ++ ae [o.length]) ∧ Wrote wb (.slice none 0 0) sv1 w wM := ⟨H1.out.1.below HZ.out, H1.out.2.trans (Wrote.of_below HZ.out)⟩
 have HM := hid hM
 have p1 : wM.cell? ⟨cb, 1, none⟩ = some (.slice ad o.length cp) := (HZ.out.cell (p := ⟨cb, 1, none⟩) hcl1).trans u1
 clear hM HZ u1 v1 H1 hcl1
 go_wp2_with fail
 go_loopw [65] (fun i wr => ∃ (j : Nat) (sv' : Value), j ≤ o.length ∧ i = .int .i64 j ∧ Hid (Wr 67 5 wr wb sv' (ae (o.length :: (o.take j).map Int.toNat)) ∧ Wrote wb (.slice none 0 0) sv' w wr)) (fun i _ => o.length - (intOf i).toNat)
 case atStart => exact ⟨0, sv1, by omega, rfl, hid ⟨by simpa using HM.out.1, HM.out.2⟩⟩
 case round =>
  clear HM p1
  obtain ⟨j, sv', hj, rfl, HR⟩ := hrel
  by_cases hlt : j < o.length
  ·have hlw := HW.out.lt
   have hsz := HR.out.2.size
   have hclr : cb < wr.heap.size := by omega
   have p1 : wr.cell? ⟨cb, 1, none⟩ = some (.slice ad o.length cp) := by rw [World.cell?_of_block (w := w) (a := ⟨cb, 1, none⟩) (HR.out.2.keep cb hcl (by omega) (fun e => by cases e))]; exact d1
   obtain ⟨bl, off, rfl, hSb, hbl, hcell⟩ := HP.out.1.cell (by omega)
   have hbw := hS bl hSb
   have g : wr.cell? ⟨bl, off + j, none⟩ = some (.int .i64 o[j]) := by rw [World.cell?_of_block (w := w) (a := ⟨bl, off + j, none⟩) (HR.out.2.keep bl hbl (by omega) (fun e => by cases e))]; exact (hcell j hlt).1
   have hblr : bl < wr.heap.size := by omega
   have HN := hid (HP.out.2 _ (List.getElem_mem hlt))
   have HT : Hid (ae (o.length :: (o.take (j + 1)).map Int.toNat) = ae (o.length :: (o.take j).map Int.toNat) ++ ae [o[j].toNat]) := hid (by
    rw [List.take_succ_eq_append_getElem hlt, List.map_append, ← List.cons_append, fO]; rfl)
   have hL : (ae (o.length :: (o.take j).map Int.toNat)).length ≤ 900000 := by have h1 := aJ (o.length :: (o.take j).map Int.toNat); have h2 : ((o.take j).map Int.toNat).length ≤ o.length := (by simp; omega); simp only [List.length_cons] at h1; omega
   have x1 : (0 : Int) ≤ (j : Int) := by omega
   have x2 : (j : Int) < (o.length : Int) := by omega
   generalize ae (o.length :: (o.take j).map Int.toNat) = L at HR HT hL
   have HW0 := HW
   clear hcell HW
   have HW := hid HR.out.1
   go_wp2_with fail
   refine ak (w0 := wr) rfl [.eq (.iface 63 (.pointer (some ⟨wb, 0, none⟩))), .eq (.pointer (some ⟨cb, 0, none⟩)), .eq (.pointer (some ⟨cb, 0, none⟩)), .eq (.pointer (some ⟨cb, 1, none⟩)), .eq (.slice (some ⟨bl, off, none⟩) o.length cp), .eq (.int .i64 (j : Nat)), .eq (.pointer (some ⟨bl, off + j, none⟩)), .eq (.func (.method "alibi/cert.whole") #[.iface 63 (.pointer (some ⟨wb, 0, none⟩))] #[]), .eq (.func (.method "alibi/cert.whole") #[.iface 63 (.pointer (some ⟨wb, 0, none⟩))] #[]), .eq (.iface 63 (.pointer (some ⟨wb, 0, none⟩))), .tail] 10 [] [] (by kernel_rfl) ⟨?_, ?_, ?_, ?_, ?_, ?_, ?_, ?_, ?_, ?_, trivial⟩ trivial [fun vs w' => ∃ sv2, Wr 67 5 w' wb sv2 (L ++ ae [o[j].toNat]) ∧ Wrote wb sv' sv2 wr w'] ⟨?_, trivial⟩ (fun vs => [(68, (.iface 63 (.pointer (some ⟨wb, 0, none⟩)))), (69, (.pointer (some ⟨cb, 0, none⟩))), (70, (.pointer (some ⟨cb, 0, none⟩))), (71, (.pointer (some ⟨cb, 1, none⟩))), (72, (.slice (some ⟨bl, off, none⟩) o.length cp)), (73, (.int .i64 (j : Nat))), (74, (.pointer (some ⟨bl, off + j, none⟩))), (75, (.func (.method "alibi/cert.whole") #[.iface 63 (.pointer (some ⟨wb, 0, none⟩))] #[])), (76, (.func (.method "alibi/cert.whole") #[.iface 63 (.pointer (some ⟨wb, 0, none⟩))] #[])), (77, (.iface 63 (.pointer (some ⟨wb, 0, none⟩)))), (78, vs 10)]) (fun _ => rfl) ?_
   ·refine rs fun S a wx K Q hR hK => ?_
    have t1 : a.tmps[1]? = some (.iface 63 (.pointer (some ⟨wb, 0, none⟩))) := hR.o 1
    go_simp
    exact hK _ _ br rfl
   ·refine rs fun S a wx K Q hR hK => ?_
    have t0 : a.tmps[0]? = some (.pointer (some ⟨cb, 0, none⟩)) := hR.o 0
    go_simp
    exact hK _ _ br rfl
   ·refine rs fun S a wx K Q hR hK => ?_
    have t69 := hR.q 1
    go_simp
    exact hK _ _ br rfl
   ·refine rs fun S a wx K Q hR hK => ?_
    have t70 := hR.q 2
    go_simp
    exact hK _ _ br rfl
   ·refine rs fun S a wx K Q hR hK => ?_
    have t71 := hR.q 3
    have y0 := (hR.bel.cell (p := ⟨cb, 1, none⟩) hclr).trans p1
    go_simp
    exact hK _ _ br rfl
   ·refine rs fun S a wx K Q hR hK => ?_
    have t5 : a.tmps[5]? = some (.int .i64 (j : Nat)) := hR.o 5
    go_simp
    exact hK _ _ br rfl
   ·refine rs fun S a wx K Q hR hK => ?_
    have t72 := hR.q 4
    have t73 := hR.q 5
    go_simp
    exact hK _ _ br rfl
   ·refine rs fun S a wx K Q hR hK => ?_
    have t68 := hR.q 0
    go_simp
    exact hK _ _ br rfl
   ·refine rs fun S a wx K Q hR hK => ?_
    have t75 := hR.q 7
    refine bF (.tmp 75) rfl (aI t75) (iw wb _) ?_
    exact hK _ _ br rfl
   ·refine rs fun S a wx K Q hR hK => ?_
    have t68 := hR.q 0
    go_simp
    exact hK _ _ br rfl
   ·refine ts fun vs a wx K Q hR hZ hK => ?_
    have t77 := hR.d 9 77
    rw [hR.eqs 9 _ rfl] at t77
    have t74 := hR.d 6 74
    rw [hR.eqs 6 _ rfl] at t74
    obtain ⟨hbel2, S2, hlow, hof⟩ := hZ
    have hwx := HW.out.below hbel2
    go_simp
    go_invoke
    go_simp
    go_at_call 171
    refine (eT wb _ _ bl (off + j) o[j] 0 o[j].toNat wx hwx ((hbel2.cell (p := ⟨bl, off + j, none⟩) hblr).trans g) (by have := HN.out.1; omega) (by have := HN.out.2.2; omega) (.inl rfl) HN.out.2 hL).mono ?_
    rintro e w2 ⟨rfl, sv2, hw2, ht2⟩
    exact hK _ _ ⟨sv2, hw2, (Wrote.of_below hbel2).trans ht2⟩
   intro vs wQ hE hZ
   have HZ := hid hZ
   simp only [aP, List.foldl_cons, List.foldl_nil]
   clear hE hZ
   generalize vs 10 = vt
   go_simp
   go_wp2_with fail
   go_roundw
   case rel =>
    obtain ⟨sv2, hw2, ht2⟩ := HZ.out
    exact ⟨j + 1, sv2, by omega, by go_num, hid ⟨by rw [HT.out]; exact hw2, HR.out.2.trans ht2⟩⟩
   case measure => simp [intOf]; omega
  ·have hj2 : j = o.length := by omega
   subst hj2
   rw [List.take_length] at HR
   go_wp2_with fail
   go_end0
   exact ⟨rfl, sv', HR.out.1, HR.out.2⟩
theorem yR (S : Nat → Prop) (own : Bool) (cb wb : Nat) (o : List Int) (p q : Int) (ws : List Ed) (ad ad' : Option Addr) (cp cp' : Nat) (w : World) (hS : ∀ b, S b → b < wb) (hcb : cb < wb) (hc : w.heap[cb]? = some (.cells #[.int .i64 4, .slice ad o.length cp, .int .i64 p, .int .i64 q, .slice ad' ws.length cp'] 25 (0, 0))) (ho : aX w S own ws (.slice ad' ws.length cp')) (hn : ∀ e ∈ ws, e.nums ∧ e.ok) (hl : ws.length ≤ 1000) (hcp : ws.length ≤ cp') (hw : Wr 67 5 w wb (.slice none 0 0) []) :
  Calls Tryz.prog 29 #[.pointer (some ⟨cb, 0, none⟩), .iface 63 (.pointer (some ⟨wb, 0, none⟩))] w (Wg 67 5 w wb (.slice none 0 0) (ae (ws.length :: ws.flatMap Ed.pays)) (.tuple #[])) := by
 have d4 : w.cell? ⟨cb, 4, none⟩ = some (.slice ad' ws.length cp') := by rw [cell_of_row w _ 4 _ _ _ hc]; rfl
 have d0 : w.cell? ⟨cb, 0, none⟩ = some (.int .i64 4) := by rw [cell_of_row w _ 0 _ _ _ hc]; rfl
 have fz : w.frozen? ⟨cb, 4, none⟩ = false := by rw [frozen_of_row w _ 4 _ _ hc]
 have hcl : cb < w.heap.size := (Array.getElem?_eq_some_iff.1 hc).1
 have HW := hid hw
 have HP := hid (And.intro ho hn)
 clear hw hc ho hn
 go_enter Tryz.func29, Tryz.ntmps29
 go_upto_region 12 with fail
 refine ak (w0 := w) rfl [.eq (.iface 63 (.pointer (some ⟨wb, 0, none⟩))), .eq (.pointer (some ⟨cb, 0, none⟩)), .eq (.pointer (some ⟨cb, 0, none⟩)), .eq (.pointer (some ⟨cb, 4, none⟩)), .eq (.slice ad' ws.length cp'), .eq (.int .i64 (ws.length : Nat)), .eq (.func (.method "alibi/cert.many") #[.iface 63 (.pointer (some ⟨wb, 0, none⟩))] #[]), .eq (.func (.method "alibi/cert.many") #[.iface 63 (.pointer (some ⟨wb, 0, none⟩))] #[]), .eq (.iface 63 (.pointer (some ⟨wb, 0, none⟩))), .tail, .tail] 9 [10] [] (by kernel_rfl) ⟨?_, ?_, ?_, ?_, ?_, ?_, ?_, ?_, ?_, trivial⟩ trivial [fun vs w' => vs 9 = .int .i64 (ws.length : Nat) ∧ ∃ sv', Wr 67 5 w' wb sv' ([] ++ ae [ws.length]) ∧ Wrote wb (.slice none 0 0) sv' w w', fun vs w' => vs 10 = .int .i64 (ws.length : Nat) ∧ ∃ sv', Wr 67 5 w' wb sv' ([] ++ ae [ws.length]) ∧ Wrote wb (.slice none 0 0) sv' w w'] ⟨?_, ?_, trivial⟩ (fun vs => [(82, (.iface 63 (.pointer (some ⟨wb, 0, none⟩)))), (83, (.pointer (some ⟨cb, 0, none⟩))), (84, (.pointer (some ⟨cb, 0, none⟩))), (85, (.pointer (some ⟨cb, 4, none⟩))), (86, (.slice ad' ws.length cp')), (87, (.int .i64 (ws.length : Nat))), (88, (.func (.method "alibi/cert.many") #[.iface 63 (.pointer (some ⟨wb, 0, none⟩))] #[])), (89, (.func (.method "alibi/cert.many") #[.iface 63 (.pointer (some ⟨wb, 0, none⟩))] #[])), (90, (.iface 63 (.pointer (some ⟨wb, 0, none⟩)))), (91, vs 9), (6, vs 10)]) (fun _ => rfl) ?_
 ·refine rs fun S a wx K Q hR hK => ?_
  have t1 : a.tmps[1]? = some (.iface 63 (.pointer (some ⟨wb, 0, none⟩))) := hR.o 1
  go_simp
  exact hK _ _ br rfl
 ·refine rs fun S a wx K Q hR hK => ?_
  have t0 : a.tmps[0]? = some (.pointer (some ⟨cb, 0, none⟩)) := hR.o 0
  go_simp
  exact hK _ _ br rfl
 ·refine rs fun S a wx K Q hR hK => ?_
  have t83 := hR.q 1
  go_simp
  exact hK _ _ br rfl
 ·refine rs fun S a wx K Q hR hK => ?_
  have t84 := hR.q 2
  go_simp
  exact hK _ _ br rfl
 ·refine rs fun S a wx K Q hR hK => ?_
  have t85 := hR.q 3
  have y0 := (hR.bel.cell (p := ⟨cb, 4, none⟩) hcl).trans d4
  go_simp
  exact hK _ _ br rfl
 ·refine rs fun S a wx K Q hR hK => ?_
  have t86 := hR.q 4
  go_simp
  exact hK _ _ br rfl
 ·refine rs fun S a wx K Q hR hK => ?_
  have t82 := hR.q 0
  go_simp
  exact hK _ _ br rfl
 ·refine rs fun S a wx K Q hR hK => ?_
  have t88 := hR.q 6
  refine bF (.tmp 88) rfl (aI t88) (xh wb _) ?_
  exact hK _ _ br rfl
 ·refine rs fun S a wx K Q hR hK => ?_
  have t82 := hR.q 0
  go_simp
  exact hK _ _ br rfl
 ·refine ts fun vs a wx K Q hR hZ hK => ?_
  have t90 := hR.d 8 90
  rw [hR.eqs 8 _ rfl] at t90
  have t87 := hR.d 5 87
  rw [hR.eqs 5 _ rfl] at t87
  obtain ⟨hbel2, S2, hlow, hof⟩ := hZ
  have hwx := HW.out.below hbel2
  go_simp
  go_invoke
  go_simp
  go_at_call 170
  refine (qK wb _ [] ws.length wx hwx (by omega) (by simp)).mono ?_
  rintro e w2 ⟨rfl, sv2, hw2, ht2⟩
  exact hK _ _ ⟨upd_self _ _ _, sv2, hw2, (Wrote.of_below hbel2).trans ht2⟩
 ·refine ts fun vs a wx K Q hR hZ hK => ?_
  have t91 := hR.d 9 91
  obtain ⟨ev, hz⟩ := hZ
  rw [ev] at t91
  have HZ := hid hz
  clear hz ev
  go_simp
  exact hK _ _ ⟨upd_self _ _ _, HZ.out⟩
 intro vs wN hE hZ
 obtain ⟨ev, hZ⟩ := hZ
 have HZ := hid hZ
 simp only [ev, aP, List.foldl_cons, List.foldl_nil]
 clear hE hZ ev
 generalize vs 9 = vt
 go_simp
 obtain ⟨sv1, hw1, ht1⟩ := HZ.out
 have hlw := HW.out.lt
 have hcl1 : cb < wN.heap.size := by have := ht1.size; omega
 have u4 : wN.cell? ⟨cb, 4, none⟩ = some (.slice ad' ws.length cp') := by rw [World.cell?_of_block (w := w) (a := ⟨cb, 4, none⟩) (ht1.keep cb hcl (by omega) (fun e => by cases e))]; exact d4
 have v4 : wN.frozen? ⟨cb, 4, none⟩ = false := by rw [World.frozen?_of_block (w := w) (a := ⟨cb, 4, none⟩) (ht1.keep cb hcl (by omega) (fun e => by cases e))]; exact fz
 have H1 := hid (And.intro hw1 ht1)
 clear HZ hw1 ht1 d0
 go_upto_region 13 with fail
 refine ak (w0 := wN) rfl [.eq (.pointer (some ⟨cb, 0, none⟩)), .eq (.pointer (some ⟨cb, 0, none⟩)), .eq (.pointer (some ⟨cb, 0, none⟩)), .eq (.pointer (some ⟨cb, 4, none⟩)), .eq (.slice ad' ws.length cp'), .eq (.int .i64 (ws.length : Nat)), .eq (.pointer (some ⟨cb, 0, none⟩)), .eq (.pointer (some ⟨cb, 0, none⟩)), .eq (.pointer (some ⟨cb, 4, none⟩)), .eq (.slice ad' ws.length cp'), .eq (.int .i64 (ws.length : Nat)), .eq (.int .i64 0), .eq (.slice ad' ws.length cp'), .eq (.pointer (some ⟨cb, 0, none⟩)), .eq (.pointer (some ⟨cb, 4, none⟩)), .tail] 15 [] [] (by kernel_rfl) ⟨?_, ?_, ?_, ?_, ?_, ?_, ?_, ?_, ?_, ?_, ?_, ?_, ?_, ?_, ?_, trivial⟩ trivial [fun vs w' => Below wN.heap.size wN w'] ⟨?_, trivial⟩ (fun vs => [(92, (.pointer (some ⟨cb, 0, none⟩))), (93, (.pointer (some ⟨cb, 0, none⟩))), (94, (.pointer (some ⟨cb, 0, none⟩))), (95, (.pointer (some ⟨cb, 4, none⟩))), (96, (.slice ad' ws.length cp')), (97, (.int .i64 (ws.length : Nat))), (98, (.pointer (some ⟨cb, 0, none⟩))), (99, (.pointer (some ⟨cb, 0, none⟩))), (100, (.pointer (some ⟨cb, 4, none⟩))), (101, (.slice ad' ws.length cp')), (102, (.int .i64 (ws.length : Nat))), (103, (.int .i64 0)), (104, (.slice ad' ws.length cp')), (105, (.pointer (some ⟨cb, 0, none⟩))), (106, (.pointer (some ⟨cb, 4, none⟩)))]) (fun _ => rfl) ?_
 ·refine rs fun S a wx K Q hR hK => ?_
  have t0 : a.tmps[0]? = some (.pointer (some ⟨cb, 0, none⟩)) := hR.o 0
  go_simp
  exact hK _ _ br rfl
 ·refine rs fun S a wx K Q hR hK => ?_
  have t0 : a.tmps[0]? = some (.pointer (some ⟨cb, 0, none⟩)) := hR.o 0
  go_simp
  exact hK _ _ br rfl
 ·refine rs fun S a wx K Q hR hK => ?_
  have t93 := hR.q 1
  go_simp
  exact hK _ _ br rfl
 ·refine rs fun S a wx K Q hR hK => ?_
  have t94 := hR.q 2
  go_simp
  exact hK _ _ br rfl
 ·refine rs fun S a wx K Q hR hK => ?_
  have t95 := hR.q 3
  have y0 := (hR.bel.cell (p := ⟨cb, 4, none⟩) hcl1).trans u4
  go_simp
  exact hK _ _ br rfl
 ·refine rs fun S a wx K Q hR hK => ?_
  have t6 : a.tmps[6]? = some (.int .i64 (ws.length : Nat)) := hR.o 6
  go_simp
  exact hK _ _ br rfl
 ·refine rs fun S a wx K Q hR hK => ?_
  have t0 : a.tmps[0]? = some (.pointer (some ⟨cb, 0, none⟩)) := hR.o 0
  go_simp
  exact hK _ _ br rfl
 ·refine rs fun S a wx K Q hR hK => ?_
  have t98 := hR.q 6
  go_simp
  exact hK _ _ br rfl
 ·refine rs fun S a wx K Q hR hK => ?_
  have t99 := hR.q 7
  go_simp
  exact hK _ _ br rfl
 ·refine rs fun S a wx K Q hR hK => ?_
  have t100 := hR.q 8
  have y0 := (hR.bel.cell (p := ⟨cb, 4, none⟩) hcl1).trans u4
  go_simp
  exact hK _ _ br rfl
 ·refine rs fun S a wx K Q hR hK => ?_
  have t101 := hR.q 9
  go_simp
  exact hK _ _ br rfl
 ·refine rs fun S a wx K Q hR hK => ?_
  have t97 := hR.q 5
  have t102 := hR.q 10
  have y1 : IntKind.i64.wrap ((ws.length : Int) - (ws.length : Int)) = 0 := by rw [Int.sub_self]; rfl
  go_simp
  (try go_ints)
  exact hK _ _ br rfl
 ·refine rs fun S a wx K Q hR hK => ?_
  have t96 := hR.q 4
  have t103 := hR.q 11
  refine fM (.tmp 96) (.tmp 103) 23 3 rfl Tryz.underlying23 (by kernel_rfl) (by kernel_rfl) (by kernel_rfl) (aI t96) (aI t103) hcp ?_
  exact hK _ _ br rfl
 ·refine rs fun S a wx K Q hR hK => ?_
  have t92 := hR.q 0
  go_simp
  exact hK _ _ br rfl
 ·refine rs fun S a wx K Q hR hK => ?_
  have t105 := hR.q 13
  go_simp
  exact hK _ _ br rfl
 ·refine ts fun vs a wx K Q hR hZ hK => ?_
  have t106 := hR.d 14 106
  rw [hR.eqs 14 _ rfl] at t106
  have t104 := hR.d 12 104
  rw [hR.eqs 12 _ rfl] at t104
  obtain ⟨hbel2, S2, hlow, hof⟩ := hZ
  have c5 := (hbel2.cell (p := ⟨cb, 4, none⟩) hcl1).trans u4
  have f5 := (hbel2.frozen (p := ⟨cb, 4, none⟩) hcl1).trans v4
  have hs := mO c5
  go_simp
  (try rw [hs])
  exact hK undef _ hbel2
 intro vs wM hE hZ
 have HZ := hid hZ
 simp only [aP, List.foldl_cons, List.foldl_nil]
 clear hE hZ
 go_simp
 have hM : Wr 67 5 wM wb sv1 ([] ++ ae [ws.length]) ∧ Wrote wb (.slice none 0 0) sv1 w wM := ⟨H1.out.1.below HZ.out, H1.out.2.trans (Wrote.of_below HZ.out)⟩
 have HM := hid hM
 have p4 : wM.cell? ⟨cb, 4, none⟩ = some (.slice ad' ws.length cp') := (HZ.out.cell (p := ⟨cb, 4, none⟩) hcl1).trans u4
 clear hM HZ u4 v4 H1 hcl1
 go_wp2_with fail
 go_loopw [112] (fun i wr => ∃ (j : Nat) (sv' : Value), j ≤ ws.length ∧ i = .int .i64 j ∧ Hid (Wr 67 5 wr wb sv' (ae (ws.length :: (ws.take j).flatMap Ed.pays)) ∧ Wrote wb (.slice none 0 0) sv' w wr)) (fun i _ => ws.length - (intOf i).toNat)
 case atStart => exact ⟨0, sv1, by omega, rfl, hid ⟨by simpa using HM.out.1, HM.out.2⟩⟩
 case round =>
  clear HM p4
  obtain ⟨j, sv', hj, rfl, HR⟩ := hrel
  obtain ⟨wA, rfl⟩ : ∃ x : World, x = wr := ⟨_, rfl⟩
  by_cases hlt : j < ws.length
  ·have hlw := HW.out.lt
   have hsz := HR.out.2.size
   have hclr : cb < wA.heap.size := by omega
   have p4 : wA.cell? ⟨cb, 4, none⟩ = some (.slice ad' ws.length cp') := by rw [World.cell?_of_block (w := w) (a := ⟨cb, 4, none⟩) (HR.out.2.keep cb hcl (by omega) (fun e => by cases e))]; exact d4
   obtain ⟨bl, off, rfl, hSb, hbl, hcell⟩ := HP.out.1.cell (by omega)
   have hbw := hS bl hSb
   have HCELL : Hid (∀ wX sX, Wrote wb (.slice none 0 0) sX w wX → (wX.cell? ⟨bl, off + j * 9, none⟩ = some (.int .i64 ws[j].a) ∧ wX.cell? ⟨bl, off + j * 9 + 1, none⟩ = some (.int .i64 ws[j].b) ∧ wX.cell? ⟨bl, off + j * 9 + 2, none⟩ = some (.int .i64 ws[j].k) ∧ wX.cell? ⟨bl, off + j * 9 + 3, none⟩ = some (.int .u64 (ws[j].x : Nat)) ∧ wX.cell? ⟨bl, off + j * 9 + 4, none⟩ = some (.int .u64 (ws[j].sw : Nat)) ∧ wX.cell? ⟨bl, off + j * 9 + 5, none⟩ = some (.int .u64 (ws[j].sn : Nat)) ∧ wX.cell? ⟨bl, off + j * 9 + 6, none⟩ = some (.int .u64 (ws[j].mw : Nat)) ∧ wX.cell? ⟨bl, off + j * 9 + 7, none⟩ = some (.int .u64 (ws[j].mn : Nat)) ∧ wX.cell? ⟨bl, off + j * 9 + 8, none⟩ = some (.int .i64 ws[j].p))) := hid (fun wX sX hx => by
    have hk := fun o => World.cell?_of_block (w := w) (w' := wX) (a := ⟨bl, o, none⟩) (hx.keep bl hbl (by omega) (fun e => by cases e))
    simp only [hk]
    exact (hcell j hlt).1)
   have HN := hid (HP.out.2 _ (List.getElem_mem hlt))
   have HT : Hid (ae (ws.length :: (ws.take (j + 1)).flatMap Ed.pays) = ae (ws.length :: (ws.take j).flatMap Ed.pays) ++ ae ((List.range 3).map (avn ws[j])) ++ ae ((List.range 5).map (xv ws[j])) ++ ae [(ws[j].p + 1).toNat]) := hid (by
    rw [List.take_succ_eq_append_getElem hlt, List.flatMap_append, ← List.cons_append, fO]
    simp only [List.flatMap_cons, List.flatMap_nil, List.append_nil, List.append_assoc, ← fO]
    rfl)
   have hL : (ae (ws.length :: (ws.take j).flatMap Ed.pays)).length ≤ 800000 := by
    have h1 := aJ (ws.length :: (ws.take j).flatMap Ed.pays)
    have h2 := dz (ws.take j)
    have h3 : (ws.take j).length ≤ ws.length := (by simp; omega)
    simp only [List.length_cons] at h1; omega
   have x1 : (0 : Int) ≤ (j : Int) := by omega
   have x2 : (j : Int) < (ws.length : Int) := by omega
   generalize ae (ws.length :: (ws.take j).flatMap Ed.pays) = L at HR HT hL
   have HWW := hid HR.out.2
   have HW0 := HW
   clear hcell HW
   have HW := hid HR.out.1
   go_wp2_with fail
   clear p4
   refine aK (w0 := wA) rfl [.eq (.pointer (some ⟨bl, off + j * 9, none⟩)), .eq (.pointer (some ⟨bl, off + j * 9, none⟩)), .eq (.pointer (some ⟨bl, off + j * 9, none⟩)), .eq (.pointer (some ⟨bl, off + j * 9, none⟩)), .eq (.pointer (some ⟨bl, off + j * 9, none⟩)), .eq (.pointer (some ⟨bl, off + j * 9 + 1, none⟩)), .eq (.pointer (some ⟨bl, off + j * 9, none⟩)), .eq (.pointer (some ⟨bl, off + j * 9, none⟩)), .eq (.pointer (some ⟨bl, off + j * 9 + 2, none⟩)), .of (dZ 3 3 #[.pointer (some ⟨bl, off + j * 9, none⟩), .pointer (some ⟨bl, off + j * 9 + 1, none⟩), .pointer (some ⟨bl, off + j * 9 + 2, none⟩)]), .eq (.int .i64 3), .eq (.int .i64 0)] (by kernel_rfl) ⟨?_, ?_, ?_, ?_, ?_, ?_, ?_, ?_, ?_, ?_, ?_, ?_, ?_, trivial⟩ (fun vs => [(121, (.pointer (some ⟨bl, off + j * 9, none⟩))), (122, (.pointer (some ⟨bl, off + j * 9, none⟩))), (123, (.pointer (some ⟨bl, off + j * 9, none⟩))), (124, (.pointer (some ⟨bl, off + j * 9, none⟩))), (125, (.pointer (some ⟨bl, off + j * 9, none⟩))), (126, (.pointer (some ⟨bl, off + j * 9 + 1, none⟩))), (127, (.pointer (some ⟨bl, off + j * 9, none⟩))), (128, (.pointer (some ⟨bl, off + j * 9, none⟩))), (129, (.pointer (some ⟨bl, off + j * 9 + 2, none⟩))), (130, vs 9), (131, (.int .i64 3)), (132, (.int .i64 0))]) (fun _ => rfl) ?_
   ·refine rs fun S a wx K Q hR hK => ?_
    have t8 : a.tmps[8]? = some (.pointer (some ⟨bl, off + j * 9, none⟩)) := hR.o 8
    go_simp
    exact hK _ _ br rfl
   ·refine rs fun S a wx K Q hR hK => ?_
    have t121 := hR.q 0
    go_simp
    exact hK _ _ br rfl
   ·refine rs fun S a wx K Q hR hK => ?_
    have t122 := hR.q 1
    go_simp
    exact hK _ _ br rfl
   ·refine rs fun S a wx K Q hR hK => ?_
    have t8 : a.tmps[8]? = some (.pointer (some ⟨bl, off + j * 9, none⟩)) := hR.o 8
    go_simp
    exact hK _ _ br rfl
   ·refine rs fun S a wx K Q hR hK => ?_
    have t124 := hR.q 3
    go_simp
    exact hK _ _ br rfl
   ·refine rs fun S a wx K Q hR hK => ?_
    have t125 := hR.q 4
    go_simp
    exact hK _ _ br rfl
   ·refine rs fun S a wx K Q hR hK => ?_
    have t8 : a.tmps[8]? = some (.pointer (some ⟨bl, off + j * 9, none⟩)) := hR.o 8
    go_simp
    exact hK _ _ br rfl
   ·refine rs fun S a wx K Q hR hK => ?_
    have t127 := hR.q 6
    go_simp
    exact hK _ _ br rfl
   ·refine rs fun S a wx K Q hR hK => ?_
    have t128 := hR.q 7
    go_simp
    exact hK _ _ br rfl
   ·exact bS _ _ _
   ·refine rs fun S a wx K Q hR hK => ?_
    have t123 := hR.q 2
    have t126 := hR.q 5
    have t129 := hR.q 8
    go_simp
    exact hK _ _ (br.alloc nl _) ⟨_, _, rfl, hR.new _ nl, heap_alloc_new _ _⟩
   ·refine rs fun S a wx K Q hR hK => ?_
    obtain ⟨u130, t130, f130⟩ := hR.f 9
    obtain ⟨g0, T0, rfl, hgS, hgh⟩ := f130
    go_simp
    exact hK _ _ br rfl
   ·refine rs fun S a wx K Q hR hK => ?_
    go_simp
    exact hK _ _ br rfl
   intro S13 vs wd hD
   obtain ⟨g, T0, ev, hgS, hgh⟩ : dZ 3 3 #[.pointer (some ⟨bl, off + j * 9, none⟩), .pointer (some ⟨bl, off + j * 9 + 1, none⟩), .pointer (some ⟨bl, off + j * 9 + 2, none⟩)] S13 (vs 9) wd := hD.ofs 9 _ rfl
   have HD := hid (And.intro hgh (And.intro (hD.low g hgS) hD.bel))
   simp only [ev, aP, List.foldl_cons, List.foldl_nil]
   clear hD ev hgS hgh
   go_simp
   have HWD := hid (HWW.out.trans (Wrote.of_below (wb := wb) (sv := sv') HD.out.2.2))
   go_wp2_with fail
   go_loopw [132] (fun i wr => ∃ (i2 : Nat) (sv2 : Value), i2 ≤ 3 ∧ i = .int .i64 i2 ∧ Hid (Wr 67 5 wr wb sv2 (L ++ ae ((List.range i2).map (avn ws[j]))) ∧ Wrote wb sv' sv2 wd wr ∧ ∀ o, wr.cell? ⟨g, o, none⟩ = wd.cell? ⟨g, o, none⟩)) (fun i _ => 3 - (intOf i).toNat)
   case atStart => exact ⟨0, sv', by omega, rfl, hid ⟨by simpa [ae] using HW.out.below HD.out.2.2, Wrote.refl _ _ _, fun _ => rfl⟩⟩
   case round =>
    obtain ⟨i2, sv2, hi2, rfl, HQ⟩ := hrel
    obtain ⟨wB, rfl⟩ : ∃ x : World, x = wr := ⟨_, rfl⟩
    have hL2 : (L ++ ae ((List.range i2).map (avn ws[j]))).length ≤ 900000 := by have h1 := aJ ((List.range i2).map (avn ws[j])); simp only [List.length_append, List.length_map, List.length_range] at h1 ⊢; omega
    by_cases hlt2 : i2 < 3
    ·have h3 : i2 = 0 ∨ i2 = 1 ∨ i2 = 2 := by omega
     have hpt : wB.cell? ⟨g, i2, none⟩ = some (.pointer (some ⟨bl, off + j * 9 + i2, none⟩)) := by
      rw [HQ.out.2.2, cell_of_row wd _ i2 _ _ _ HD.out.1]
      rcases h3 with rfl | rfl | rfl <;> rfl
     have hcl2 : wB.cell? ⟨bl, off + j * 9 + i2, none⟩ = some (avV ws[j] i2) := by
      have hcs := HCELL.out wB sv2 (HWD.out.trans HQ.out.2.1)
      rcases h3 with rfl | rfl | rfl
      ·exact hcs.1
      ·exact hcs.2.1
      ·exact hcs.2.2.1
     have hgl : g < wd.heap.size := (Array.getElem?_eq_some_iff.1 HD.out.1).1
     have hlq := HQ.out.1.lt
     have hlw2 := HW.out.lt
     have hgq : g < wB.heap.size := by rcases Nat.lt_or_ge g wB.heap.size with h | h; exact h; exact absurd (World.block_lt_of_cell? wB _ hpt) (by simpa using h)
     have hgw : g ≠ wb ∧ sv2.ownBlock ≠ some g := ⟨by have := HD.out.2.1; omega, fun e => by
      rcases HQ.out.2.1.row with h | ⟨b, h, hb⟩
      ·rw [h] at e; have := (hlw2.2 _ e).2; have := HD.out.2.1; omega
      ·rw [h] at e; injection e with e; omega⟩
     have HV := hid (Cu ws[j] i2)
     go_wp2_with fail
     refine (eT wb _ _ bl (off + j * 9 + i2) (av ws[j] i2) 0 (av ws[j] i2).toNat _ HQ.out.1 hcl2 (by have := Ct HN.out i2; omega) (by have := Ct HN.out i2; omega) (.inl rfl) (Ct HN.out i2).2 hL2).mono ?_
     rintro e w2 ⟨rfl, sv3, hw3, ht3⟩
     have HZ := hid (And.intro hw3 ht3)
     clear hw3 ht3 hpt hcl2
     go_wp2_with fail
     go_roundw
     case rel =>
      refine ⟨i2 + 1, sv3, by omega, by go_num, hid ⟨?_, HQ.out.2.1.trans HZ.out.2, fun o => ?_⟩⟩
      ·rw [List.range_succ, List.map_append, fO, ← List.append_assoc]; simpa [avn] using HZ.out.1
      ·rw [← HQ.out.2.2 o]; exact World.cell?_of_block (w := wB) (a := ⟨g, o, none⟩) (HZ.out.2.keep g hgq hgw.1 hgw.2)
     case measure => simp [intOf]; omega
    ·have hi3 : i2 = 3 := by omega
     subst hi3
     have HW5 := hid HQ.out.1
     have HWW5 := hid (HWD.out.trans HQ.out.2.1)
     have hL5 : (L ++ ae ((List.range 3).map (avn ws[j]))).length ≤ 800100 := by have h1 := aJ ((List.range 3).map (avn ws[j])); simp only [List.length_append, List.length_map, List.length_range] at h1 ⊢; omega
     generalize L ++ ae ((List.range 3).map (avn ws[j])) = L5 at HT HW5 hL5
     have HR5 := HR
     have HDa := HD
     clear HW HWW HWD HD HQ hi2 hL2 hlt2 hL
     have HW := HW5
     have HWW := HWW5
     clear HW5 HWW5
     go_wp2_with fail
     refine aK (w0 := wB) rfl [.eq (.pointer (some ⟨bl, off + j * 9, none⟩)), .eq (.pointer (some ⟨bl, off + j * 9, none⟩)), .eq (.pointer (some ⟨bl, off + j * 9 + 3, none⟩)), .eq (.pointer (some ⟨bl, off + j * 9, none⟩)), .eq (.pointer (some ⟨bl, off + j * 9, none⟩)), .eq (.pointer (some ⟨bl, off + j * 9 + 4, none⟩)), .eq (.pointer (some ⟨bl, off + j * 9 + 4, none⟩)), .eq (.pointer (some ⟨bl, off + j * 9, none⟩)), .eq (.pointer (some ⟨bl, off + j * 9, none⟩)), .eq (.pointer (some ⟨bl, off + j * 9 + 4, none⟩)), .eq (.pointer (some ⟨bl, off + j * 9 + 5, none⟩)), .eq (.pointer (some ⟨bl, off + j * 9, none⟩)), .eq (.pointer (some ⟨bl, off + j * 9, none⟩)), .eq (.pointer (some ⟨bl, off + j * 9 + 6, none⟩)), .eq (.pointer (some ⟨bl, off + j * 9 + 6, none⟩)), .eq (.pointer (some ⟨bl, off + j * 9, none⟩)), .eq (.pointer (some ⟨bl, off + j * 9, none⟩)), .eq (.pointer (some ⟨bl, off + j * 9 + 6, none⟩)), .eq (.pointer (some ⟨bl, off + j * 9 + 7, none⟩)), .of (dZ 5 5 #[.pointer (some ⟨bl, off + j * 9 + 3, none⟩), .pointer (some ⟨bl, off + j * 9 + 4, none⟩), .pointer (some ⟨bl, off + j * 9 + 5, none⟩), .pointer (some ⟨bl, off + j * 9 + 6, none⟩), .pointer (some ⟨bl, off + j * 9 + 7, none⟩)]), .eq (.int .i64 5), .eq (.int .i64 0)] (by kernel_rfl) ⟨?_, ?_, ?_, ?_, ?_, ?_, ?_, ?_, ?_, ?_, ?_, ?_, ?_, ?_, ?_, ?_, ?_, ?_, ?_, ?_, ?_, ?_, ?_, trivial⟩ (fun vs => [(140, (.pointer (some ⟨bl, off + j * 9, none⟩))), (141, (.pointer (some ⟨bl, off + j * 9, none⟩))), (142, (.pointer (some ⟨bl, off + j * 9 + 3, none⟩))), (143, (.pointer (some ⟨bl, off + j * 9, none⟩))), (144, (.pointer (some ⟨bl, off + j * 9, none⟩))), (145, (.pointer (some ⟨bl, off + j * 9 + 4, none⟩))), (146, (.pointer (some ⟨bl, off + j * 9 + 4, none⟩))), (147, (.pointer (some ⟨bl, off + j * 9, none⟩))), (148, (.pointer (some ⟨bl, off + j * 9, none⟩))), (149, (.pointer (some ⟨bl, off + j * 9 + 4, none⟩))), (150, (.pointer (some ⟨bl, off + j * 9 + 5, none⟩))), (151, (.pointer (some ⟨bl, off + j * 9, none⟩))), (152, (.pointer (some ⟨bl, off + j * 9, none⟩))), (153, (.pointer (some ⟨bl, off + j * 9 + 6, none⟩))), (154, (.pointer (some ⟨bl, off + j * 9 + 6, none⟩))), (155, (.pointer (some ⟨bl, off + j * 9, none⟩))), (156, (.pointer (some ⟨bl, off + j * 9, none⟩))), (157, (.pointer (some ⟨bl, off + j * 9 + 6, none⟩))), (158, (.pointer (some ⟨bl, off + j * 9 + 7, none⟩))), (159, vs 19), (160, (.int .i64 5)), (161, (.int .i64 0))]) (fun _ => rfl) ?_
     ·refine rs fun S a wx K Q hR hK => ?_
      have t8 : a.tmps[8]? = some (.pointer (some ⟨bl, off + j * 9, none⟩)) := hR.o 8
      go_simp
      exact hK _ _ br rfl
     ·refine rs fun S a wx K Q hR hK => ?_
      have t140 := hR.q 0
      go_simp
      exact hK _ _ br rfl
     ·refine rs fun S a wx K Q hR hK => ?_
      have t141 := hR.q 1
      go_simp
      exact hK _ _ br rfl
     ·refine rs fun S a wx K Q hR hK => ?_
      have t8 : a.tmps[8]? = some (.pointer (some ⟨bl, off + j * 9, none⟩)) := hR.o 8
      go_simp
      exact hK _ _ br rfl
     ·refine rs fun S a wx K Q hR hK => ?_
      have t143 := hR.q 3
      go_simp
      exact hK _ _ br rfl
     ·refine rs fun S a wx K Q hR hK => ?_
      have t144 := hR.q 4
      go_simp
      exact hK _ _ br rfl
     ·refine rs fun S a wx K Q hR hK => ?_
      have t145 := hR.q 5
      go_simp
      exact hK _ _ br rfl
     ·refine rs fun S a wx K Q hR hK => ?_
      have t8 : a.tmps[8]? = some (.pointer (some ⟨bl, off + j * 9, none⟩)) := hR.o 8
      go_simp
      exact hK _ _ br rfl
     ·refine rs fun S a wx K Q hR hK => ?_
      have t147 := hR.q 7
      go_simp
      exact hK _ _ br rfl
     ·refine rs fun S a wx K Q hR hK => ?_
      have t148 := hR.q 8
      go_simp
      exact hK _ _ br rfl
     ·refine rs fun S a wx K Q hR hK => ?_
      have t149 := hR.q 9
      go_simp
      exact hK _ _ br rfl
     ·refine rs fun S a wx K Q hR hK => ?_
      have t8 : a.tmps[8]? = some (.pointer (some ⟨bl, off + j * 9, none⟩)) := hR.o 8
      go_simp
      exact hK _ _ br rfl
     ·refine rs fun S a wx K Q hR hK => ?_
      have t151 := hR.q 11
      go_simp
      exact hK _ _ br rfl
     ·refine rs fun S a wx K Q hR hK => ?_
      have t152 := hR.q 12
      go_simp
      exact hK _ _ br rfl
     ·refine rs fun S a wx K Q hR hK => ?_
      have t153 := hR.q 13
      go_simp
      exact hK _ _ br rfl
     ·refine rs fun S a wx K Q hR hK => ?_
      have t8 : a.tmps[8]? = some (.pointer (some ⟨bl, off + j * 9, none⟩)) := hR.o 8
      go_simp
      exact hK _ _ br rfl
     ·refine rs fun S a wx K Q hR hK => ?_
      have t155 := hR.q 15
      go_simp
      exact hK _ _ br rfl
     ·refine rs fun S a wx K Q hR hK => ?_
      have t156 := hR.q 16
      go_simp
      exact hK _ _ br rfl
     ·refine rs fun S a wx K Q hR hK => ?_
      have t157 := hR.q 17
      go_simp
      exact hK _ _ br rfl
     ·exact bS _ _ _
     ·refine rs fun S a wx K Q hR hK => ?_
      have t142 := hR.q 2
      have t146 := hR.q 6
      have t150 := hR.q 10
      have t154 := hR.q 14
      have t158 := hR.q 18
      go_simp
      exact hK _ _ (br.alloc nl _) ⟨_, _, rfl, hR.new _ nl, heap_alloc_new _ _⟩
     ·refine rs fun S a wx K Q hR hK => ?_
      obtain ⟨u159, t159, f159⟩ := hR.f 19
      obtain ⟨g0, T0, rfl, hgS, hgh⟩ := f159
      go_simp
      exact hK _ _ br rfl
     ·refine rs fun S a wx K Q hR hK => ?_
      go_simp
      exact hK _ _ br rfl
     intro S13 vs we hD
     obtain ⟨g, T0, ev, hgS, hgh⟩ : dZ 5 5 #[.pointer (some ⟨bl, off + j * 9 + 3, none⟩), .pointer (some ⟨bl, off + j * 9 + 4, none⟩), .pointer (some ⟨bl, off + j * 9 + 5, none⟩), .pointer (some ⟨bl, off + j * 9 + 6, none⟩), .pointer (some ⟨bl, off + j * 9 + 7, none⟩)] S13 (vs 19) we := hD.ofs 19 _ rfl
     have HD := hid (And.intro hgh (And.intro (hD.low g hgS) hD.bel))
     simp only [ev, aP, List.foldl_cons, List.foldl_nil]
     clear hD ev hgS hgh
     go_simp
     have HWD := hid (HWW.out.trans (Wrote.of_below (wb := wb) (sv := sv2) HD.out.2.2))
     go_wp2_with fail
     go_loopw [161] (fun i wr => ∃ (i2 : Nat) (sv4 : Value), i2 ≤ 5 ∧ i = .int .i64 i2 ∧ Hid (Wr 67 5 wr wb sv4 (L5 ++ ae ((List.range i2).map (xv ws[j]))) ∧ Wrote wb sv2 sv4 we wr ∧ ∀ o, wr.cell? ⟨g, o, none⟩ = we.cell? ⟨g, o, none⟩)) (fun i _ => 5 - (intOf i).toNat)
     case atStart => exact ⟨0, sv2, by omega, rfl, hid ⟨by simpa [ae] using HW.out.below HD.out.2.2, Wrote.refl _ _ _, fun _ => rfl⟩⟩
     case round =>
      obtain ⟨i2, sv4, hi2, rfl, HQ⟩ := hrel
      obtain ⟨wC, rfl⟩ : ∃ x : World, x = wr := ⟨_, rfl⟩
      have hL2 : (L5 ++ ae ((List.range i2).map (xv ws[j]))).length ≤ 900000 := by have h1 := aJ ((List.range i2).map (xv ws[j])); simp only [List.length_append, List.length_map, List.length_range] at h1 ⊢; omega
      by_cases hlt2 : i2 < 5
      ·have h3 : i2 = 0 ∨ i2 = 1 ∨ i2 = 2 ∨ i2 = 3 ∨ i2 = 4 := by omega
       have hpt : wC.cell? ⟨g, i2, none⟩ = some (.pointer (some ⟨bl, off + j * 9 + 3 + i2, none⟩)) := by
        rw [HQ.out.2.2, cell_of_row we _ i2 _ _ _ HD.out.1]
        rcases h3 with rfl | rfl | rfl | rfl | rfl <;> rfl
       have hcl2 : wC.cell? ⟨bl, off + j * 9 + 3 + i2, none⟩ = some (xvV ws[j] i2) := by
        have hcs := HCELL.out wC sv4 (HWD.out.trans HQ.out.2.1)
        rcases h3 with rfl | rfl | rfl | rfl | rfl
        ·exact hcs.2.2.2.1
        ·exact hcs.2.2.2.2.1
        ·exact hcs.2.2.2.2.2.1
        ·exact hcs.2.2.2.2.2.2.1
        ·exact hcs.2.2.2.2.2.2.2.1
       have hgl : g < we.heap.size := (Array.getElem?_eq_some_iff.1 HD.out.1).1
       have hlq := HQ.out.1.lt
       have hlw2 := HW.out.lt
       have hgq : g < wC.heap.size := by rcases Nat.lt_or_ge g wC.heap.size with h | h; exact h; exact absurd (World.block_lt_of_cell? wC _ hpt) (by simpa using h)
       have hgw : g ≠ wb ∧ sv4.ownBlock ≠ some g := ⟨by have := HD.out.2.1; omega, fun e => by
        rcases HQ.out.2.1.row with h | ⟨b, h, hb⟩
        ·rw [h] at e; have := (hlw2.2 _ e).2; have := HD.out.2.1; omega
        ·rw [h] at e; injection e with e; omega⟩
       have HV := hid (Cu ws[j] i2)
       go_wp2_with fail
       refine (yN wb _ _ bl (off + j * 9 + 3 + i2) (xv ws[j] i2) _ HQ.out.1 hcl2 (Fh HN.out i2) hL2).mono ?_
       rintro e w2 ⟨rfl, sv3, hw3, ht3⟩
       have HZ := hid (And.intro hw3 ht3)
       clear hw3 ht3 hpt hcl2
       go_wp2_with fail
       go_roundw
       case rel =>
        refine ⟨i2 + 1, sv3, by omega, by go_num, hid ⟨?_, HQ.out.2.1.trans HZ.out.2, fun o => ?_⟩⟩
        ·rw [List.range_succ, List.map_append, fO, ← List.append_assoc]; simpa [avn] using HZ.out.1
        ·rw [← HQ.out.2.2 o]; exact World.cell?_of_block (w := wC) (a := ⟨g, o, none⟩) (HZ.out.2.keep g hgq hgw.1 hgw.2)
       case measure => simp [intOf]; omega
      ·have hi3 : i2 = 5 := by omega
       subst hi3
       have HW6 := hid HQ.out.1
       have HWW6 := hid (HWD.out.trans HQ.out.2.1)
       have hL6 : (L5 ++ ae ((List.range 5).map (xv ws[j]))).length ≤ 800200 := by have h1 := aJ ((List.range 5).map (xv ws[j])); simp only [List.length_append, List.length_map, List.length_range] at h1 ⊢; omega
       generalize L5 ++ ae ((List.range 5).map (xv ws[j])) = L6 at HT HW6 hL6
       have hce := HCELL.out wC sv4 HWW6.out
       have h8 := hce.2.2.2.2.2.2.2.2
       have hblr : bl < wC.heap.size := World.block_lt_of_cell? wC _ h8
       clear HW HWW HWD HD HQ hi2 hL2 hlt2 hL5 hce
       have HW := HW6
       go_wp2_with fail
       refine ak (w0 := wC) rfl [.eq (.iface 63 (.pointer (some ⟨wb, 0, none⟩))), .eq (.pointer (some ⟨bl, off + j * 9, none⟩)), .eq (.pointer (some ⟨bl, off + j * 9, none⟩)), .eq (.pointer (some ⟨bl, off + j * 9 + 8, none⟩)), .eq (.func (.method "alibi/cert.whole") #[.iface 63 (.pointer (some ⟨wb, 0, none⟩))] #[]), .eq (.func (.method "alibi/cert.whole") #[.iface 63 (.pointer (some ⟨wb, 0, none⟩))] #[]), .eq (.iface 63 (.pointer (some ⟨wb, 0, none⟩))), .tail] 7 [] [] (by kernel_rfl) ⟨?_, ?_, ?_, ?_, ?_, ?_, ?_, trivial⟩ trivial [fun vs w' => ∃ sv9, Wr 67 5 w' wb sv9 (L6 ++ ae [(ws[j].p + 1).toNat]) ∧ Wrote wb sv4 sv9 wC w'] ⟨?_, trivial⟩ (fun vs => [(169, (.iface 63 (.pointer (some ⟨wb, 0, none⟩)))), (170, (.pointer (some ⟨bl, off + j * 9, none⟩))), (171, (.pointer (some ⟨bl, off + j * 9, none⟩))), (172, (.pointer (some ⟨bl, off + j * 9 + 8, none⟩))), (173, (.func (.method "alibi/cert.whole") #[.iface 63 (.pointer (some ⟨wb, 0, none⟩))] #[])), (174, (.func (.method "alibi/cert.whole") #[.iface 63 (.pointer (some ⟨wb, 0, none⟩))] #[])), (175, (.iface 63 (.pointer (some ⟨wb, 0, none⟩)))), (176, vs 7)]) (fun _ => rfl) ?_
       ·refine rs fun S a wx K Q hR hK => ?_
        have t1 : a.tmps[1]? = some (.iface 63 (.pointer (some ⟨wb, 0, none⟩))) := hR.o 1
        go_simp
        exact hK _ _ br rfl
       ·refine rs fun S a wx K Q hR hK => ?_
        have t8 : a.tmps[8]? = some (.pointer (some ⟨bl, off + j * 9, none⟩)) := hR.o 8
        go_simp
        exact hK _ _ br rfl
       ·refine rs fun S a wx K Q hR hK => ?_
        have t170 := hR.q 1
        go_simp
        exact hK _ _ br rfl
       ·refine rs fun S a wx K Q hR hK => ?_
        have t171 := hR.q 2
        go_simp
        exact hK _ _ br rfl
       ·refine rs fun S a wx K Q hR hK => ?_
        have t169 := hR.q 0
        go_simp
        exact hK _ _ br rfl
       ·refine rs fun S a wx K Q hR hK => ?_
        have t173 := hR.q 4
        refine bF (.tmp 173) rfl (aI t173) (iw wb _) ?_
        exact hK _ _ br rfl
       ·refine rs fun S a wx K Q hR hK => ?_
        have t169 := hR.q 0
        go_simp
        exact hK _ _ br rfl
       ·refine ts fun vs a wx K Q hR hZ hK => ?_
        have t175 := hR.d 6 175
        rw [hR.eqs 6 _ rfl] at t175
        have t172 := hR.d 3 172
        rw [hR.eqs 3 _ rfl] at t172
        obtain ⟨hbel2, S2, hlow, hof⟩ := hZ
        have hwx := HW.out.below hbel2
        go_simp
        go_invoke
        go_simp
        go_at_call 171
        refine (eT wb _ _ bl (off + j * 9 + 8) ws[j].p 1 (ws[j].p + 1).toNat wx hwx ((hbel2.cell (p := ⟨bl, off + j * 9 + 8, none⟩) hblr).trans h8) (by have := HN.out.2.2.2.2.2; omega) (by have := HN.out.1.2.2.2.2.2.2.2.2.2; omega) (.inr rfl) HN.out.1.2.2.2.2.2.2.2.2 (by omega)).mono ?_
        rintro e w2 ⟨rfl, sv9, hw2, ht2⟩
        exact hK _ _ ⟨sv9, hw2, (Wrote.of_below hbel2).trans ht2⟩
       intro vs wE hE hZ
       have HZ := hid hZ
       simp only [aP, List.foldl_cons, List.foldl_nil]
       clear hE hZ
       generalize vs 7 = vt
       go_simp
       go_wp2_with fail
       go_roundw
       case rel =>
        obtain ⟨sv9, hw9, ht9⟩ := HZ.out
        exact ⟨j + 1, sv9, by omega, by go_num, hid ⟨by rw [HT.out]; exact hw9, HWW6.out.trans ht9⟩⟩
       case measure => simp [intOf]; omega
  ·have hj2 : j = ws.length := by omega
   subst hj2
   rw [List.take_length] at HR
   have p4 : wA.cell? ⟨cb, 4, none⟩ = some (.slice ad' ws.length cp') := by have hlw := HW.out.lt; rw [World.cell?_of_block (w := w) (a := ⟨cb, 4, none⟩) (HR.out.2.keep cb hcl (by omega) (fun e => by cases e))]; exact d4
   go_wp2_with fail
   go_end0
   exact ⟨rfl, sv', HR.out.1, HR.out.2⟩
theorem vB (S : Nat → Prop) (own : Bool) (cb wb : Nat) (c : Crt) (ad ad' : Option Addr) (cp cp' : Nat) (w : World) (hS : ∀ b, S b → b < wb) (hcb : cb < wb) (hc : w.heap[cb]? = some (.cells #[.int .i64 c.k, .slice ad c.o.length cp, .int .i64 c.p, .int .i64 c.q, .slice ad' c.w.length cp'] 25 (0, 0)))
  (ho : bn w S own c.o (.slice ad c.o.length cp)) (hv : aX w S own c.w (.slice ad' c.w.length cp')) (h1 : c.o.length ≤ cp) (h2 : c.w.length ≤ cp') (hn : c.nums) (hr : c.right = true) (hl : c.w.length ≤ 1000) (hw : Wr 67 5 w wb (.slice none 0 0) []) :
  Calls Tryz.prog 29 #[.pointer (some ⟨cb, 0, none⟩), .iface 63 (.pointer (some ⟨wb, 0, none⟩))] w (Wg 67 5 w wb (.slice none 0 0) (ae c.pays) (.tuple #[])) := by
 obtain ⟨r1, r2, r3, r4, r5, r6, r7, r8, r9, r10, r11⟩ := Crt.nil_of hr
 obtain ⟨n1, n2, n3, n4, n5⟩ := hn
 obtain ⟨k, o, p, q, ws⟩ := c
 simp only at *
 obtain rfl | rfl | rfl | rfl : k = 1 ∨ k = 2 ∨ k = 3 ∨ k = 4 := by omega
 ·exact yQ S own cb wb o p q ws ad ad' cp cp' w hS hcb hc ho (fun n h => ⟨r8 n h, n4 n h⟩) r10 h1 hw
 ·exact yO S own cb wb o p q ws ad ad' cp cp' w hS hcb hc ⟨r6, n2⟩ ⟨r7, n3⟩ hw
 ·exact yP S own cb wb o p q ws ad ad' cp cp' w hS hcb hc ⟨r6, n2⟩ ⟨r7, n3⟩ hw
 ·exact yR S own cb wb o p q ws ad ad' cp cp' w hS hcb hc hv (fun e h => ⟨n5 e h, r9 e h⟩) hl h2 hw
end Go.Proofs.YtagnalfkmdjajaaGreatDoor
