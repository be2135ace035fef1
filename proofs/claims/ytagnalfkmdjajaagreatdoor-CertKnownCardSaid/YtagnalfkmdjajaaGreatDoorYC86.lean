/- Walks. -/
import Derived.Test.YtagnalfkmdjajaaGreatDoorYC85
set_option maxHeartbeats 4000000
set_option maxRecDepth 100000
namespace Go.Proofs.YtagnalfkmdjajaaGreatDoor
open Go.RowKit Go
set_option linter.unusedVariables false
set_option linter.unusedSimpArgs false
theorem mM (e : Ed) : (⟨e.text.toArray⟩ : ByteArray).toList.isEmpty = !decide e.ok := by
 rw [← Ak, Bool.eq_iff_iff]
 have := @Ed.text_nil e
 simp [this]
theorem wV (k : Int) (o : List Int) (p q : Int) (ws : List Ed) (ad ad' : Option Addr) (n m cp cp' : Nat) (w : World) (h1 : k < 1 ∨ 5 ≤ k) :
  Calls Tryz.prog 46 #[.agg #[.int .i64 k, .slice ad n cp, .int .i64 p, .int .i64 q, .slice ad' m cp']] w fun e w' => e = .returned (.bool (Crt.right ⟨k, o, p, q, ws⟩)) ∧ Below w.heap.size w w' := by
 have t1 : (k == 1) = false := by simp; omega
 have t2 : (k == 2) = false := by simp; omega
 have t3 : (k == 3) = false := by simp; omega
 have t4 : (k == 4) = false := by simp; omega
 have HE : Hid (false = Crt.right ⟨k, o, p, q, ws⟩) := hid (by
  rcases h1 with h | h
  ·have : ¬ 1 ≤ k := (by omega); simp [Crt.right, this]
  ·have : ¬ k < 5 := (by omega); simp [Crt.right, this])
 clear h1
 go_enter Tryz.func46, Tryz.ntmps46
 go_wp2_with fail
 refine bodyPost_ret (v := .bool false) ?_ rfl ⟨ai HE.out, (br.alloc nl _).alloc (by simp) _⟩
 exact results_tmp (t := 2) rfl _ _ _
theorem ja (k : Int) (x : Crt) (o : List Int) (p q : Int) (ws : List Ed) (hk : 1 ≤ k ∧ k < 5) (g1 : (o.any fun n => decide (n < 0)) = false) (g2 : (ws.any fun e => !decide e.ok) = false)
  (hx : decide (x = ⟨k, o, p, q, ws⟩) = ((k == 1 || o.isEmpty) && (k == 4 || ws.isEmpty) && (aR k || (p == 0 && q == 0)))) :
  Crt.right ⟨k, o, p, q, ws⟩ = (decide (x = ⟨k, o, p, q, ws⟩) && decide (0 ≤ p) && decide (0 ≤ q) && decide (o.length ≤ 65536) && decide (ws.length ≤ 65536)) := by
 rw [hx]
 simp only [Crt.right, ← iq, ← fZ, g1, g2, decide_eq_true hk.1, decide_eq_true hk.2]
 simp only [Bool.not_false, Bool.and_true, Bool.true_and]
 ac_rfl
theorem sM (o : List Int) (p q : Int) (ws : List Ed) (g1 : (o.any fun n => decide (n < 0)) = false) (g2 : (ws.any fun e => !decide e.ok) = false) :
  Crt.right ⟨1, o, p, q, ws⟩ = (decide ((⟨1, o, 0, 0, []⟩ : Crt) = ⟨1, o, p, q, ws⟩) && decide (0 ≤ p) && decide (0 ≤ q) && decide (o.length ≤ 65536) && decide (ws.length ≤ 65536)) := by
 refine ja 1 _ o p q ws (by omega) g1 g2 ?_
 rw [Bool.eq_iff_iff]
 simp only [decide_eq_true_eq, Crt.mk.injEq, true_and, Bool.and_eq_true, Bool.or_eq_true, beq_iff_eq, List.isEmpty_iff, aR]
 constructor
 ·rintro ⟨rfl, rfl, rfl⟩; simp
 ·rintro ⟨⟨_, h1 | h1⟩, h2 | ⟨rfl, rfl⟩⟩ <;> first | omega | (subst h1; exact ⟨rfl, rfl, rfl⟩)
theorem sN (o : List Int) (p q : Int) (ws : List Ed) (g1 : (o.any fun n => decide (n < 0)) = false) (g2 : (ws.any fun e => !decide e.ok) = false) :
  Crt.right ⟨4, o, p, q, ws⟩ = (decide ((⟨4, [], 0, 0, ws⟩ : Crt) = ⟨4, o, p, q, ws⟩) && decide (0 ≤ p) && decide (0 ≤ q) && decide (o.length ≤ 65536) && decide (ws.length ≤ 65536)) := by
 refine ja 4 _ o p q ws (by omega) g1 g2 ?_
 rw [Bool.eq_iff_iff]
 simp only [decide_eq_true_eq, Crt.mk.injEq, true_and, Bool.and_eq_true, Bool.or_eq_true, beq_iff_eq, List.isEmpty_iff, aR]
 constructor
 ·rintro ⟨rfl, rfl, rfl, _⟩; simp
 ·rintro ⟨⟨h1 | h1, _⟩, h2 | ⟨rfl, rfl⟩⟩ <;> first | omega | (subst h1; exact ⟨rfl, rfl, rfl, trivial⟩)
theorem kg (k : Int) (hk : k = 2 ∨ k = 3) (o : List Int) (p q : Int) (ws : List Ed) (g1 : (o.any fun n => decide (n < 0)) = false) (g2 : (ws.any fun e => !decide e.ok) = false) :
  Crt.right ⟨k, o, p, q, ws⟩ = (decide ((⟨k, [], p, q, []⟩ : Crt) = ⟨k, o, p, q, ws⟩) && decide (0 ≤ p) && decide (0 ≤ q) && decide (o.length ≤ 65536) && decide (ws.length ≤ 65536)) := by
 refine ja k _ o p q ws (by omega) g1 g2 ?_
 rw [Bool.eq_iff_iff]
 simp only [decide_eq_true_eq, Crt.mk.injEq, true_and, Bool.and_eq_true, Bool.or_eq_true, beq_iff_eq, List.isEmpty_iff, aR]
 constructor
 ·rintro ⟨rfl, rfl⟩; simp [hk]
 ·rintro ⟨⟨h1 | h1, h3 | h3⟩, _⟩ <;> first | omega | (subst h1 h3; exact ⟨rfl, rfl⟩)
theorem sO (o : List Int) (p q : Int) (ws : List Ed) (g1 : (o.any fun n => decide (n < 0)) = false) (g2 : (ws.any fun e => !decide e.ok) = false) :
  Crt.right ⟨2, o, p, q, ws⟩ = (decide ((⟨2, [], p, q, []⟩ : Crt) = ⟨2, o, p, q, ws⟩) && decide (0 ≤ p) && decide (0 ≤ q) && decide (o.length ≤ 65536) && decide (ws.length ≤ 65536)) := kg 2 (.inl rfl) o p q ws g1 g2
theorem sP (o : List Int) (p q : Int) (ws : List Ed) (g1 : (o.any fun n => decide (n < 0)) = false) (g2 : (ws.any fun e => !decide e.ok) = false) :
  Crt.right ⟨3, o, p, q, ws⟩ = (decide ((⟨3, [], p, q, []⟩ : Crt) = ⟨3, o, p, q, ws⟩) && decide (0 ≤ p) && decide (0 ≤ q) && decide (o.length ≤ 65536) && decide (ws.length ≤ 65536)) := kg 3 (.inr rfl) o p q ws g1 g2
theorem wW (S : Nat → Prop) (own : Bool) (o : List Int) (p q : Int) (ws : List Ed) (v : Value) (w : World) (h : aL w S own ⟨1, o, p, q, ws⟩ v) (hn : ∀ e ∈ ws, e.nums) (hL : Lq w.heap.size w) :
  Calls Tryz.prog 46 #[v] w fun e w' => e = .returned (.bool (Crt.right ⟨1, o, p, q, ws⟩)) ∧ Below w.heap.size w w' := by
 obtain ⟨ad, cp, ad', cp', rfl, ho, hw, l1, l2, k1, k2⟩ := h.shape
 clear h
 simp only at ho hw l1 l2 k1 k2 ⊢
 have hb0 : Below w.heap.size w ((w.alloc (.cells #[.int .i64 1, .slice ad o.length cp, .int .i64 p, .int .i64 q, .slice ad' ws.length cp'] 46)).alloc (.cells #[.int .i64 1, .slice ad o.length cp, .int .i64 0, .int .i64 0, .slice none 0 0] 46)) := (br.alloc nl _).alloc (by simp) _
 have q0 : ((w.alloc (.cells #[.int .i64 1, .slice ad o.length cp, .int .i64 p, .int .i64 q, .slice ad' ws.length cp'] 46)).alloc (.cells #[.int .i64 1, .slice ad o.length cp, .int .i64 0, .int .i64 0, .slice none 0 0] 46)).heap[w.heap.size]? = some (.cells #[.int .i64 1, .slice ad o.length cp, .int .i64 p, .int .i64 q, .slice ad' ws.length cp'] 46 (0, 0)) := (Below.heap_alloc _ _ _ (by simp)).trans (heap_alloc_new w _)
 have q1 : ((w.alloc (.cells #[.int .i64 1, .slice ad o.length cp, .int .i64 p, .int .i64 q, .slice ad' ws.length cp'] 46)).alloc (.cells #[.int .i64 1, .slice ad o.length cp, .int .i64 0, .int .i64 0, .slice none 0 0] 46)).heap[w.heap.size + 1]? = some (.cells #[.int .i64 1, .slice ad o.length cp, .int .i64 0, .int .i64 0, .slice none 0 0] 46 (0, 0)) := az _ _ _ (by simp)
 have zX : ((w.alloc (.cells #[.int .i64 1, .slice ad o.length cp, .int .i64 p, .int .i64 q, .slice ad' ws.length cp'] 46)).alloc (.cells #[.int .i64 1, .slice ad o.length cp, .int .i64 0, .int .i64 0, .slice none 0 0] 46)).heap.size = w.heap.size + 2 := by rw [World.size_alloc, World.size_alloc]
 have HH := hid (And.intro (ho.below hb0 nl) (And.intro (hw.below hb0 nl) (And.intro ((hL.below hb0).mono hb0.size) hn)))
 have HB0 := hid (And.intro hb0 (And.intro q0 (And.intro q1 zX)))
 clear hb0 ho hw hL hn q0 q1 zX
 go_enter Tryz.func46, Tryz.ntmps46
 go_upto_region 12 with fail
 generalize ((w.alloc (.cells #[.int .i64 1, .slice ad o.length cp, .int .i64 p, .int .i64 q, .slice ad' ws.length cp'] 46)).alloc (.cells #[.int .i64 1, .slice ad o.length cp, .int .i64 0, .int .i64 0, .slice none 0 0] 46)) = W at HH HB0 ⊢
 obtain ⟨hb0, q0, q1, zX⟩ := HB0.out
 have lx : w.heap.size < W.heap.size := by omega
 have ly : w.heap.size + 1 < W.heap.size := by omega
 have a0 : W.cell? ⟨w.heap.size, 0, none⟩ = some (.int .i64 1) := by rw [cell_of_row W _ 0 _ _ _ q0]; rfl
 have a1 : W.cell? ⟨w.heap.size, 1, none⟩ = some (.slice ad o.length cp) := by rw [cell_of_row W _ 1 _ _ _ q0]; rfl
 have a2 : W.cell? ⟨w.heap.size, 2, none⟩ = some (.int .i64 p) := by rw [cell_of_row W _ 2 _ _ _ q0]; rfl
 have a3 : W.cell? ⟨w.heap.size, 3, none⟩ = some (.int .i64 q) := by rw [cell_of_row W _ 3 _ _ _ q0]; rfl
 have a4 : W.cell? ⟨w.heap.size, 4, none⟩ = some (.slice ad' ws.length cp') := by rw [cell_of_row W _ 4 _ _ _ q0]; rfl
 have b0 : W.cell? ⟨w.heap.size + 1, 0, none⟩ = some (.int .i64 1) := by rw [cell_of_row W _ 0 _ _ _ q1]; rfl
 have b1 : W.cell? ⟨w.heap.size + 1, 1, none⟩ = some (.slice ad o.length cp) := by rw [cell_of_row W _ 1 _ _ _ q1]; rfl
 have b2 : W.cell? ⟨w.heap.size + 1, 2, none⟩ = some (.int .i64 0) := by rw [cell_of_row W _ 2 _ _ _ q1]; rfl
 have b3 : W.cell? ⟨w.heap.size + 1, 3, none⟩ = some (.int .i64 0) := by rw [cell_of_row W _ 3 _ _ _ q1]; rfl
 have b4 : W.cell? ⟨w.heap.size + 1, 4, none⟩ = some (.slice none 0 0) := by rw [cell_of_row W _ 4 _ _ _ q1]; rfl
 have HL := hid (And.intro lx ly)
 clear q0 q1 zX lx ly hb0
 go_wp2_with fail
 go_loopw [4] (fun i wr => ∃ j : Nat, i = .int .i64 j ∧ j ≤ o.length ∧ Hid ((o.take j).any (fun n => decide (n < 0)) = false) ∧ Below W.heap.size W wr) (fun i _ => o.length - (intOf i).toNat)
 case atStart => exact ⟨0, rfl, by omega, hid (by simp), br⟩
 case round =>
  obtain ⟨j, rfl, hj, hno, hb⟩ := hrel
  have HB := hid hb
  have p1 := (hb.cell (p := ⟨w.heap.size, 1, none⟩) HL.out.1).trans a1
  by_cases hlt : j < o.length
  ·obtain ⟨bl, off, rfl, _, _, r1⟩ := (HH.out.1.below hb nl).cell (by omega)
   have r1 := (r1 j hlt).1
   have x1 : (0 : Int) ≤ (j : Int) := by omega
   have x2 : (j : Int) < (o.length : Int) := by omega
   clear hb
   by_cases he : o[j] < 0
   ·have hq : decide (o[j] < 0) = true := by simpa using he
    have HX := hid (show false = Crt.right ⟨1, o, p, q, ws⟩ from by
     have : (o.all fun n => decide (0 ≤ n)) = false := by
      rw [← iq, bN (fun n => decide (n < 0)) o j hlt hq]; rfl
     simp [Crt.right, this])
    clear he hno
    go_wp2_with fail
    refine bodyPost_ret (v := .bool false) ?_ rfl ⟨ai HX.out, HB0.out.1.trans (HB.out.mono HB0.out.1.size)⟩
    exact results_tmp (t := 2) rfl _ _ _
   ·have hq : decide (o[j] < 0) = false := by simpa using he
    have HX := hid (bG (fun n => decide (n < 0)) o j hlt hno.out hq)
    clear he hno
    go_wp2_with fail
    go_roundw
    case rel => exact ⟨j + 1, by go_num, by omega, HX, HB.out⟩
    case measure => simp [intOf]; omega
  ·have hj2 : j = o.length := by omega
   subst hj2
   have HO : Hid ((o.any fun n => decide (n < 0)) = false) := hid (by have := hno.out; rwa [List.take_length] at this)
   have p4 := (hb.cell (p := ⟨w.heap.size, 4, none⟩) HL.out.1).trans a4
   clear hb hno hj
   go_wp2_with fail
   go_loopw [5] (fun i wr => ∃ j : Nat, i = .int .i64 j ∧ j ≤ ws.length ∧ Hid ((ws.take j).any (fun e => !decide e.ok) = false) ∧ Below W.heap.size W wr) (fun i _ => ws.length - (intOf i).toNat)
   case atStart => exact ⟨0, rfl, by omega, hid (by simp), HB.out⟩
   case round =>
    clear HB p1 p4
    obtain ⟨j, rfl, hj, hno, hb⟩ := hrel
    have HB := hid hb
    have p4 := (hb.cell (p := ⟨w.heap.size, 4, none⟩) HL.out.1).trans a4
    by_cases hlt2 : j < ws.length
    ·obtain ⟨bl, off, rfl, _, _, r1⟩ := (HH.out.2.1.below hb nl).cell (by omega)
     have r1 := (r1 j hlt2).1
     have c0 := r1.1
     have c1 := r1.2.1
     have c2 := r1.2.2.1
     have c3 := r1.2.2.2.1
     have c4 := r1.2.2.2.2.1
     have c5 := r1.2.2.2.2.2.1
     have c6 := r1.2.2.2.2.2.2.1
     have c7 := r1.2.2.2.2.2.2.2.1
     have c8 := r1.2.2.2.2.2.2.2.2
     have x1 : (0 : Int) ≤ (j : Int) := by omega
     have x2 : (j : Int) < (ws.length : Int) := by omega
     have hd := dW (e := ws[j]) (HH.out.2.2.2 _ (List.getElem_mem hlt2)) wr ((HH.out.2.2.1.below hb).mono hb.size)
     simp only [Ed.vals, str] at hd
     have HR := hid (mM ws[j])
     generalize (⟨ws[j].text.toArray⟩ : ByteArray) = DA at hd HR
     have HD := hid hd
     clear hd r1 hb
     by_cases he : ws[j].ok
     ·have hq : DA.toList.isEmpty = false := by rw [HR.out]; simpa using he
      have HX := hid (bG (fun e => !decide e.ok) ws j hlt2 hno.out (by simpa using he))
      clear he hno
      go_wp2_with fail
      refine HD.out.mono ?_
      rintro r w1 ⟨rfl, hb1⟩
      go_wp2_with fail
      go_roundw
      case rel => exact ⟨j + 1, by go_num, by omega, HX, HB.out.trans (hb1.mono HB.out.size)⟩
      case measure => simp [intOf]; omega
     ·have hq : DA.toList.isEmpty = true := by rw [HR.out]; simpa using he
      have HX := hid (show false = Crt.right ⟨1, o, p, q, ws⟩ from by
       have : (ws.all fun e => decide e.ok) = false := by
        rw [← fZ, bN (fun e => !decide e.ok) ws j hlt2 (by simpa using he)]; rfl
       simp only [Crt.right, this, Bool.and_false])
      clear he hno
      go_wp2_with fail
      refine HD.out.mono ?_
      rintro r w1 ⟨rfl, hb1⟩
      go_wp2_with fail
      refine bodyPost_ret (v := .bool false) ?_ rfl ⟨ai HX.out, HB0.out.1.trans ((HB.out.trans (hb1.mono HB.out.size)).mono HB0.out.1.size)⟩
      exact results_tmp (t := 2) rfl _ _ _
    ·have hj2 : j = ws.length := by omega
     subst hj2
     have HW : Hid ((ws.any fun e => !decide e.ok) = false) := hid (by have := hno.out; rwa [List.take_length] at this)
     have d0 := (hb.cell (p := ⟨w.heap.size, 0, none⟩) HL.out.1).trans a0
     have d1 := (hb.cell (p := ⟨w.heap.size, 1, none⟩) HL.out.1).trans a1
     have d2 := (hb.cell (p := ⟨w.heap.size, 2, none⟩) HL.out.1).trans a2
     have d3 := (hb.cell (p := ⟨w.heap.size, 3, none⟩) HL.out.1).trans a3
     have g0 := (hb.cell (p := ⟨w.heap.size + 1, 0, none⟩) HL.out.2).trans b0
     have g1 := (hb.cell (p := ⟨w.heap.size + 1, 1, none⟩) HL.out.2).trans b1
     have g2 := (hb.cell (p := ⟨w.heap.size + 1, 2, none⟩) HL.out.2).trans b2
     have g3 := (hb.cell (p := ⟨w.heap.size + 1, 3, none⟩) HL.out.2).trans b3
     have g4 := (hb.cell (p := ⟨w.heap.size + 1, 4, none⟩) HL.out.2).trans b4
     have ho := HH.out.1.below hb nl
     have hw := HH.out.2.1.below hb nl
     have HS := hid (bB S S own own ⟨1, o, 0, 0, []⟩ ⟨1, o, p, q, ws⟩ _ _ wr ⟨_, _, rfl, ho, aX.nil _ _ _⟩ ⟨_, _, rfl, ho, hw⟩)
     have HC : Hid (∀ w1, Below wr.heap.size wr w1 → (w1.cell? ⟨w.heap.size, 1, none⟩ = some (.slice ad o.length cp) ∧ w1.cell? ⟨w.heap.size, 2, none⟩ = some (.int .i64 p) ∧ w1.cell? ⟨w.heap.size, 3, none⟩ = some (.int .i64 q) ∧ w1.cell? ⟨w.heap.size, 4, none⟩ = some (.slice ad' ws.length cp')) ∧ Below w.heap.size w w1) := hid (fun w1 h1 =>
      have hl : w.heap.size < wr.heap.size := by have := HL.out.1; have := HB.out.size; omega
      ⟨⟨(h1.cell (p := ⟨w.heap.size, 1, none⟩) hl).trans d1, (h1.cell (p := ⟨w.heap.size, 2, none⟩) hl).trans d2, (h1.cell (p := ⟨w.heap.size, 3, none⟩) hl).trans d3, (h1.cell (p := ⟨w.heap.size, 4, none⟩) hl).trans p4⟩, HB0.out.1.trans ((HB.out.trans (h1.mono HB.out.size)).mono HB0.out.1.size)⟩)
     have HT := hid (sM o p q ws HO.out HW.out)
     generalize hsm : decide ((⟨1, o, 0, 0, []⟩ : Crt) = ⟨1, o, p, q, ws⟩) = sm at HS HT
     clear hb hno hj ho hw hsm HO HW
     cases sm with
     | false =>
      go_wp2_with (first | (go_at_call 53; refine HS.out.mono ?_; rintro r w1 ⟨rfl, hb1⟩; obtain ⟨⟨u1, u2, u3, u4⟩, hbw⟩ := HC.out w1 hb1; have HBW := hid hbw; clear hbw hb1) | fail)
      refine bodyPost_ret (v := .bool false) ?_ rfl ⟨ai (by rw [HT.out]; rfl), HBW.out⟩
      exact results_tmp (t := 2) rfl _ _ _
     | true =>
      go_wp2_with (first | (go_at_call 53; refine HS.out.mono ?_; rintro r w1 ⟨rfl, hb1⟩; obtain ⟨⟨u1, u2, u3, u4⟩, hbw⟩ := HC.out w1 hb1; have HBW := hid hbw; clear hbw hb1) | fail)
      all_goals (refine bodyPost_ret (results_tmp (t := 2) rfl _ _ _) rfl ⟨ai ?_, HBW.out⟩)
      all_goals (rw [HT.out, Bool.eq_iff_iff]; clear HT HC HS HBW; simp only [Bool.true_and, Bool.and_eq_true, decide_eq_true_eq, decide_eq_false_iff_not, Bool.false_eq_true, false_iff, iff_true, true_iff] at *; omega)
theorem wY (S : Nat → Prop) (own : Bool) (o : List Int) (p q : Int) (ws : List Ed) (v : Value) (w : World) (h : aL w S own ⟨2, o, p, q, ws⟩ v) (hn : ∀ e ∈ ws, e.nums) (hL : Lq w.heap.size w) :
  Calls Tryz.prog 46 #[v] w fun e w' => e = .returned (.bool (Crt.right ⟨2, o, p, q, ws⟩)) ∧ Below w.heap.size w w' := by
 obtain ⟨ad, cp, ad', cp', rfl, ho, hw, l1, l2, k1, k2⟩ := h.shape
 clear h
 simp only at ho hw l1 l2 k1 k2 ⊢
 have hb0 : Below w.heap.size w ((w.alloc (.cells #[.int .i64 2, .slice ad o.length cp, .int .i64 p, .int .i64 q, .slice ad' ws.length cp'] 46)).alloc (.cells #[.int .i64 2, .slice none 0 0, .int .i64 p, .int .i64 q, .slice none 0 0] 46)) := (br.alloc nl _).alloc (by simp) _
 have q0 : ((w.alloc (.cells #[.int .i64 2, .slice ad o.length cp, .int .i64 p, .int .i64 q, .slice ad' ws.length cp'] 46)).alloc (.cells #[.int .i64 2, .slice none 0 0, .int .i64 p, .int .i64 q, .slice none 0 0] 46)).heap[w.heap.size]? = some (.cells #[.int .i64 2, .slice ad o.length cp, .int .i64 p, .int .i64 q, .slice ad' ws.length cp'] 46 (0, 0)) := (Below.heap_alloc _ _ _ (by simp)).trans (heap_alloc_new w _)
 have q1 : ((w.alloc (.cells #[.int .i64 2, .slice ad o.length cp, .int .i64 p, .int .i64 q, .slice ad' ws.length cp'] 46)).alloc (.cells #[.int .i64 2, .slice none 0 0, .int .i64 p, .int .i64 q, .slice none 0 0] 46)).heap[w.heap.size + 1]? = some (.cells #[.int .i64 2, .slice none 0 0, .int .i64 p, .int .i64 q, .slice none 0 0] 46 (0, 0)) := az _ _ _ (by simp)
 have zX : ((w.alloc (.cells #[.int .i64 2, .slice ad o.length cp, .int .i64 p, .int .i64 q, .slice ad' ws.length cp'] 46)).alloc (.cells #[.int .i64 2, .slice none 0 0, .int .i64 p, .int .i64 q, .slice none 0 0] 46)).heap.size = w.heap.size + 2 := by rw [World.size_alloc, World.size_alloc]
 have HH := hid (And.intro (ho.below hb0 nl) (And.intro (hw.below hb0 nl) (And.intro ((hL.below hb0).mono hb0.size) hn)))
 have HB0 := hid (And.intro hb0 (And.intro q0 (And.intro q1 zX)))
 clear hb0 ho hw hL hn q0 q1 zX
 go_enter Tryz.func46, Tryz.ntmps46
 go_upto_region 12 with fail
 generalize ((w.alloc (.cells #[.int .i64 2, .slice ad o.length cp, .int .i64 p, .int .i64 q, .slice ad' ws.length cp'] 46)).alloc (.cells #[.int .i64 2, .slice none 0 0, .int .i64 p, .int .i64 q, .slice none 0 0] 46)) = W at HH HB0 ⊢
 obtain ⟨hb0, q0, q1, zX⟩ := HB0.out
 have lx : w.heap.size < W.heap.size := by omega
 have ly : w.heap.size + 1 < W.heap.size := by omega
 have a0 : W.cell? ⟨w.heap.size, 0, none⟩ = some (.int .i64 2) := by rw [cell_of_row W _ 0 _ _ _ q0]; rfl
 have a1 : W.cell? ⟨w.heap.size, 1, none⟩ = some (.slice ad o.length cp) := by rw [cell_of_row W _ 1 _ _ _ q0]; rfl
 have a2 : W.cell? ⟨w.heap.size, 2, none⟩ = some (.int .i64 p) := by rw [cell_of_row W _ 2 _ _ _ q0]; rfl
 have a3 : W.cell? ⟨w.heap.size, 3, none⟩ = some (.int .i64 q) := by rw [cell_of_row W _ 3 _ _ _ q0]; rfl
 have a4 : W.cell? ⟨w.heap.size, 4, none⟩ = some (.slice ad' ws.length cp') := by rw [cell_of_row W _ 4 _ _ _ q0]; rfl
 have b0 : W.cell? ⟨w.heap.size + 1, 0, none⟩ = some (.int .i64 2) := by rw [cell_of_row W _ 0 _ _ _ q1]; rfl
 have b1 : W.cell? ⟨w.heap.size + 1, 1, none⟩ = some (.slice none 0 0) := by rw [cell_of_row W _ 1 _ _ _ q1]; rfl
 have b2 : W.cell? ⟨w.heap.size + 1, 2, none⟩ = some (.int .i64 p) := by rw [cell_of_row W _ 2 _ _ _ q1]; rfl
 have b3 : W.cell? ⟨w.heap.size + 1, 3, none⟩ = some (.int .i64 q) := by rw [cell_of_row W _ 3 _ _ _ q1]; rfl
 have b4 : W.cell? ⟨w.heap.size + 1, 4, none⟩ = some (.slice none 0 0) := by rw [cell_of_row W _ 4 _ _ _ q1]; rfl
 have HL := hid (And.intro lx ly)
 clear q0 q1 zX lx ly hb0
 go_wp2_with fail
 go_loopw [4] (fun i wr => ∃ j : Nat, i = .int .i64 j ∧ j ≤ o.length ∧ Hid ((o.take j).any (fun n => decide (n < 0)) = false) ∧ Below W.heap.size W wr) (fun i _ => o.length - (intOf i).toNat)
 case atStart => exact ⟨0, rfl, by omega, hid (by simp), br⟩
 case round =>
  obtain ⟨j, rfl, hj, hno, hb⟩ := hrel
  have HB := hid hb
  have p1 := (hb.cell (p := ⟨w.heap.size, 1, none⟩) HL.out.1).trans a1
  by_cases hlt : j < o.length
  ·obtain ⟨bl, off, rfl, _, _, r1⟩ := (HH.out.1.below hb nl).cell (by omega)
   have r1 := (r1 j hlt).1
   have x1 : (0 : Int) ≤ (j : Int) := by omega
   have x2 : (j : Int) < (o.length : Int) := by omega
   clear hb
   by_cases he : o[j] < 0
   ·have hq : decide (o[j] < 0) = true := by simpa using he
    have HX := hid (show false = Crt.right ⟨2, o, p, q, ws⟩ from by
     have : (o.all fun n => decide (0 ≤ n)) = false := by
      rw [← iq, bN (fun n => decide (n < 0)) o j hlt hq]; rfl
     simp [Crt.right, this])
    clear he hno
    go_wp2_with fail
    refine bodyPost_ret (v := .bool false) ?_ rfl ⟨ai HX.out, HB0.out.1.trans (HB.out.mono HB0.out.1.size)⟩
    exact results_tmp (t := 2) rfl _ _ _
   ·have hq : decide (o[j] < 0) = false := by simpa using he
    have HX := hid (bG (fun n => decide (n < 0)) o j hlt hno.out hq)
    clear he hno
    go_wp2_with fail
    go_roundw
    case rel => exact ⟨j + 1, by go_num, by omega, HX, HB.out⟩
    case measure => simp [intOf]; omega
  ·have hj2 : j = o.length := by omega
   subst hj2
   have HO : Hid ((o.any fun n => decide (n < 0)) = false) := hid (by have := hno.out; rwa [List.take_length] at this)
   have p4 := (hb.cell (p := ⟨w.heap.size, 4, none⟩) HL.out.1).trans a4
   clear hb hno hj
   go_wp2_with fail
   go_loopw [5] (fun i wr => ∃ j : Nat, i = .int .i64 j ∧ j ≤ ws.length ∧ Hid ((ws.take j).any (fun e => !decide e.ok) = false) ∧ Below W.heap.size W wr) (fun i _ => ws.length - (intOf i).toNat)
   case atStart => exact ⟨0, rfl, by omega, hid (by simp), HB.out⟩
   case round =>
    clear HB p1 p4
    obtain ⟨j, rfl, hj, hno, hb⟩ := hrel
    have HB := hid hb
    have p4 := (hb.cell (p := ⟨w.heap.size, 4, none⟩) HL.out.1).trans a4
    by_cases hlt2 : j < ws.length
    ·obtain ⟨bl, off, rfl, _, _, r1⟩ := (HH.out.2.1.below hb nl).cell (by omega)
     have r1 := (r1 j hlt2).1
     have c0 := r1.1
     have c1 := r1.2.1
     have c2 := r1.2.2.1
     have c3 := r1.2.2.2.1
     have c4 := r1.2.2.2.2.1
     have c5 := r1.2.2.2.2.2.1
     have c6 := r1.2.2.2.2.2.2.1
     have c7 := r1.2.2.2.2.2.2.2.1
     have c8 := r1.2.2.2.2.2.2.2.2
     have x1 : (0 : Int) ≤ (j : Int) := by omega
     have x2 : (j : Int) < (ws.length : Int) := by omega
     have hd := dW (e := ws[j]) (HH.out.2.2.2 _ (List.getElem_mem hlt2)) wr ((HH.out.2.2.1.below hb).mono hb.size)
     simp only [Ed.vals, str] at hd
     have HR := hid (mM ws[j])
     generalize (⟨ws[j].text.toArray⟩ : ByteArray) = DA at hd HR
     have HD := hid hd
     clear hd r1 hb
     by_cases he : ws[j].ok
     ·have hq : DA.toList.isEmpty = false := by rw [HR.out]; simpa using he
      have HX := hid (bG (fun e => !decide e.ok) ws j hlt2 hno.out (by simpa using he))
      clear he hno
      go_wp2_with fail
      refine HD.out.mono ?_
      rintro r w1 ⟨rfl, hb1⟩
      go_wp2_with fail
      go_roundw
      case rel => exact ⟨j + 1, by go_num, by omega, HX, HB.out.trans (hb1.mono HB.out.size)⟩
      case measure => simp [intOf]; omega
     ·have hq : DA.toList.isEmpty = true := by rw [HR.out]; simpa using he
      have HX := hid (show false = Crt.right ⟨2, o, p, q, ws⟩ from by
       have : (ws.all fun e => decide e.ok) = false := by
        rw [← fZ, bN (fun e => !decide e.ok) ws j hlt2 (by simpa using he)]; rfl
       simp only [Crt.right, this, Bool.and_false])
      clear he hno
      go_wp2_with fail
      refine HD.out.mono ?_
      rintro r w1 ⟨rfl, hb1⟩
      go_wp2_with fail
      refine bodyPost_ret (v := .bool false) ?_ rfl ⟨ai HX.out, HB0.out.1.trans ((HB.out.trans (hb1.mono HB.out.size)).mono HB0.out.1.size)⟩
      exact results_tmp (t := 2) rfl _ _ _
    ·have hj2 : j = ws.length := by omega
     subst hj2
     have HW : Hid ((ws.any fun e => !decide e.ok) = false) := hid (by have := hno.out; rwa [List.take_length] at this)
     have d0 := (hb.cell (p := ⟨w.heap.size, 0, none⟩) HL.out.1).trans a0
     have d1 := (hb.cell (p := ⟨w.heap.size, 1, none⟩) HL.out.1).trans a1
     have d2 := (hb.cell (p := ⟨w.heap.size, 2, none⟩) HL.out.1).trans a2
     have d3 := (hb.cell (p := ⟨w.heap.size, 3, none⟩) HL.out.1).trans a3
     have g0 := (hb.cell (p := ⟨w.heap.size + 1, 0, none⟩) HL.out.2).trans b0
     have g1 := (hb.cell (p := ⟨w.heap.size + 1, 1, none⟩) HL.out.2).trans b1
     have g2 := (hb.cell (p := ⟨w.heap.size + 1, 2, none⟩) HL.out.2).trans b2
     have g3 := (hb.cell (p := ⟨w.heap.size + 1, 3, none⟩) HL.out.2).trans b3
     have g4 := (hb.cell (p := ⟨w.heap.size + 1, 4, none⟩) HL.out.2).trans b4
     have ho := HH.out.1.below hb nl
     have hw := HH.out.2.1.below hb nl
     have HS := hid (bB S S own own ⟨2, [], p, q, []⟩ ⟨2, o, p, q, ws⟩ _ _ wr ⟨_, _, rfl, bn.nil _ _ _, aX.nil _ _ _⟩ ⟨_, _, rfl, ho, hw⟩)
     have HC : Hid (∀ w1, Below wr.heap.size wr w1 → (w1.cell? ⟨w.heap.size, 1, none⟩ = some (.slice ad o.length cp) ∧ w1.cell? ⟨w.heap.size, 2, none⟩ = some (.int .i64 p) ∧ w1.cell? ⟨w.heap.size, 3, none⟩ = some (.int .i64 q) ∧ w1.cell? ⟨w.heap.size, 4, none⟩ = some (.slice ad' ws.length cp')) ∧ Below w.heap.size w w1) := hid (fun w1 h1 =>
      have hl : w.heap.size < wr.heap.size := by have := HL.out.1; have := HB.out.size; omega
      ⟨⟨(h1.cell (p := ⟨w.heap.size, 1, none⟩) hl).trans d1, (h1.cell (p := ⟨w.heap.size, 2, none⟩) hl).trans d2, (h1.cell (p := ⟨w.heap.size, 3, none⟩) hl).trans d3, (h1.cell (p := ⟨w.heap.size, 4, none⟩) hl).trans p4⟩, HB0.out.1.trans ((HB.out.trans (h1.mono HB.out.size)).mono HB0.out.1.size)⟩)
     have HT := hid (sO o p q ws HO.out HW.out)
     generalize hsm : decide ((⟨2, [], p, q, []⟩ : Crt) = ⟨2, o, p, q, ws⟩) = sm at HS HT
     clear hb hno hj ho hw hsm HO HW
     cases sm with
     | false =>
      go_wp2_with (first | (go_at_call 53; refine HS.out.mono ?_; rintro r w1 ⟨rfl, hb1⟩; obtain ⟨⟨u1, u2, u3, u4⟩, hbw⟩ := HC.out w1 hb1; have HBW := hid hbw; clear hbw hb1) | fail)
      refine bodyPost_ret (v := .bool false) ?_ rfl ⟨ai (by rw [HT.out]; rfl), HBW.out⟩
      exact results_tmp (t := 2) rfl _ _ _
     | true =>
      go_wp2_with (first | (go_at_call 53; refine HS.out.mono ?_; rintro r w1 ⟨rfl, hb1⟩; obtain ⟨⟨u1, u2, u3, u4⟩, hbw⟩ := HC.out w1 hb1; have HBW := hid hbw; clear hbw hb1) | fail)
      all_goals (refine bodyPost_ret (results_tmp (t := 2) rfl _ _ _) rfl ⟨ai ?_, HBW.out⟩)
      all_goals (rw [HT.out, Bool.eq_iff_iff]; clear HT HC HS HBW; simp only [Bool.true_and, Bool.and_eq_true, decide_eq_true_eq, decide_eq_false_iff_not, Bool.false_eq_true, false_iff, iff_true, true_iff] at *; omega)
theorem wZ (S : Nat → Prop) (own : Bool) (o : List Int) (p q : Int) (ws : List Ed) (v : Value) (w : World) (h : aL w S own ⟨3, o, p, q, ws⟩ v) (hn : ∀ e ∈ ws, e.nums) (hL : Lq w.heap.size w) :
  Calls Tryz.prog 46 #[v] w fun e w' => e = .returned (.bool (Crt.right ⟨3, o, p, q, ws⟩)) ∧ Below w.heap.size w w' := by
 obtain ⟨ad, cp, ad', cp', rfl, ho, hw, l1, l2, k1, k2⟩ := h.shape
 clear h
 simp only at ho hw l1 l2 k1 k2 ⊢
 have hb0 : Below w.heap.size w ((w.alloc (.cells #[.int .i64 3, .slice ad o.length cp, .int .i64 p, .int .i64 q, .slice ad' ws.length cp'] 46)).alloc (.cells #[.int .i64 3, .slice none 0 0, .int .i64 p, .int .i64 q, .slice none 0 0] 46)) := (br.alloc nl _).alloc (by simp) _
 have q0 : ((w.alloc (.cells #[.int .i64 3, .slice ad o.length cp, .int .i64 p, .int .i64 q, .slice ad' ws.length cp'] 46)).alloc (.cells #[.int .i64 3, .slice none 0 0, .int .i64 p, .int .i64 q, .slice none 0 0] 46)).heap[w.heap.size]? = some (.cells #[.int .i64 3, .slice ad o.length cp, .int .i64 p, .int .i64 q, .slice ad' ws.length cp'] 46 (0, 0)) := (Below.heap_alloc _ _ _ (by simp)).trans (heap_alloc_new w _)
 have q1 : ((w.alloc (.cells #[.int .i64 3, .slice ad o.length cp, .int .i64 p, .int .i64 q, .slice ad' ws.length cp'] 46)).alloc (.cells #[.int .i64 3, .slice none 0 0, .int .i64 p, .int .i64 q, .slice none 0 0] 46)).heap[w.heap.size + 1]? = some (.cells #[.int .i64 3, .slice none 0 0, .int .i64 p, .int .i64 q, .slice none 0 0] 46 (0, 0)) := az _ _ _ (by simp)
 have zX : ((w.alloc (.cells #[.int .i64 3, .slice ad o.length cp, .int .i64 p, .int .i64 q, .slice ad' ws.length cp'] 46)).alloc (.cells #[.int .i64 3, .slice none 0 0, .int .i64 p, .int .i64 q, .slice none 0 0] 46)).heap.size = w.heap.size + 2 := by rw [World.size_alloc, World.size_alloc]
 have HH := hid (And.intro (ho.below hb0 nl) (And.intro (hw.below hb0 nl) (And.intro ((hL.below hb0).mono hb0.size) hn)))
 have HB0 := hid (And.intro hb0 (And.intro q0 (And.intro q1 zX)))
 clear hb0 ho hw hL hn q0 q1 zX
 go_enter Tryz.func46, Tryz.ntmps46
 go_upto_region 12 with fail
 generalize ((w.alloc (.cells #[.int .i64 3, .slice ad o.length cp, .int .i64 p, .int .i64 q, .slice ad' ws.length cp'] 46)).alloc (.cells #[.int .i64 3, .slice none 0 0, .int .i64 p, .int .i64 q, .slice none 0 0] 46)) = W at HH HB0 ⊢
 obtain ⟨hb0, q0, q1, zX⟩ := HB0.out
 have lx : w.heap.size < W.heap.size := by omega
 have ly : w.heap.size + 1 < W.heap.size := by omega
 have a0 : W.cell? ⟨w.heap.size, 0, none⟩ = some (.int .i64 3) := by rw [cell_of_row W _ 0 _ _ _ q0]; rfl
 have a1 : W.cell? ⟨w.heap.size, 1, none⟩ = some (.slice ad o.length cp) := by rw [cell_of_row W _ 1 _ _ _ q0]; rfl
 have a2 : W.cell? ⟨w.heap.size, 2, none⟩ = some (.int .i64 p) := by rw [cell_of_row W _ 2 _ _ _ q0]; rfl
 have a3 : W.cell? ⟨w.heap.size, 3, none⟩ = some (.int .i64 q) := by rw [cell_of_row W _ 3 _ _ _ q0]; rfl
 have a4 : W.cell? ⟨w.heap.size, 4, none⟩ = some (.slice ad' ws.length cp') := by rw [cell_of_row W _ 4 _ _ _ q0]; rfl
 have b0 : W.cell? ⟨w.heap.size + 1, 0, none⟩ = some (.int .i64 3) := by rw [cell_of_row W _ 0 _ _ _ q1]; rfl
 have b1 : W.cell? ⟨w.heap.size + 1, 1, none⟩ = some (.slice none 0 0) := by rw [cell_of_row W _ 1 _ _ _ q1]; rfl
 have b2 : W.cell? ⟨w.heap.size + 1, 2, none⟩ = some (.int .i64 p) := by rw [cell_of_row W _ 2 _ _ _ q1]; rfl
 have b3 : W.cell? ⟨w.heap.size + 1, 3, none⟩ = some (.int .i64 q) := by rw [cell_of_row W _ 3 _ _ _ q1]; rfl
 have b4 : W.cell? ⟨w.heap.size + 1, 4, none⟩ = some (.slice none 0 0) := by rw [cell_of_row W _ 4 _ _ _ q1]; rfl
 have HL := hid (And.intro lx ly)
 clear q0 q1 zX lx ly hb0
 go_wp2_with fail
 go_loopw [4] (fun i wr => ∃ j : Nat, i = .int .i64 j ∧ j ≤ o.length ∧ Hid ((o.take j).any (fun n => decide (n < 0)) = false) ∧ Below W.heap.size W wr) (fun i _ => o.length - (intOf i).toNat)
 case atStart => exact ⟨0, rfl, by omega, hid (by simp), br⟩
 case round =>
  obtain ⟨j, rfl, hj, hno, hb⟩ := hrel
  have HB := hid hb
  have p1 := (hb.cell (p := ⟨w.heap.size, 1, none⟩) HL.out.1).trans a1
  by_cases hlt : j < o.length
  ·obtain ⟨bl, off, rfl, _, _, r1⟩ := (HH.out.1.below hb nl).cell (by omega)
   have r1 := (r1 j hlt).1
   have x1 : (0 : Int) ≤ (j : Int) := by omega
   have x2 : (j : Int) < (o.length : Int) := by omega
   clear hb
   by_cases he : o[j] < 0
   ·have hq : decide (o[j] < 0) = true := by simpa using he
    have HX := hid (show false = Crt.right ⟨3, o, p, q, ws⟩ from by
     have : (o.all fun n => decide (0 ≤ n)) = false := by
      rw [← iq, bN (fun n => decide (n < 0)) o j hlt hq]; rfl
     simp [Crt.right, this])
    clear he hno
    go_wp2_with fail
    refine bodyPost_ret (v := .bool false) ?_ rfl ⟨ai HX.out, HB0.out.1.trans (HB.out.mono HB0.out.1.size)⟩
    exact results_tmp (t := 2) rfl _ _ _
   ·have hq : decide (o[j] < 0) = false := by simpa using he
    have HX := hid (bG (fun n => decide (n < 0)) o j hlt hno.out hq)
    clear he hno
    go_wp2_with fail
    go_roundw
    case rel => exact ⟨j + 1, by go_num, by omega, HX, HB.out⟩
    case measure => simp [intOf]; omega
  ·have hj2 : j = o.length := by omega
   subst hj2
   have HO : Hid ((o.any fun n => decide (n < 0)) = false) := hid (by have := hno.out; rwa [List.take_length] at this)
   have p4 := (hb.cell (p := ⟨w.heap.size, 4, none⟩) HL.out.1).trans a4
   clear hb hno hj
   go_wp2_with fail
   go_loopw [5] (fun i wr => ∃ j : Nat, i = .int .i64 j ∧ j ≤ ws.length ∧ Hid ((ws.take j).any (fun e => !decide e.ok) = false) ∧ Below W.heap.size W wr) (fun i _ => ws.length - (intOf i).toNat)
   case atStart => exact ⟨0, rfl, by omega, hid (by simp), HB.out⟩
   case round =>
    clear HB p1 p4
    obtain ⟨j, rfl, hj, hno, hb⟩ := hrel
    have HB := hid hb
    have p4 := (hb.cell (p := ⟨w.heap.size, 4, none⟩) HL.out.1).trans a4
    by_cases hlt2 : j < ws.length
    ·obtain ⟨bl, off, rfl, _, _, r1⟩ := (HH.out.2.1.below hb nl).cell (by omega)
     have r1 := (r1 j hlt2).1
     have c0 := r1.1
     have c1 := r1.2.1
     have c2 := r1.2.2.1
     have c3 := r1.2.2.2.1
     have c4 := r1.2.2.2.2.1
     have c5 := r1.2.2.2.2.2.1
     have c6 := r1.2.2.2.2.2.2.1
     have c7 := r1.2.2.2.2.2.2.2.1
     have c8 := r1.2.2.2.2.2.2.2.2
     have x1 : (0 : Int) ≤ (j : Int) := by omega
     have x2 : (j : Int) < (ws.length : Int) := by omega
     have hd := dW (e := ws[j]) (HH.out.2.2.2 _ (List.getElem_mem hlt2)) wr ((HH.out.2.2.1.below hb).mono hb.size)
     simp only [Ed.vals, str] at hd
     have HR := hid (mM ws[j])
     generalize (⟨ws[j].text.toArray⟩ : ByteArray) = DA at hd HR
     have HD := hid hd
     clear hd r1 hb
     by_cases he : ws[j].ok
     ·have hq : DA.toList.isEmpty = false := by rw [HR.out]; simpa using he
      have HX := hid (bG (fun e => !decide e.ok) ws j hlt2 hno.out (by simpa using he))
      clear he hno
      go_wp2_with fail
      refine HD.out.mono ?_
      rintro r w1 ⟨rfl, hb1⟩
      go_wp2_with fail
      go_roundw
      case rel => exact ⟨j + 1, by go_num, by omega, HX, HB.out.trans (hb1.mono HB.out.size)⟩
      case measure => simp [intOf]; omega
     ·have hq : DA.toList.isEmpty = true := by rw [HR.out]; simpa using he
      have HX := hid (show false = Crt.right ⟨3, o, p, q, ws⟩ from by
       have : (ws.all fun e => decide e.ok) = false := by
        rw [← fZ, bN (fun e => !decide e.ok) ws j hlt2 (by simpa using he)]; rfl
       simp only [Crt.right, this, Bool.and_false])
      clear he hno
      go_wp2_with fail
      refine HD.out.mono ?_
      rintro r w1 ⟨rfl, hb1⟩
      go_wp2_with fail
      refine bodyPost_ret (v := .bool false) ?_ rfl ⟨ai HX.out, HB0.out.1.trans ((HB.out.trans (hb1.mono HB.out.size)).mono HB0.out.1.size)⟩
      exact results_tmp (t := 2) rfl _ _ _
    ·have hj2 : j = ws.length := by omega
     subst hj2
     have HW : Hid ((ws.any fun e => !decide e.ok) = false) := hid (by have := hno.out; rwa [List.take_length] at this)
     have d0 := (hb.cell (p := ⟨w.heap.size, 0, none⟩) HL.out.1).trans a0
     have d1 := (hb.cell (p := ⟨w.heap.size, 1, none⟩) HL.out.1).trans a1
     have d2 := (hb.cell (p := ⟨w.heap.size, 2, none⟩) HL.out.1).trans a2
     have d3 := (hb.cell (p := ⟨w.heap.size, 3, none⟩) HL.out.1).trans a3
     have g0 := (hb.cell (p := ⟨w.heap.size + 1, 0, none⟩) HL.out.2).trans b0
     have g1 := (hb.cell (p := ⟨w.heap.size + 1, 1, none⟩) HL.out.2).trans b1
     have g2 := (hb.cell (p := ⟨w.heap.size + 1, 2, none⟩) HL.out.2).trans b2
     have g3 := (hb.cell (p := ⟨w.heap.size + 1, 3, none⟩) HL.out.2).trans b3
     have g4 := (hb.cell (p := ⟨w.heap.size + 1, 4, none⟩) HL.out.2).trans b4
     have ho := HH.out.1.below hb nl
     have hw := HH.out.2.1.below hb nl
     have HS := hid (bB S S own own ⟨3, [], p, q, []⟩ ⟨3, o, p, q, ws⟩ _ _ wr ⟨_, _, rfl, bn.nil _ _ _, aX.nil _ _ _⟩ ⟨_, _, rfl, ho, hw⟩)
     have HC : Hid (∀ w1, Below wr.heap.size wr w1 → (w1.cell? ⟨w.heap.size, 1, none⟩ = some (.slice ad o.length cp) ∧ w1.cell? ⟨w.heap.size, 2, none⟩ = some (.int .i64 p) ∧ w1.cell? ⟨w.heap.size, 3, none⟩ = some (.int .i64 q) ∧ w1.cell? ⟨w.heap.size, 4, none⟩ = some (.slice ad' ws.length cp')) ∧ Below w.heap.size w w1) := hid (fun w1 h1 =>
      have hl : w.heap.size < wr.heap.size := by have := HL.out.1; have := HB.out.size; omega
      ⟨⟨(h1.cell (p := ⟨w.heap.size, 1, none⟩) hl).trans d1, (h1.cell (p := ⟨w.heap.size, 2, none⟩) hl).trans d2, (h1.cell (p := ⟨w.heap.size, 3, none⟩) hl).trans d3, (h1.cell (p := ⟨w.heap.size, 4, none⟩) hl).trans p4⟩, HB0.out.1.trans ((HB.out.trans (h1.mono HB.out.size)).mono HB0.out.1.size)⟩)
     have HT := hid (sP o p q ws HO.out HW.out)
     generalize hsm : decide ((⟨3, [], p, q, []⟩ : Crt) = ⟨3, o, p, q, ws⟩) = sm at HS HT
     clear hb hno hj ho hw hsm HO HW
     cases sm with
     | false =>
      go_wp2_with (first | (go_at_call 53; refine HS.out.mono ?_; rintro r w1 ⟨rfl, hb1⟩; obtain ⟨⟨u1, u2, u3, u4⟩, hbw⟩ := HC.out w1 hb1; have HBW := hid hbw; clear hbw hb1) | fail)
      refine bodyPost_ret (v := .bool false) ?_ rfl ⟨ai (by rw [HT.out]; rfl), HBW.out⟩
      exact results_tmp (t := 2) rfl _ _ _
     | true =>
      go_wp2_with (first | (go_at_call 53; refine HS.out.mono ?_; rintro r w1 ⟨rfl, hb1⟩; obtain ⟨⟨u1, u2, u3, u4⟩, hbw⟩ := HC.out w1 hb1; have HBW := hid hbw; clear hbw hb1) | fail)
      all_goals (refine bodyPost_ret (results_tmp (t := 2) rfl _ _ _) rfl ⟨ai ?_, HBW.out⟩)
      all_goals (rw [HT.out, Bool.eq_iff_iff]; clear HT HC HS HBW; simp only [Bool.true_and, Bool.and_eq_true, decide_eq_true_eq, decide_eq_false_iff_not, Bool.false_eq_true, false_iff, iff_true, true_iff] at *; omega)
theorem xe (S : Nat → Prop) (own : Bool) (o : List Int) (p q : Int) (ws : List Ed) (v : Value) (w : World) (h : aL w S own ⟨4, o, p, q, ws⟩ v) (hn : ∀ e ∈ ws, e.nums) (hL : Lq w.heap.size w) :
  Calls Tryz.prog 46 #[v] w fun e w' => e = .returned (.bool (Crt.right ⟨4, o, p, q, ws⟩)) ∧ Below w.heap.size w w' := by
 obtain ⟨ad, cp, ad', cp', rfl, ho, hw, l1, l2, k1, k2⟩ := h.shape
 clear h
 simp only at ho hw l1 l2 k1 k2 ⊢
 have hb0 : Below w.heap.size w ((w.alloc (.cells #[.int .i64 4, .slice ad o.length cp, .int .i64 p, .int .i64 q, .slice ad' ws.length cp'] 46)).alloc (.cells #[.int .i64 4, .slice none 0 0, .int .i64 0, .int .i64 0, .slice ad' ws.length cp'] 46)) := (br.alloc nl _).alloc (by simp) _
 have q0 : ((w.alloc (.cells #[.int .i64 4, .slice ad o.length cp, .int .i64 p, .int .i64 q, .slice ad' ws.length cp'] 46)).alloc (.cells #[.int .i64 4, .slice none 0 0, .int .i64 0, .int .i64 0, .slice ad' ws.length cp'] 46)).heap[w.heap.size]? = some (.cells #[.int .i64 4, .slice ad o.length cp, .int .i64 p, .int .i64 q, .slice ad' ws.length cp'] 46 (0, 0)) := (Below.heap_alloc _ _ _ (by simp)).trans (heap_alloc_new w _)
 have q1 : ((w.alloc (.cells #[.int .i64 4, .slice ad o.length cp, .int .i64 p, .int .i64 q, .slice ad' ws.length cp'] 46)).alloc (.cells #[.int .i64 4, .slice none 0 0, .int .i64 0, .int .i64 0, .slice ad' ws.length cp'] 46)).heap[w.heap.size + 1]? = some (.cells #[.int .i64 4, .slice none 0 0, .int .i64 0, .int .i64 0, .slice ad' ws.length cp'] 46 (0, 0)) := az _ _ _ (by simp)
 have zX : ((w.alloc (.cells #[.int .i64 4, .slice ad o.length cp, .int .i64 p, .int .i64 q, .slice ad' ws.length cp'] 46)).alloc (.cells #[.int .i64 4, .slice none 0 0, .int .i64 0, .int .i64 0, .slice ad' ws.length cp'] 46)).heap.size = w.heap.size + 2 := by rw [World.size_alloc, World.size_alloc]
 have HH := hid (And.intro (ho.below hb0 nl) (And.intro (hw.below hb0 nl) (And.intro ((hL.below hb0).mono hb0.size) hn)))
 have HB0 := hid (And.intro hb0 (And.intro q0 (And.intro q1 zX)))
 clear hb0 ho hw hL hn q0 q1 zX
 go_enter Tryz.func46, Tryz.ntmps46
 go_upto_region 12 with fail
 generalize ((w.alloc (.cells #[.int .i64 4, .slice ad o.length cp, .int .i64 p, .int .i64 q, .slice ad' ws.length cp'] 46)).alloc (.cells #[.int .i64 4, .slice none 0 0, .int .i64 0, .int .i64 0, .slice ad' ws.length cp'] 46)) = W at HH HB0 ⊢
 obtain ⟨hb0, q0, q1, zX⟩ := HB0.out
 have lx : w.heap.size < W.heap.size := by omega
 have ly : w.heap.size + 1 < W.heap.size := by omega
 have a0 : W.cell? ⟨w.heap.size, 0, none⟩ = some (.int .i64 4) := by rw [cell_of_row W _ 0 _ _ _ q0]; rfl
 have a1 : W.cell? ⟨w.heap.size, 1, none⟩ = some (.slice ad o.length cp) := by rw [cell_of_row W _ 1 _ _ _ q0]; rfl
 have a2 : W.cell? ⟨w.heap.size, 2, none⟩ = some (.int .i64 p) := by rw [cell_of_row W _ 2 _ _ _ q0]; rfl
 have a3 : W.cell? ⟨w.heap.size, 3, none⟩ = some (.int .i64 q) := by rw [cell_of_row W _ 3 _ _ _ q0]; rfl
 have a4 : W.cell? ⟨w.heap.size, 4, none⟩ = some (.slice ad' ws.length cp') := by rw [cell_of_row W _ 4 _ _ _ q0]; rfl
 have b0 : W.cell? ⟨w.heap.size + 1, 0, none⟩ = some (.int .i64 4) := by rw [cell_of_row W _ 0 _ _ _ q1]; rfl
 have b1 : W.cell? ⟨w.heap.size + 1, 1, none⟩ = some (.slice none 0 0) := by rw [cell_of_row W _ 1 _ _ _ q1]; rfl
 have b2 : W.cell? ⟨w.heap.size + 1, 2, none⟩ = some (.int .i64 0) := by rw [cell_of_row W _ 2 _ _ _ q1]; rfl
 have b3 : W.cell? ⟨w.heap.size + 1, 3, none⟩ = some (.int .i64 0) := by rw [cell_of_row W _ 3 _ _ _ q1]; rfl
 have b4 : W.cell? ⟨w.heap.size + 1, 4, none⟩ = some (.slice ad' ws.length cp') := by rw [cell_of_row W _ 4 _ _ _ q1]; rfl
 have HL := hid (And.intro lx ly)
 clear q0 q1 zX lx ly hb0
 go_wp2_with fail
 go_loopw [4] (fun i wr => ∃ j : Nat, i = .int .i64 j ∧ j ≤ o.length ∧ Hid ((o.take j).any (fun n => decide (n < 0)) = false) ∧ Below W.heap.size W wr) (fun i _ => o.length - (intOf i).toNat)
 case atStart => exact ⟨0, rfl, by omega, hid (by simp), br⟩
 case round =>
  obtain ⟨j, rfl, hj, hno, hb⟩ := hrel
  have HB := hid hb
  have p1 := (hb.cell (p := ⟨w.heap.size, 1, none⟩) HL.out.1).trans a1
  by_cases hlt : j < o.length
  ·obtain ⟨bl, off, rfl, _, _, r1⟩ := (HH.out.1.below hb nl).cell (by omega)
   have r1 := (r1 j hlt).1
   have x1 : (0 : Int) ≤ (j : Int) := by omega
   have x2 : (j : Int) < (o.length : Int) := by omega
   clear hb
   by_cases he : o[j] < 0
   ·have hq : decide (o[j] < 0) = true := by simpa using he
    have HX := hid (show false = Crt.right ⟨4, o, p, q, ws⟩ from by
     have : (o.all fun n => decide (0 ≤ n)) = false := by
      rw [← iq, bN (fun n => decide (n < 0)) o j hlt hq]; rfl
     simp [Crt.right, this])
    clear he hno
    go_wp2_with fail
    refine bodyPost_ret (v := .bool false) ?_ rfl ⟨ai HX.out, HB0.out.1.trans (HB.out.mono HB0.out.1.size)⟩
    exact results_tmp (t := 2) rfl _ _ _
   ·have hq : decide (o[j] < 0) = false := by simpa using he
    have HX := hid (bG (fun n => decide (n < 0)) o j hlt hno.out hq)
    clear he hno
    go_wp2_with fail
    go_roundw
    case rel => exact ⟨j + 1, by go_num, by omega, HX, HB.out⟩
    case measure => simp [intOf]; omega
  ·have hj2 : j = o.length := by omega
   subst hj2
   have HO : Hid ((o.any fun n => decide (n < 0)) = false) := hid (by have := hno.out; rwa [List.take_length] at this)
   have p4 := (hb.cell (p := ⟨w.heap.size, 4, none⟩) HL.out.1).trans a4
   clear hb hno hj
   go_wp2_with fail
   go_loopw [5] (fun i wr => ∃ j : Nat, i = .int .i64 j ∧ j ≤ ws.length ∧ Hid ((ws.take j).any (fun e => !decide e.ok) = false) ∧ Below W.heap.size W wr) (fun i _ => ws.length - (intOf i).toNat)
   case atStart => exact ⟨0, rfl, by omega, hid (by simp), HB.out⟩
   case round =>
    clear HB p1 p4
    obtain ⟨j, rfl, hj, hno, hb⟩ := hrel
    have HB := hid hb
    have p4 := (hb.cell (p := ⟨w.heap.size, 4, none⟩) HL.out.1).trans a4
    by_cases hlt2 : j < ws.length
    ·obtain ⟨bl, off, rfl, _, _, r1⟩ := (HH.out.2.1.below hb nl).cell (by omega)
     have r1 := (r1 j hlt2).1
     have c0 := r1.1
     have c1 := r1.2.1
     have c2 := r1.2.2.1
     have c3 := r1.2.2.2.1
     have c4 := r1.2.2.2.2.1
     have c5 := r1.2.2.2.2.2.1
     have c6 := r1.2.2.2.2.2.2.1
     have c7 := r1.2.2.2.2.2.2.2.1
     have c8 := r1.2.2.2.2.2.2.2.2
     have x1 : (0 : Int) ≤ (j : Int) := by omega
     have x2 : (j : Int) < (ws.length : Int) := by omega
     have hd := dW (e := ws[j]) (HH.out.2.2.2 _ (List.getElem_mem hlt2)) wr ((HH.out.2.2.1.below hb).mono hb.size)
     simp only [Ed.vals, str] at hd
     have HR := hid (mM ws[j])
     generalize (⟨ws[j].text.toArray⟩ : ByteArray) = DA at hd HR
     have HD := hid hd
     clear hd r1 hb
     by_cases he : ws[j].ok
     ·have hq : DA.toList.isEmpty = false := by rw [HR.out]; simpa using he
      have HX := hid (bG (fun e => !decide e.ok) ws j hlt2 hno.out (by simpa using he))
      clear he hno
      go_wp2_with fail
      refine HD.out.mono ?_
      rintro r w1 ⟨rfl, hb1⟩
      go_wp2_with fail
      go_roundw
      case rel => exact ⟨j + 1, by go_num, by omega, HX, HB.out.trans (hb1.mono HB.out.size)⟩
      case measure => simp [intOf]; omega
     ·have hq : DA.toList.isEmpty = true := by rw [HR.out]; simpa using he
      have HX := hid (show false = Crt.right ⟨4, o, p, q, ws⟩ from by
       have : (ws.all fun e => decide e.ok) = false := by
        rw [← fZ, bN (fun e => !decide e.ok) ws j hlt2 (by simpa using he)]; rfl
       simp only [Crt.right, this, Bool.and_false])
      clear he hno
      go_wp2_with fail
      refine HD.out.mono ?_
      rintro r w1 ⟨rfl, hb1⟩
      go_wp2_with fail
      refine bodyPost_ret (v := .bool false) ?_ rfl ⟨ai HX.out, HB0.out.1.trans ((HB.out.trans (hb1.mono HB.out.size)).mono HB0.out.1.size)⟩
      exact results_tmp (t := 2) rfl _ _ _
    ·have hj2 : j = ws.length := by omega
     subst hj2
     have HW : Hid ((ws.any fun e => !decide e.ok) = false) := hid (by have := hno.out; rwa [List.take_length] at this)
     have d0 := (hb.cell (p := ⟨w.heap.size, 0, none⟩) HL.out.1).trans a0
     have d1 := (hb.cell (p := ⟨w.heap.size, 1, none⟩) HL.out.1).trans a1
     have d2 := (hb.cell (p := ⟨w.heap.size, 2, none⟩) HL.out.1).trans a2
     have d3 := (hb.cell (p := ⟨w.heap.size, 3, none⟩) HL.out.1).trans a3
     have g0 := (hb.cell (p := ⟨w.heap.size + 1, 0, none⟩) HL.out.2).trans b0
     have g1 := (hb.cell (p := ⟨w.heap.size + 1, 1, none⟩) HL.out.2).trans b1
     have g2 := (hb.cell (p := ⟨w.heap.size + 1, 2, none⟩) HL.out.2).trans b2
     have g3 := (hb.cell (p := ⟨w.heap.size + 1, 3, none⟩) HL.out.2).trans b3
     have g4 := (hb.cell (p := ⟨w.heap.size + 1, 4, none⟩) HL.out.2).trans b4
     have ho := HH.out.1.below hb nl
     have hw := HH.out.2.1.below hb nl
     have HS := hid (bB S S own own ⟨4, [], 0, 0, ws⟩ ⟨4, o, p, q, ws⟩ _ _ wr ⟨_, _, rfl, bn.nil _ _ _, hw⟩ ⟨_, _, rfl, ho, hw⟩)
     have HC : Hid (∀ w1, Below wr.heap.size wr w1 → (w1.cell? ⟨w.heap.size, 1, none⟩ = some (.slice ad o.length cp) ∧ w1.cell? ⟨w.heap.size, 2, none⟩ = some (.int .i64 p) ∧ w1.cell? ⟨w.heap.size, 3, none⟩ = some (.int .i64 q) ∧ w1.cell? ⟨w.heap.size, 4, none⟩ = some (.slice ad' ws.length cp')) ∧ Below w.heap.size w w1) := hid (fun w1 h1 =>
      have hl : w.heap.size < wr.heap.size := by have := HL.out.1; have := HB.out.size; omega
      ⟨⟨(h1.cell (p := ⟨w.heap.size, 1, none⟩) hl).trans d1, (h1.cell (p := ⟨w.heap.size, 2, none⟩) hl).trans d2, (h1.cell (p := ⟨w.heap.size, 3, none⟩) hl).trans d3, (h1.cell (p := ⟨w.heap.size, 4, none⟩) hl).trans p4⟩, HB0.out.1.trans ((HB.out.trans (h1.mono HB.out.size)).mono HB0.out.1.size)⟩)
     have HT := hid (sN o p q ws HO.out HW.out)
     generalize hsm : decide ((⟨4, [], 0, 0, ws⟩ : Crt) = ⟨4, o, p, q, ws⟩) = sm at HS HT
     clear hb hno hj ho hw hsm HO HW
     cases sm with
     | false =>
      go_wp2_with (first | (go_at_call 53; refine HS.out.mono ?_; rintro r w1 ⟨rfl, hb1⟩; obtain ⟨⟨u1, u2, u3, u4⟩, hbw⟩ := HC.out w1 hb1; have HBW := hid hbw; clear hbw hb1) | fail)
      refine bodyPost_ret (v := .bool false) ?_ rfl ⟨ai (by rw [HT.out]; rfl), HBW.out⟩
      exact results_tmp (t := 2) rfl _ _ _
     | true =>
      go_wp2_with (first | (go_at_call 53; refine HS.out.mono ?_; rintro r w1 ⟨rfl, hb1⟩; obtain ⟨⟨u1, u2, u3, u4⟩, hbw⟩ := HC.out w1 hb1; have HBW := hid hbw; clear hbw hb1) | fail)
      all_goals (refine bodyPost_ret (results_tmp (t := 2) rfl _ _ _) rfl ⟨ai ?_, HBW.out⟩)
      all_goals (rw [HT.out, Bool.eq_iff_iff]; clear HT HC HS HBW; simp only [Bool.true_and, Bool.and_eq_true, decide_eq_true_eq, decide_eq_false_iff_not, Bool.false_eq_true, false_iff, iff_true, true_iff] at *; omega)
theorem jD (S : Nat → Prop) (own : Bool) (c : Crt) (v : Value) (w : World) (h : aL w S own c v) (hn : ∀ e ∈ c.w, e.nums) (hL : Lq w.heap.size w) : Calls Tryz.prog 46 #[v] w fun e w' => e = .returned (.bool c.right) ∧ Below w.heap.size w w' := by
 obtain ⟨k, o, p, q, ws⟩ := c
 by_cases h1 : k < 1 ∨ 5 ≤ k
 ·obtain ⟨ad, cp, ad', cp', rfl, _⟩ := h.shape
  exact wV k o p q ws _ _ _ _ _ _ w h1
 obtain rfl | rfl | rfl | rfl : k = 1 ∨ k = 2 ∨ k = 3 ∨ k = 4 := by omega
 ·exact wW S own o p q ws v w h hn hL
 ·exact wY S own o p q ws v w h hn hL
 ·exact wZ S own o p q ws v w h hn hL
 ·exact xe S own o p q ws v w h hn hL
end Go.Proofs.YtagnalfkmdjajaaGreatDoor
