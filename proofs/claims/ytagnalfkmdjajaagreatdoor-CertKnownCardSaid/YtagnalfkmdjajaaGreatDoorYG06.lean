/- Edges told, and copied, on both sides. -/
import Derived.Test.YtagnalfkmdjajaaGreatDoorYP02
import Derived.Test.YtagnalfkmdjajaaGreatDoorY18
set_option maxHeartbeats 4000000
set_option maxRecDepth 100000
namespace Go.Proofs.YtagnalfkmdjajaaGreatDoor
open Go.RowKit Go
set_option linter.unusedVariables false
set_option linter.unusedSimpArgs false
def str (l : List UInt8) : Value := .string ⟨l.toArray⟩
theorem uZ (sep : List UInt8) : ∀ (l : List (List UInt8)) (N Z : Nat), (∀ x ∈ l, x.length ≤ N) → sep.length ≤ Z → (Lib.join l sep).length ≤ l.length * (N + Z)
 | [], N, Z, _, _ => by simp [Lib.join]
 | [x], N, Z, h, hz => by
  have := h x (by simp)
  rw [Lib.join_one]; simp; omega
 | x :: y :: l, N, Z, h, hz => by
  have ih := uZ sep (y :: l) N Z (fun q hq => h q (by simp [hq])) hz
  have hx := h x (by simp)
  have e : Lib.join (x :: y :: l) sep = x ++ (sep ++ Lib.join (y :: l) sep) := by
   rw [Lib.join_cons, Lib.join_cons]; simp [Lib.joinTail]
  rw [e]
  simp only [List.length_append, List.length_cons] at ih ⊢
  have h2 : (l.length + 1 + 1) * (N + Z) = (l.length + 1) * (N + Z) + (N + Z) := by rw [Nat.add_mul (l.length + 1) 1, Nat.one_mul]
  omega
theorem kN {n : Int} (h : 0 ≤ n) : Lib.itoa n = Lib.decDigits n.toNat := by unfold Lib.itoa; rw [if_neg (by omega)]
theorem DU {n : Int} (h1 : -1 ≤ n) (h2 : n < 0) : Lib.itoa n = [45, 49] := by
 obtain rfl : n = -1 := by omega
 unfold Lib.itoa
 rw [if_pos (by omega)]
 simp [Lib.decDigits]
theorem nI (n : Int) (h0 : -9223372036854775808 ≤ n) (h1 : n ≤ 9223372036854775807) (w : World) (hL : Lq w.heap.size w) : Calls Tryz.prog 33 #[.int .i64 n] w fun e w' => e = .returned (str (Lib.itoa n)) ∧ Below w.heap.size w w' := by
 refine (Tryz.strconv_Itoa n h0 h1 w hL.lv.tab).mono fun e w' => ?_
 rintro ⟨rfl, k, os, rfl⟩
 exact ⟨rfl, Lib.below_grow _ _ nl _ _⟩
theorem gV.of_row {w : World} {b : Nat} {l : List (List UInt8)} {T : TypeId} (h : w.heap[b]? = some (.cells (strs l).toArray T (0, 0))) (hl : l.length ≤ 1000000) : gV w (fun k => k = b) l (.slice (some ⟨b, 0, none⟩) l.length l.length) := by
 refine ⟨by simp [strs], by omega, _, _, rfl, Nat.le_refl _, fun _ => ⟨_, _, rfl, rfl, fun j hj => ?_⟩⟩
 rw [cell_of_row w b (0 + j) _ T (0, 0) h, frozen_of_row w b (0 + j) _ T h]
 simp [hj]
theorem dH (a b : ByteArray) : (a ++ b).size = a.size + b.size := by rw [← ay, ← ay, ← ay]; simp
theorem lI {P : Program} {o : Oper} {a : Act} {w : World} {K : Act → World → Prop} {Q : Exit → Act → World → Prop} (ty : TypeId) (x y : Operand) (ho : o.op = .store ty x y)
  (g : Nat) (hx : a.eval x = .pointer (some ⟨g, 0, none⟩)) (cs : Array Value) (hy : a.eval y = .agg cs) (t : TypeId) (cur : Array Value) (hg : w.heap[g]? = some (.cells cur t (0, 0)))
  (hi : (P.info? ty).map (·.size) = some cs.size) (hsz : cs.size = cur.size) (h1 : ∀ v ∈ cs.toList, v.oneCell' = true)
  (h : K (a.put o.dst undef) (w.setRow g cs)) : Oper.wp P o a w K Q := by
 unfold Oper.wp execOp
 simp only [ho, hx, hy, Instr.storeAt, Instr.sureAddr, Sem.run_bind, Sem.run_pure, Result.andThen_ok, run_storeVar_row w g t ty cur cs hg hi hsz h1]
 exact h
theorem oz (u : Nat) (w : World) (h : u < 18446744073709551616) (hL : Lq w.heap.size w) : Calls Tryz.prog 93 #[.int .u64 u] w fun e w' => e = .returned (str (Lib.decDigits u)) ∧ Below w.heap.size w w' := by
 have HF := hid (jU u w h hL.lv.tab)
 go_enter Tryz.func93, Tryz.ntmps93
 go_wp2_with fail
 refine HF.out.mono ?_
 rintro e w1 ⟨rfl, hb⟩
 go_wp2_with fail
 go_ret
 exact ⟨rfl, hb⟩
theorem oC (m n : Nat) (w : World) (hm : m < 18446744073709551616) (hn : n < 18446744073709551616) (hL : Lq w.heap.size w) : Calls Tryz.prog 64 #[.agg #[.int .u64 m, .int .u64 n]] w fun e w' => e = .returned (str (dN m n)) ∧ Below w.heap.size w w' := by
 have hb0 : Below w.heap.size w (w.alloc (.cells #[.int .u64 m, .int .u64 n] 52)) := br.alloc nl _
 have hz0 : (w.alloc (.cells #[.int .u64 m, .int .u64 n] 52)).heap.size = w.heap.size + 1 := World.size_alloc _ _
 have h0 := heap_alloc_new w (.cells #[.int .u64 m, .int .u64 n] 52)
 have HB := hid (And.intro hb0 (hL.below hb0))
 obtain ⟨W, hW⟩ : ∃ W, W = w.alloc (.cells #[.int .u64 m, .int .u64 n] 52) := ⟨_, rfl⟩
 rw [← hW] at h0 hz0 HB
 have c0 : W.cell? ⟨w.heap.size, 0, none⟩ = some (.int .u64 m) := by rw [cell_of_row W _ 0 _ _ _ h0]; rfl
 have c1 : W.cell? ⟨w.heap.size, 1, none⟩ = some (.int .u64 n) := by rw [cell_of_row W _ 1 _ _ _ h0]; rfl
 have lx : w.heap.size < W.heap.size := by omega
 have HL : Hid (∀ w', Below W.heap.size W w' → Lq w'.heap.size w') := hid (fun w' hb' => (HB.out.2.below (hb'.mono (by omega))).mono (by have := hb'.size; omega))
 obtain ⟨M, hM⟩ : ∃ M : ByteArray, M = ⟨(Lib.decDigits m).toArray⟩ := ⟨_, rfl⟩
 obtain ⟨N, hN⟩ : ∃ N : ByteArray, N = ⟨(Lib.decDigits n).toArray⟩ := ⟨_, rfl⟩
 have zm := BZ m hm
 have zn := BZ n hn
 rw [← hM] at zm
 rw [← hN] at zn
 have HM : Hid (∀ w', Lq w'.heap.size w' → Calls Tryz.prog 93 #[.int .u64 m] w' fun e w'' => e = .returned (.string M) ∧ Below w'.heap.size w' w'') := hid (fun w' h => by rw [hM]; exact oz m w' hm h)
 have HN : Hid (∀ w', Lq w'.heap.size w' → Calls Tryz.prog 93 #[.int .u64 n] w' fun e w'' => e = .returned (.string N) ∧ Below w'.heap.size w' w'') := hid (fun w' h => by rw [hN]; exact oz n w' hn h)
 have HT : Hid (.string (M ++ ⟨#[46]⟩ ++ N) = str (dN m n)) := hid (by unfold str; congr 1; apply jT; rw [hM, hN]; simp [dN])
 clear h0 hz0 hM hN hL hb0
 go_enter Tryz.func64, Tryz.ntmps64
 go_upto_region 1 with fail
 rw [← hW]
 clear hW
 refine aK (w0 := W) rfl [.eq (.pointer (some ⟨w.heap.size, 0, none⟩)), .eq (.int .u64 (m : Nat)), .eq (.string M), .eq (.string (M ++ ⟨#[46]⟩)), .eq (.pointer (some ⟨w.heap.size, 1, none⟩)), .eq (.int .u64 (n : Nat)), .eq (.string N), .eq (.string (M ++ ⟨#[46]⟩ ++ N)), .eq (.string (M ++ ⟨#[46]⟩ ++ N))] (by kernel_rfl) ⟨?_, ?_, ?_, ?_, ?_, ?_, ?_, ?_, ?_, trivial⟩ (fun vs => [(3, (.pointer (some ⟨w.heap.size, 0, none⟩))), (4, (.int .u64 (m : Nat))), (5, (.string M)), (6, (.string (M ++ ⟨#[46]⟩))), (7, (.pointer (some ⟨w.heap.size, 1, none⟩))), (8, (.int .u64 (n : Nat))), (9, (.string N)), (10, (.string (M ++ ⟨#[46]⟩ ++ N))), (2, (.string (M ++ ⟨#[46]⟩ ++ N)))]) (fun _ => rfl) ?_
 ·refine rs fun S a wx K Q hR hK => ?_
  have t1 : a.tmps[1]? = some (.pointer (some ⟨w.heap.size, 0, none⟩)) := hR.o 1
  go_simp
  exact hK _ _ br rfl
 ·refine rs fun S a wx K Q hR hK => ?_
  have t3 := hR.q 0
  have y0 := (hR.bel.cell lx).trans c0
  go_simp
  exact hK _ _ br rfl
 ·refine rs fun S a wx K Q hR hK => ?_
  have t4 := hR.q 1
  go_simp
  go_at_call 93
  refine (HM.out wx (HL.out wx hR.bel)).mono ?_
  rintro e w' ⟨rfl, hbx⟩
  exact hK _ _ hbx rfl
 ·refine rs fun S a wx K Q hR hK => ?_
  have t5 := hR.q 2
  have zb := dH M ⟨#[46]⟩
  have zc : (⟨#[46]⟩ : ByteArray).size = 1 := rfl
  have zq : ¬ 9223372036854775807 < M.size + 1 := by omega
  go_simp
  (try go_ints)
  exact hK _ _ br rfl
 ·refine rs fun S a wx K Q hR hK => ?_
  have t1 : a.tmps[1]? = some (.pointer (some ⟨w.heap.size, 0, none⟩)) := hR.o 1
  go_simp
  exact hK _ _ br rfl
 ·refine rs fun S a wx K Q hR hK => ?_
  have t7 := hR.q 4
  have y0 := (hR.bel.cell lx).trans c1
  go_simp
  exact hK _ _ br rfl
 ·refine rs fun S a wx K Q hR hK => ?_
  have t8 := hR.q 5
  go_simp
  go_at_call 93
  refine (HN.out wx (HL.out wx hR.bel)).mono ?_
  rintro e w' ⟨rfl, hbx⟩
  exact hK _ _ hbx rfl
 ·refine rs fun S a wx K Q hR hK => ?_
  have t6 := hR.q 3
  have t9 := hR.q 6
  have zb := dH M ⟨#[46]⟩
  have zc : (⟨#[46]⟩ : ByteArray).size = 1 := rfl
  have zq : ¬ 9223372036854775807 < M.size + 1 := by omega
  have zd := dH (M ++ ⟨#[46]⟩) N
  have zq2 : ¬ 9223372036854775807 < M.size + 1 + N.size := by omega
  go_simp
  (try go_ints)
  exact hK _ _ br rfl
 ·refine rs fun S a wx K Q hR hK => ?_
  have t10 := hR.q 7
  go_simp
  exact hK _ _ br rfl
 intro S1 w1v w1 hD
 have hb1 := hD.bel
 simp only [aP, List.foldl_cons, List.foldl_nil]
 clear hD
 go_simp
 (try (go_wp2_with fail))
 go_ret
 rw [HT.out]
 exact ⟨rfl, HB.out.1.trans (hb1.mono (by omega))⟩
theorem qD (w : World) : Calls Tryz.prog 62 #[] w fun e w' => e = .returned (.agg #[.string ⟨#[]⟩, .string ⟨#[119, 119]⟩, .string ⟨#[119, 114]⟩, .string ⟨#[114, 119]⟩, .string ⟨#[112, 119, 114]⟩, .string ⟨#[112, 114, 119]⟩]) ∧ Below w.heap.size w w' := by
 go_enter Tryz.func62, Tryz.ntmps62
 go_wp2_with fail
 exact bodyPost_ret (v := .agg #[.string ⟨#[]⟩, .string ⟨#[119, 119]⟩, .string ⟨#[119, 114]⟩, .string ⟨#[114, 119]⟩, .string ⟨#[112, 119, 114]⟩, .string ⟨#[112, 114, 119]⟩]) (by simp [results, Tryz.results62, go_sem]; try exact ⟨rfl, rfl, rfl, rfl⟩) rfl ⟨rfl, br.alloc nl _⟩
theorem Ff (k : Nat) (hk : 1 ≤ k ∧ k ≤ 5) (W : World) : (Instr.index 119 (.agg #[.string ⟨#[]⟩, .string ⟨#[119, 119]⟩, .string ⟨#[119, 114]⟩, .string ⟨#[114, 119]⟩, .string ⟨#[112, 119, 114]⟩, .string ⟨#[112, 114, 119]⟩]) (.int .i64 (k : Nat))).run Tryz.prog W = .ok (str (aV (k : Nat))) W := by
 obtain rfl | rfl | rfl | rfl | rfl : k = 1 ∨ k = 2 ∨ k = 3 ∨ k = 4 ∨ k = 5 := by omega
 all_goals kernel_rfl
theorem wJ (ea b : Int) (k x sw sn mw mn : Nat) (p : Int) : (Lib.join [Lib.decDigits ea.toNat, aV (k : Nat), Lib.decDigits b.toNat, Lib.decDigits x, dN sw sn, dN mw mn, Lib.itoa p] [32]) = (⟨ea, b, (k : Nat), x, sw, sn, mw, mn, p⟩ : Ed).told := rfl
theorem wK (ea b : Int) (k x sw sn mw mn : Nat) (p : Int) (w : World) (ha : 0 ≤ ea ∧ ea ≤ 9223372036854775807) (hb : 0 ≤ b ∧ b ≤ 9223372036854775807) (hk : 1 ≤ k ∧ k ≤ 5) (hx : x < 18446744073709551616 ∧ sw < 18446744073709551616 ∧ sn < 18446744073709551616 ∧ mw < 18446744073709551616 ∧ mn < 18446744073709551616) (hp : -1 ≤ p ∧ p ≤ 9223372036854775807) (hL : Lq w.heap.size w) : Calls Tryz.prog 28 #[.agg #[.int .i64 ea, .int .i64 b, .int .i64 (k : Nat), .int .u64 (x : Nat), .int .u64 (sw : Nat), .int .u64 (sn : Nat), .int .u64 (mw : Nat), .int .u64 (mn : Nat), .int .i64 p]] w fun e w' => e = .returned (str (⟨ea, b, (k : Nat), x, sw, sn, mw, mn, p⟩ : Ed).told) ∧ Below w.heap.size w w' := by
 have hb0 : Below w.heap.size w (w.alloc (.cells #[.int .i64 ea, .int .i64 b, .int .i64 (k : Nat), .int .u64 (x : Nat), .int .u64 (sw : Nat), .int .u64 (sn : Nat), .int .u64 (mw : Nat), .int .u64 (mn : Nat), .int .i64 p] 54)) := br.alloc nl _
 have hz0 : (w.alloc (.cells #[.int .i64 ea, .int .i64 b, .int .i64 (k : Nat), .int .u64 (x : Nat), .int .u64 (sw : Nat), .int .u64 (sn : Nat), .int .u64 (mw : Nat), .int .u64 (mn : Nat), .int .i64 p] 54)).heap.size = w.heap.size + 1 := World.size_alloc _ _
 have h0 := heap_alloc_new w (.cells #[.int .i64 ea, .int .i64 b, .int .i64 (k : Nat), .int .u64 (x : Nat), .int .u64 (sw : Nat), .int .u64 (sn : Nat), .int .u64 (mw : Nat), .int .u64 (mn : Nat), .int .i64 p] 54)
 have HB := hid (And.intro hb0 (hL.below hb0))
 obtain ⟨W, hW⟩ : ∃ W, W = w.alloc (.cells #[.int .i64 ea, .int .i64 b, .int .i64 (k : Nat), .int .u64 (x : Nat), .int .u64 (sw : Nat), .int .u64 (sn : Nat), .int .u64 (mw : Nat), .int .u64 (mn : Nat), .int .i64 p] 54) := ⟨_, rfl⟩
 rw [← hW] at h0 hz0 HB
 have c0 : W.cell? ⟨w.heap.size, 0, none⟩ = some (.int .i64 ea) := by rw [cell_of_row W _ 0 _ _ _ h0]; rfl
 have c1 : W.cell? ⟨w.heap.size, 1, none⟩ = some (.int .i64 b) := by rw [cell_of_row W _ 1 _ _ _ h0]; rfl
 have c2 : W.cell? ⟨w.heap.size, 2, none⟩ = some (.int .i64 (k : Nat)) := by rw [cell_of_row W _ 2 _ _ _ h0]; rfl
 have c3 : W.cell? ⟨w.heap.size, 3, none⟩ = some (.int .u64 (x : Nat)) := by rw [cell_of_row W _ 3 _ _ _ h0]; rfl
 have c4 : W.cell? ⟨w.heap.size, 4, none⟩ = some (.int .u64 (sw : Nat)) := by rw [cell_of_row W _ 4 _ _ _ h0]; rfl
 have c5 : W.cell? ⟨w.heap.size, 5, none⟩ = some (.int .u64 (sn : Nat)) := by rw [cell_of_row W _ 5 _ _ _ h0]; rfl
 have c6 : W.cell? ⟨w.heap.size, 6, none⟩ = some (.int .u64 (mw : Nat)) := by rw [cell_of_row W _ 6 _ _ _ h0]; rfl
 have c7 : W.cell? ⟨w.heap.size, 7, none⟩ = some (.int .u64 (mn : Nat)) := by rw [cell_of_row W _ 7 _ _ _ h0]; rfl
 have c8 : W.cell? ⟨w.heap.size, 8, none⟩ = some (.int .i64 p) := by rw [cell_of_row W _ 8 _ _ _ h0]; rfl
 have lx : w.heap.size < W.heap.size := by omega
 have HL : Hid (∀ w', Below W.heap.size W w' → Lq w'.heap.size w') := hid (fun w' hb' => (HB.out.2.below (hb'.mono (by omega))).mono (by have := hb'.size; omega))
 have HI := hid (Ff k hk)
 have HX := hid (And.intro ha (And.intro hb (And.intro hx hp)))
 have i1 : ¬ (k : Int) < 1 := by omega
 have i2 : ¬ (6 : Int) ≤ (k : Int) := by omega
 have i3 : ¬ ea < 0 := by omega
 have i4 : ¬ b < 0 := by omega
 have i5 : ¬ p < -1 := by omega
 clear h0 hz0 hL hb0 ha hb hx hp
 have HC : Hid (Calls Tryz.prog 28 #[.agg #[.int .i64 ea, .int .i64 b, .int .i64 (k : Nat), .int .u64 (x : Nat), .int .u64 (sw : Nat), .int .u64 (sn : Nat), .int .u64 (mw : Nat), .int .u64 (mn : Nat), .int .i64 p]] w fun e w' => e = .returned (str (⟨ea, b, (k : Nat), x, sw, sn, mw, mn, p⟩ : Ed).told) ∧ Below w.heap.size w w') := hid (by
  go_enter Tryz.func28, Tryz.ntmps28
  go_upto_region 1 with fail
  rw [← hW]
  clear hW
  go_upto_region 3 with fail
  have HJ : Hid ((Lib.join [Lib.itoa ea, aV (k : Nat), Lib.itoa b, Lib.decDigits x, dN sw sn, dN mw mn, Lib.itoa p] [32]).length ≤ 140737488355328 ∧ Lib.join [Lib.itoa ea, aV (k : Nat), Lib.itoa b, Lib.decDigits x, dN sw sn, dN mw mn, Lib.itoa p] [32] = (⟨ea, b, (k : Nat), x, sw, sn, mw, mn, p⟩ : Ed).told) := hid (by
   have h1 := HX.out
   rw [kN (n := ea) (by omega), kN (n := b) (by omega), wJ]
   refine ⟨?_, rfl⟩
   have := Ed.told_len (e := ⟨ea, b, (k : Nat), x, sw, sn, mw, mn, p⟩) ⟨⟨by show _ ≤ ea; omega, by show ea ≤ _; omega⟩, ⟨by show _ ≤ b; omega, by show b ≤ _; omega⟩, ⟨by show _ ≤ (k : Int); omega, by show (k : Int) ≤ _; omega⟩, h1.2.2.1.1, h1.2.2.1.2.1, h1.2.2.1.2.2.1, h1.2.2.1.2.2.2.1, h1.2.2.1.2.2.2.2, ⟨by show _ ≤ p; omega, by show p ≤ _; omega⟩⟩
   omega)
  refine aK (w0 := W) rfl [.eq (.pointer (some ⟨w.heap.size, 0, none⟩)), .eq (.int .i64 ea), .eq (str (Lib.itoa ea)), .eq (.agg #[.string ⟨#[]⟩, .string ⟨#[119, 119]⟩, .string ⟨#[119, 114]⟩, .string ⟨#[114, 119]⟩, .string ⟨#[112, 119, 114]⟩, .string ⟨#[112, 114, 119]⟩]), .eq (.pointer (some ⟨w.heap.size, 2, none⟩)), .eq (.int .i64 (k : Nat)), .eq (str (aV (k : Nat))), .eq (.pointer (some ⟨w.heap.size, 1, none⟩)), .eq (.int .i64 b), .eq (str (Lib.itoa b)), .eq (.pointer (some ⟨w.heap.size, 3, none⟩)), .eq (.int .u64 (x : Nat)), .eq (str (Lib.decDigits x)), .eq (.pointer (some ⟨w.heap.size, 4, none⟩)), .eq (.agg #[.int .u64 (sw : Nat), .int .u64 (sn : Nat)]), .eq (str (dN sw sn)), .eq (.pointer (some ⟨w.heap.size, 6, none⟩)), .eq (.agg #[.int .u64 (mw : Nat), .int .u64 (mn : Nat)]), .eq (str (dN mw mn)), .eq (.pointer (some ⟨w.heap.size, 8, none⟩)), .eq (.int .i64 p), .eq (str (Lib.itoa p)), .of (dZ 7 7 #[str (Lib.itoa ea), str (aV (k : Nat)), str (Lib.itoa b), str (Lib.decDigits x), str (dN sw sn), str (dN mw mn), str (Lib.itoa p)]), .eq (str (⟨ea, b, (k : Nat), x, sw, sn, mw, mn, p⟩ : Ed).told), .eq (str (⟨ea, b, (k : Nat), x, sw, sn, mw, mn, p⟩ : Ed).told)] (by kernel_rfl) ⟨?_, ?_, ?_, ?_, ?_, ?_, ?_, ?_, ?_, ?_, ?_, ?_, ?_, ?_, ?_, ?_, ?_, ?_, ?_, ?_, ?_, ?_, ?_, ?_, ?_, ?_, trivial⟩ (fun vs => [(26, (.pointer (some ⟨w.heap.size, 0, none⟩))), (27, (.int .i64 ea)), (28, (str (Lib.itoa ea))), (29, (.agg #[.string ⟨#[]⟩, .string ⟨#[119, 119]⟩, .string ⟨#[119, 114]⟩, .string ⟨#[114, 119]⟩, .string ⟨#[112, 119, 114]⟩, .string ⟨#[112, 114, 119]⟩])), (30, (.pointer (some ⟨w.heap.size, 2, none⟩))), (31, (.int .i64 (k : Nat))), (32, (str (aV (k : Nat)))), (33, (.pointer (some ⟨w.heap.size, 1, none⟩))), (34, (.int .i64 b)), (35, (str (Lib.itoa b))), (36, (.pointer (some ⟨w.heap.size, 3, none⟩))), (37, (.int .u64 (x : Nat))), (38, (str (Lib.decDigits x))), (39, (.pointer (some ⟨w.heap.size, 4, none⟩))), (40, (.agg #[.int .u64 (sw : Nat), .int .u64 (sn : Nat)])), (41, (str (dN sw sn))), (42, (.pointer (some ⟨w.heap.size, 6, none⟩))), (43, (.agg #[.int .u64 (mw : Nat), .int .u64 (mn : Nat)])), (44, (str (dN mw mn))), (45, (.pointer (some ⟨w.heap.size, 8, none⟩))), (46, (.int .i64 p)), (47, (str (Lib.itoa p))), (48, vs 22), (49, (str (⟨ea, b, (k : Nat), x, sw, sn, mw, mn, p⟩ : Ed).told)), (2, (str (⟨ea, b, (k : Nat), x, sw, sn, mw, mn, p⟩ : Ed).told))]) (fun _ => rfl) ?_
  ·refine rs fun S a wx K Q hR hK => ?_
   have t1 : a.tmps[1]? = some (.pointer (some ⟨w.heap.size, 0, none⟩)) := hR.o 1
   go_simp
   exact hK _ _ br rfl
  ·refine rs fun S a wx K Q hR hK => ?_
   have t26 := hR.q 0
   have y0 := (hR.bel.cell lx).trans c0
   go_simp
   exact hK _ _ br rfl
  ·refine rs fun S a wx K Q hR hK => ?_
   have t27 := hR.q 1
   go_simp
   go_at_call 33
   refine (nI ea (by have := HX.out; omega) (by have := HX.out; omega) wx (HL.out wx hR.bel)).mono ?_
   rintro e w' ⟨rfl, hbx⟩
   exact hK _ _ hbx rfl
  ·refine rs fun S a wx K Q hR hK => ?_
   go_simp
   go_at_call 62
   refine (qD wx).mono ?_
   rintro e w' ⟨rfl, hbx⟩
   exact hK _ _ hbx rfl
  ·refine rs fun S a wx K Q hR hK => ?_
   have t1 : a.tmps[1]? = some (.pointer (some ⟨w.heap.size, 0, none⟩)) := hR.o 1
   go_simp
   exact hK _ _ br rfl
  ·refine rs fun S a wx K Q hR hK => ?_
   have t30 := hR.q 4
   have y0 := (hR.bel.cell lx).trans c2
   go_simp
   exact hK _ _ br rfl
  ·refine rs fun S a wx K Q hR hK => ?_
   have t29 := hR.q 3
   have t31 := hR.q 5
   have hi := HI.out wx
   go_simp
   exact hK _ _ br rfl
  ·refine rs fun S a wx K Q hR hK => ?_
   have t1 : a.tmps[1]? = some (.pointer (some ⟨w.heap.size, 0, none⟩)) := hR.o 1
   go_simp
   exact hK _ _ br rfl
  ·refine rs fun S a wx K Q hR hK => ?_
   have t33 := hR.q 7
   have y0 := (hR.bel.cell lx).trans c1
   go_simp
   exact hK _ _ br rfl
  ·refine rs fun S a wx K Q hR hK => ?_
   have t34 := hR.q 8
   go_simp
   go_at_call 33
   refine (nI b (by have := HX.out; omega) (by have := HX.out; omega) wx (HL.out wx hR.bel)).mono ?_
   rintro e w' ⟨rfl, hbx⟩
   exact hK _ _ hbx rfl
  ·refine rs fun S a wx K Q hR hK => ?_
   have t1 : a.tmps[1]? = some (.pointer (some ⟨w.heap.size, 0, none⟩)) := hR.o 1
   go_simp
   exact hK _ _ br rfl
  ·refine rs fun S a wx K Q hR hK => ?_
   have t36 := hR.q 10
   have y0 := (hR.bel.cell lx).trans c3
   go_simp
   exact hK _ _ br rfl
  ·refine rs fun S a wx K Q hR hK => ?_
   have t37 := hR.q 11
   go_simp
   go_at_call 63
   refine (jU x wx (by have := HX.out; omega) (HL.out wx hR.bel).lv.tab).mono ?_
   rintro e w' ⟨rfl, hbx⟩
   exact hK _ _ hbx rfl
  ·refine rs fun S a wx K Q hR hK => ?_
   have t1 : a.tmps[1]? = some (.pointer (some ⟨w.heap.size, 0, none⟩)) := hR.o 1
   go_simp
   exact hK _ _ br rfl
  ·refine rs fun S a wx K Q hR hK => ?_
   have t39 := hR.q 13
   have y0 := (hR.bel.cell lx).trans c4
   have y1 := (hR.bel.cell lx).trans c5
   go_simp
   exact hK _ _ br rfl
  ·refine rs fun S a wx K Q hR hK => ?_
   have t40 := hR.q 14
   go_simp
   go_at_call 64
   refine (oC sw sn wx (by have := HX.out; omega) (by have := HX.out; omega) (HL.out wx hR.bel)).mono ?_
   rintro e w' ⟨rfl, hbx⟩
   exact hK _ _ hbx rfl
  ·refine rs fun S a wx K Q hR hK => ?_
   have t1 : a.tmps[1]? = some (.pointer (some ⟨w.heap.size, 0, none⟩)) := hR.o 1
   go_simp
   exact hK _ _ br rfl
  ·refine rs fun S a wx K Q hR hK => ?_
   have t42 := hR.q 16
   have y0 := (hR.bel.cell lx).trans c6
   have y1 := (hR.bel.cell lx).trans c7
   go_simp
   exact hK _ _ br rfl
  ·refine rs fun S a wx K Q hR hK => ?_
   have t43 := hR.q 17
   go_simp
   go_at_call 64
   refine (oC mw mn wx (by have := HX.out; omega) (by have := HX.out; omega) (HL.out wx hR.bel)).mono ?_
   rintro e w' ⟨rfl, hbx⟩
   exact hK _ _ hbx rfl
  ·refine rs fun S a wx K Q hR hK => ?_
   have t1 : a.tmps[1]? = some (.pointer (some ⟨w.heap.size, 0, none⟩)) := hR.o 1
   go_simp
   exact hK _ _ br rfl
  ·refine rs fun S a wx K Q hR hK => ?_
   have t45 := hR.q 19
   have y0 := (hR.bel.cell lx).trans c8
   go_simp
   exact hK _ _ br rfl
  ·refine rs fun S a wx K Q hR hK => ?_
   have t46 := hR.q 20
   go_simp
   go_at_call 33
   refine (nI p (by have := HX.out; omega) (by have := HX.out; omega) wx (HL.out wx hR.bel)).mono ?_
   rintro e w' ⟨rfl, hbx⟩
   exact hK _ _ hbx rfl
  ·exact bS _ _ _
  ·refine rs fun S a wx K Q hR hK => ?_
   have t28 := hR.q 2
   have t32 := hR.q 6
   have t35 := hR.q 9
   have t38 := hR.q 12
   have t41 := hR.q 15
   have t44 := hR.q 18
   have t47 := hR.q 21
   go_simp
   exact hK _ _ (br.alloc nl _) ⟨_, _, rfl, hR.new _ nl, heap_alloc_new _ _⟩
  ·refine rs fun S a wx K Q hR hK => ?_
   obtain ⟨u48, t48, f48⟩ := hR.f 22
   obtain ⟨g0, T0, rfl, hgS, hgh⟩ := f48
   have hrs := gV.of_row (l := [Lib.itoa ea, aV (k : Nat), Lib.itoa b, Lib.decDigits x, dN sw sn, dN mw mn, Lib.itoa p]) hgh (by simp)
   go_simp
   go_at_call 34
   refine (tV _ _ _ [32] wx hrs (by simp) HJ.out.1).mono ?_
   rintro e w' ⟨rfl, hbx⟩
   exact hK _ _ hbx (by rw [HJ.out.2]; rfl)
  ·refine rs fun S a wx K Q hR hK => ?_
   have t49 := hR.q 23
   go_simp
   exact hK _ _ br rfl
  intro S1 vs w1 hD
  have hb1 := hD.bel
  simp only [aP, List.foldl_cons, List.foldl_nil]
  clear hD
  go_simp
  (try (go_wp2_with fail))
  go_ret
  exact ⟨rfl, HB.out.1.trans (hb1.mono (by omega))⟩)
 exact HC.out
theorem Ai {e : Ed} (hn : e.nums) (ho : e.ok) : ∃ k : Nat, e.k = (k : Nat) ∧ (1 ≤ k ∧ k ≤ 5) ∧ (0 ≤ e.a ∧ e.a ≤ 9223372036854775807) ∧ (0 ≤ e.b ∧ e.b ≤ 9223372036854775807) ∧ (e.x < 18446744073709551616 ∧ e.sw < 18446744073709551616 ∧ e.sn < 18446744073709551616 ∧ e.mw < 18446744073709551616 ∧ e.mn < 18446744073709551616) ∧ (-1 ≤ e.p ∧ e.p ≤ 9223372036854775807) := by
 obtain ⟨n1, n2, n3, n4, n5, n6, n7, n8, n9⟩ := hn
 obtain ⟨o1, o2, o3, o4, o5⟩ := ho
 unfold i64 at n1 n2 n9
 exact ⟨e.k.toNat, by omega, by omega, by omega, by omega, ⟨n4, n5, n6, n7, n8⟩, by omega⟩
theorem wL (e : Ed) (w : World) (ho : ¬ e.ok) : Calls Tryz.prog 28 #[.agg e.vals.toArray] w fun r w' => r = .returned (str []) ∧ Below w.heap.size w w' := by
 obtain ⟨ea, b, k, x, sw, sn, mw, mn, p⟩ := e
 have hb0 : Below w.heap.size w (w.alloc (.cells #[.int .i64 ea, .int .i64 b, .int .i64 k, .int .u64 (x : Nat), .int .u64 (sw : Nat), .int .u64 (sn : Nat), .int .u64 (mw : Nat), .int .u64 (mn : Nat), .int .i64 p] 54)) := br.alloc nl _
 have h0 := heap_alloc_new w (.cells #[.int .i64 ea, .int .i64 b, .int .i64 k, .int .u64 (x : Nat), .int .u64 (sw : Nat), .int .u64 (sn : Nat), .int .u64 (mw : Nat), .int .u64 (mn : Nat), .int .i64 p] 54)
 obtain ⟨W, hW⟩ : ∃ W, W = w.alloc (.cells #[.int .i64 ea, .int .i64 b, .int .i64 k, .int .u64 (x : Nat), .int .u64 (sw : Nat), .int .u64 (sn : Nat), .int .u64 (mw : Nat), .int .u64 (mn : Nat), .int .i64 p] 54) := ⟨_, rfl⟩
 rw [← hW] at h0 hb0
 have c0 : W.cell? ⟨w.heap.size, 0, none⟩ = some (.int .i64 ea) := by rw [cell_of_row W _ 0 _ _ _ h0]; rfl
 have c1 : W.cell? ⟨w.heap.size, 1, none⟩ = some (.int .i64 b) := by rw [cell_of_row W _ 1 _ _ _ h0]; rfl
 have c2 : W.cell? ⟨w.heap.size, 2, none⟩ = some (.int .i64 k) := by rw [cell_of_row W _ 2 _ _ _ h0]; rfl
 have c8 : W.cell? ⟨w.heap.size, 8, none⟩ = some (.int .i64 p) := by rw [cell_of_row W _ 8 _ _ _ h0]; rfl
 have HO : Hid (¬ (1 ≤ k ∧ k ≤ 5 ∧ 0 ≤ ea ∧ 0 ≤ b ∧ -1 ≤ p)) := hid ho
 show Calls Tryz.prog 28 #[.agg #[.int .i64 ea, .int .i64 b, .int .i64 k, .int .u64 (x : Nat), .int .u64 (sw : Nat), .int .u64 (sn : Nat), .int .u64 (mw : Nat), .int .u64 (mn : Nat), .int .i64 p]] w _
 clear h0 ho
 go_enter Tryz.func28, Tryz.ntmps28
 go_upto_region 1 with fail
 rw [← hW]
 clear hW
 by_cases q0 : k < 1
 ·clear HO
  go_wp2_with fail
  go_ret
  exact ⟨rfl, hb0⟩
 by_cases q1 : (6 : Int) ≤ k
 ·clear HO
  go_wp2_with fail
  go_ret
  exact ⟨rfl, hb0⟩
 by_cases q2 : ea < 0
 ·clear HO
  go_wp2_with fail
  go_ret
  exact ⟨rfl, hb0⟩
 by_cases q3 : b < 0
 ·clear HO
  go_wp2_with fail
  go_ret
  exact ⟨rfl, hb0⟩
 have q4 : p < -1 := by have := HO.out; omega
 go_wp2_with fail
 go_ret
 exact ⟨rfl, hb0⟩
theorem jB {e : Ed} (hn : e.nums) (w : World) (hL : Lq w.heap.size w) : Calls Tryz.prog 28 #[.agg e.vals.toArray] w fun r w' => r = .returned (str e.text) ∧ Below w.heap.size w w' := by
 by_cases ho : e.ok
 ·obtain ⟨k, hk, h1, h2, h3, h4, h5⟩ := Ai hn ho
  obtain ⟨ea, b, k', x, sw, sn, mw, mn, p⟩ := e
  simp only at hk
  subst hk
  rw [Ed.text_ok ho]
  exact wK ea b k x sw sn mw mn p w h2 h3 h1 h4 h5 hL
 ·have : e.text = [] := Ed.text_nil.2 ho
  rw [this]
  exact wL e w ho
theorem lX (n : Int) (w : World) (h0 : -1 ≤ n) (h1 : n ≤ 9223372036854775807) : Calls Tryz.prog 83 #[.int .i64 n] w fun e w' => e = .returned (str (Lib.itoa n)) ∧ w' = w := by
 by_cases h : n < 0
 ·have HI := hid (DU h0 h)
  go_enter Tryz.func83, Tryz.ntmps83
  go_wp2_with fail
  go_ret
  exact ⟨by rw [HI.out]; rfl, rfl⟩
 ·obtain ⟨m, rfl⟩ := Int.eq_ofNat_of_zero_le (show 0 ≤ n by omega)
  have HI : Hid (Lib.itoa (m : Int) = Lib.decDigits m) := hid (by rw [kN (by omega)]; rfl)
  have HD := hid (fH m w (by omega))
  have e1 : IntKind.u64.wrap (m : Int) = (m : Int) := by rw [IntKind.wrap_u64]; omega
  go_enter Tryz.func83, Tryz.ntmps83
  go_wp2_with fail
  refine HD.out.mono ?_
  rintro e w1 ⟨rfl, rfl⟩
  go_wp2_with fail
  go_ret
  exact ⟨by rw [HI.out]; rfl, rfl⟩
def wO : List (List UInt8) := [[], [119, 119], [119, 114], [114, 119], [112, 119, 114], [112, 114, 119]]
theorem qE (w : World) : Calls Tryz.prog 84 #[] w fun e w' => ∃ g T, e = .returned (.slice (some ⟨g, 0, none⟩) 6 6) ∧ w.heap.size ≤ g ∧ w'.heap[g]? = some (.cells #[.string ⟨#[]⟩, .string ⟨#[119, 119]⟩, .string ⟨#[119, 114]⟩, .string ⟨#[114, 119]⟩, .string ⟨#[112, 119, 114]⟩, .string ⟨#[112, 114, 119]⟩] T (0, 0)) ∧ Below w.heap.size w w' := by
 go_enter Tryz.func84, Tryz.ntmps84
 go_wp2_with fail
 go_ret
 exact ⟨_, _, rfl, Nat.le_refl _, heap_alloc_new _ _, br.alloc nl _⟩
def pAt (k : Nat) (cs : Array Value) (S : Nat → Prop) (v : Value) (w : World) : Prop := ∃ g T, v = .pointer (some ⟨g, k, none⟩) ∧ S g ∧ w.heap[g]? = some (.cells cs T (0, 0))
theorem wP (k : Nat) (cs : Array Value) : eG (pAt k cs) := by
 rintro S S' v w w' hk hs hS ⟨g, T, h1, h2, h3⟩
 have hlt := (Array.getElem?_eq_some_iff.1 h3).1
 exact ⟨g, T, h1, hS g hlt h2, (hk g h2 hlt).trans h3⟩
theorem Co (k : Nat) (hk : 1 ≤ k ∧ k ≤ 5) : (#[.string ⟨#[]⟩, .string ⟨#[119, 119]⟩, .string ⟨#[119, 114]⟩, .string ⟨#[114, 119]⟩, .string ⟨#[112, 119, 114]⟩, .string ⟨#[112, 114, 119]⟩] : Array Value)[k]? = some (str (aV (k : Nat))) := by
 obtain rfl | rfl | rfl | rfl | rfl : k = 1 ∨ k = 2 ∨ k = 3 ∨ k = 4 ∨ k = 5 := by omega
 all_goals rfl
theorem qF (ea b : Int) (k x sw sn mw mn : Nat) (p : Int) (w : World) (ha : 0 ≤ ea ∧ ea ≤ 9223372036854775807) (hb : 0 ≤ b ∧ b ≤ 9223372036854775807) (hk : 1 ≤ k ∧ k ≤ 5) (hx : x < 18446744073709551616 ∧ sw < 18446744073709551616 ∧ sn < 18446744073709551616 ∧ mw < 18446744073709551616 ∧ mn < 18446744073709551616) (hp : -1 ≤ p ∧ p ≤ 9223372036854775807) (hL : Lq w.heap.size w) : Calls Tryz.prog 52 #[.agg #[.int .i64 ea, .int .i64 b, .int .i64 (k : Nat), .int .u64 (x : Nat), .int .u64 (sw : Nat), .int .u64 (sn : Nat), .int .u64 (mw : Nat), .int .u64 (mn : Nat), .int .i64 p]] w fun e w' => e = .returned (str (⟨ea, b, (k : Nat), x, sw, sn, mw, mn, p⟩ : Ed).told) ∧ Below w.heap.size w w' := by
 have hb0 : Below w.heap.size w (w.alloc (.cells #[.int .i64 ea, .int .i64 b, .int .i64 (k : Nat), .int .u64 (x : Nat), .int .u64 (sw : Nat), .int .u64 (sn : Nat), .int .u64 (mw : Nat), .int .u64 (mn : Nat), .int .i64 p] 108)) := br.alloc nl _
 have hz0 : (w.alloc (.cells #[.int .i64 ea, .int .i64 b, .int .i64 (k : Nat), .int .u64 (x : Nat), .int .u64 (sw : Nat), .int .u64 (sn : Nat), .int .u64 (mw : Nat), .int .u64 (mn : Nat), .int .i64 p] 108)).heap.size = w.heap.size + 1 := World.size_alloc _ _
 have h0 := heap_alloc_new w (.cells #[.int .i64 ea, .int .i64 b, .int .i64 (k : Nat), .int .u64 (x : Nat), .int .u64 (sw : Nat), .int .u64 (sn : Nat), .int .u64 (mw : Nat), .int .u64 (mn : Nat), .int .i64 p] 108)
 have HB := hid (And.intro hb0 (hL.below hb0))
 obtain ⟨W, hW⟩ : ∃ W, W = w.alloc (.cells #[.int .i64 ea, .int .i64 b, .int .i64 (k : Nat), .int .u64 (x : Nat), .int .u64 (sw : Nat), .int .u64 (sn : Nat), .int .u64 (mw : Nat), .int .u64 (mn : Nat), .int .i64 p] 108) := ⟨_, rfl⟩
 rw [← hW] at h0 hz0 HB
 have c0 : W.cell? ⟨w.heap.size, 0, none⟩ = some (.int .i64 ea) := by rw [cell_of_row W _ 0 _ _ _ h0]; rfl
 have c1 : W.cell? ⟨w.heap.size, 1, none⟩ = some (.int .i64 b) := by rw [cell_of_row W _ 1 _ _ _ h0]; rfl
 have c2 : W.cell? ⟨w.heap.size, 2, none⟩ = some (.int .i64 (k : Nat)) := by rw [cell_of_row W _ 2 _ _ _ h0]; rfl
 have c3 : W.cell? ⟨w.heap.size, 3, none⟩ = some (.int .u64 (x : Nat)) := by rw [cell_of_row W _ 3 _ _ _ h0]; rfl
 have c4 : W.cell? ⟨w.heap.size, 4, none⟩ = some (.int .u64 (sw : Nat)) := by rw [cell_of_row W _ 4 _ _ _ h0]; rfl
 have c5 : W.cell? ⟨w.heap.size, 5, none⟩ = some (.int .u64 (sn : Nat)) := by rw [cell_of_row W _ 5 _ _ _ h0]; rfl
 have c6 : W.cell? ⟨w.heap.size, 6, none⟩ = some (.int .u64 (mw : Nat)) := by rw [cell_of_row W _ 6 _ _ _ h0]; rfl
 have c7 : W.cell? ⟨w.heap.size, 7, none⟩ = some (.int .u64 (mn : Nat)) := by rw [cell_of_row W _ 7 _ _ _ h0]; rfl
 have c8 : W.cell? ⟨w.heap.size, 8, none⟩ = some (.int .i64 p) := by rw [cell_of_row W _ 8 _ _ _ h0]; rfl
 have lx : w.heap.size < W.heap.size := by omega
 have HL : Hid (∀ w', Below W.heap.size W w' → Lq w'.heap.size w') := hid (fun w' hb' => (HB.out.2.below (hb'.mono (by omega))).mono (by have := hb'.size; omega))
 have HI := hid (Co k hk)
 have HX := hid (And.intro ha (And.intro hb (And.intro hx hp)))
 have HKK := hid hk
 have i1 : ¬ (k : Int) < 1 := by omega
 have i2 : ¬ (5 : Int) < (k : Int) := by omega
 have i3 : ¬ ea < 0 := by omega
 have i4 : ¬ b < 0 := by omega
 have i5 : ¬ p < -1 := by omega
 obtain ⟨DA, hDA⟩ : ∃ DA : ByteArray, DA = ⟨(Lib.itoa ea).toArray⟩ := ⟨_, rfl⟩
 have zDA : DA.size ≤ 21 := by rw [hDA, ← ay]; simpa using mr ⟨by omega, by omega⟩
 obtain ⟨DK, hDK⟩ : ∃ DK : ByteArray, DK = ⟨(aV (k : Nat)).toArray⟩ := ⟨_, rfl⟩
 have zDK : DK.size ≤ 3 := by rw [hDK, ← ay]; simpa using ql _
 obtain ⟨DB, hDB⟩ : ∃ DB : ByteArray, DB = ⟨(Lib.itoa b).toArray⟩ := ⟨_, rfl⟩
 have zDB : DB.size ≤ 21 := by rw [hDB, ← ay]; simpa using mr ⟨by omega, by omega⟩
 obtain ⟨DX, hDX⟩ : ∃ DX : ByteArray, DX = ⟨(Lib.decDigits x).toArray⟩ := ⟨_, rfl⟩
 have zDX : DX.size ≤ 20 := by rw [hDX, ← ay]; simpa using aH x hx.1
 obtain ⟨DS, hDS⟩ : ∃ DS : ByteArray, DS = ⟨(dN sw sn).toArray⟩ := ⟨_, rfl⟩
 have zDS : DS.size ≤ 41 := by rw [hDS, ← ay]; simpa using mD hx.2.1 hx.2.2.1
 obtain ⟨DM, hDM⟩ : ∃ DM : ByteArray, DM = ⟨(dN mw mn).toArray⟩ := ⟨_, rfl⟩
 have zDM : DM.size ≤ 41 := by rw [hDM, ← ay]; simpa using mD hx.2.2.2.1 hx.2.2.2.2
 obtain ⟨DP, hDP⟩ : ∃ DP : ByteArray, DP = ⟨(Lib.itoa p).toArray⟩ := ⟨_, rfl⟩
 have zDP : DP.size ≤ 21 := by rw [hDP, ← ay]; simpa using mr ⟨by omega, by omega⟩
 have z32 : (⟨#[32]⟩ : ByteArray).size = 1 := rfl
 obtain ⟨S29, hS29⟩ : ∃ S29 : ByteArray, S29 = DA ++ ⟨#[32]⟩ := ⟨_, rfl⟩
 have zS29 : S29.size ≤ 22 := by rw [hS29, dH]; omega
 obtain ⟨S35, hS35⟩ : ∃ S35 : ByteArray, S35 = S29 ++ DK := ⟨_, rfl⟩
 have zS35 : S35.size ≤ 25 := by rw [hS35, dH]; omega
 obtain ⟨S36, hS36⟩ : ∃ S36 : ByteArray, S36 = S35 ++ ⟨#[32]⟩ := ⟨_, rfl⟩
 have zS36 : S36.size ≤ 26 := by rw [hS36, dH]; omega
 obtain ⟨S40, hS40⟩ : ∃ S40 : ByteArray, S40 = S36 ++ DB := ⟨_, rfl⟩
 have zS40 : S40.size ≤ 47 := by rw [hS40, dH]; omega
 obtain ⟨S41, hS41⟩ : ∃ S41 : ByteArray, S41 = S40 ++ ⟨#[32]⟩ := ⟨_, rfl⟩
 have zS41 : S41.size ≤ 48 := by rw [hS41, dH]; omega
 obtain ⟨S45, hS45⟩ : ∃ S45 : ByteArray, S45 = S41 ++ DX := ⟨_, rfl⟩
 have zS45 : S45.size ≤ 68 := by rw [hS45, dH]; omega
 obtain ⟨S46, hS46⟩ : ∃ S46 : ByteArray, S46 = S45 ++ ⟨#[32]⟩ := ⟨_, rfl⟩
 have zS46 : S46.size ≤ 69 := by rw [hS46, dH]; omega
 obtain ⟨S50, hS50⟩ : ∃ S50 : ByteArray, S50 = S46 ++ DS := ⟨_, rfl⟩
 have zS50 : S50.size ≤ 110 := by rw [hS50, dH]; omega
 obtain ⟨S51, hS51⟩ : ∃ S51 : ByteArray, S51 = S50 ++ ⟨#[32]⟩ := ⟨_, rfl⟩
 have zS51 : S51.size ≤ 111 := by rw [hS51, dH]; omega
 obtain ⟨S55, hS55⟩ : ∃ S55 : ByteArray, S55 = S51 ++ DM := ⟨_, rfl⟩
 have zS55 : S55.size ≤ 152 := by rw [hS55, dH]; omega
 obtain ⟨S56, hS56⟩ : ∃ S56 : ByteArray, S56 = S55 ++ ⟨#[32]⟩ := ⟨_, rfl⟩
 have zS56 : S56.size ≤ 153 := by rw [hS56, dH]; omega
 obtain ⟨S60, hS60⟩ : ∃ S60 : ByteArray, S60 = S56 ++ DP := ⟨_, rfl⟩
 have zS60 : S60.size ≤ 174 := by rw [hS60, dH]; omega
 have HT : Hid (.string S60 = str (⟨ea, b, (k : Nat), x, sw, sn, mw, mn, p⟩ : Ed).told) := hid (by
  unfold str
  congr 1
  apply jT
  rw [← wJ, Lib.join_cons]
  rw [hS60, hS56, hS55, hS51, hS50, hS46, hS45, hS41, hS40, hS36, hS35, hS29, hDA, hDK, hDB, hDX, hDS, hDM, hDP, kN (n := ea) (by omega), kN (n := b) (by omega)]
  simp [Lib.joinTail])
 have HA : Hid (∀ w', Calls Tryz.prog 83 #[.int .i64 ea] w' fun e w'' => e = .returned (.string DA) ∧ w'' = w') := hid (fun w' => by rw [hDA]; exact lX ea w' (by omega) (by omega))
 have HB2 : Hid (∀ w', Calls Tryz.prog 83 #[.int .i64 b] w' fun e w'' => e = .returned (.string DB) ∧ w'' = w') := hid (fun w' => by rw [hDB]; exact lX b w' (by omega) (by omega))
 have HP : Hid (∀ w', Calls Tryz.prog 83 #[.int .i64 p] w' fun e w'' => e = .returned (.string DP) ∧ w'' = w') := hid (fun w' => by rw [hDP]; exact lX p w' (by omega) (by omega))
 have HDX : Hid (∀ w', Calls Tryz.prog 51 #[.int .u64 x] w' fun e w'' => e = .returned (.string DX) ∧ w'' = w') := hid (fun w' => by rw [hDX]; exact fH x w' hx.1)
 have HDS : Hid (∀ w', Calls Tryz.prog 85 #[.agg #[.int .u64 sw, .int .u64 sn]] w' fun e w'' => e = .returned (.string DS) ∧ Below w'.heap.size w' w'') := hid (fun w' => by rw [hDS]; exact mG sw sn w' hx.2.1 hx.2.2.1)
 have HDM : Hid (∀ w', Calls Tryz.prog 85 #[.agg #[.int .u64 mw, .int .u64 mn]] w' fun e w'' => e = .returned (.string DM) ∧ Below w'.heap.size w' w'') := hid (fun w' => by rw [hDM]; exact mG mw mn w' hx.2.2.2.1 hx.2.2.2.2)
 have HDK := hid hDK
 have HS := hid ((And.intro hS29 (And.intro hS35 (And.intro hS36 (And.intro hS40 (And.intro hS41 (And.intro hS45 (And.intro hS46 (And.intro hS50 (And.intro hS51 (And.intro hS55 (And.intro hS56 hS60))))))))))))
 have k0 : (0 : Int) ≤ (k : Int) := by omega
 have k6 : (k : Int) < 6 := by omega
 clear h0 hz0 hL hb0 ha hb hx hp hk hDA hDK hDB hDX hDS hDM hDP hS29 hS35 hS36 hS40 hS41 hS45 hS46 hS50 hS51 hS55 hS56 hS60
 go_enter Tryz.func52, Tryz.ntmps52
 go_upto_region 1 with fail
 rw [← hW]
 clear hW
 go_upto_region 3 with fail
 refine aK (w0 := W) rfl ((.eq (.pointer (some ⟨w.heap.size, 0, none⟩))) :: (.eq (.int .i64 ea)) :: (.eq (.string DA)) :: (.eq (.string S29)) :: (.of (dZ 6 6 #[.string ⟨#[]⟩, .string ⟨#[119, 119]⟩, .string ⟨#[119, 114]⟩, .string ⟨#[114, 119]⟩, .string ⟨#[112, 119, 114]⟩, .string ⟨#[112, 114, 119]⟩])) :: (.eq (.pointer (some ⟨w.heap.size, 2, none⟩))) :: (.eq (.int .i64 (k : Nat))) :: (.of (pAt k #[.string ⟨#[]⟩, .string ⟨#[119, 119]⟩, .string ⟨#[119, 114]⟩, .string ⟨#[114, 119]⟩, .string ⟨#[112, 119, 114]⟩, .string ⟨#[112, 114, 119]⟩])) :: (.eq (.string DK)) :: (.eq (.string S35)) :: (.eq (.string S36)) :: (.eq (.pointer (some ⟨w.heap.size, 1, none⟩))) :: (.eq (.int .i64 b)) :: (.eq (.string DB)) :: (.eq (.string S40)) :: (.eq (.string S41)) :: (.eq (.pointer (some ⟨w.heap.size, 3, none⟩))) :: (.eq (.int .u64 (x : Nat))) :: (.eq (.string DX)) :: (.eq (.string S45)) :: (.eq (.string S46)) :: (.eq (.pointer (some ⟨w.heap.size, 4, none⟩))) :: (.eq (.agg #[.int .u64 (sw : Nat), .int .u64 (sn : Nat)])) :: (.eq (.string DS)) :: (.eq (.string S50)) :: (.eq (.string S51)) :: (.eq (.pointer (some ⟨w.heap.size, 6, none⟩))) :: (.eq (.agg #[.int .u64 (mw : Nat), .int .u64 (mn : Nat)])) :: (.eq (.string DM)) :: (.eq (.string S55)) :: (.eq (.string S56)) :: (.eq (.pointer (some ⟨w.heap.size, 8, none⟩))) :: (.eq (.int .i64 p)) :: (.eq (.string DP)) :: (.eq (.string S60)) :: (.eq (.string S60)) :: []) (by kernel_rfl) ⟨?_, ?_, ?_, ?_, ?_, ?_, ?_, ?_, ?_, ?_, ?_, ?_, ?_, ?_, ?_, ?_, ?_, ?_, ?_, ?_, ?_, ?_, ?_, ?_, ?_, ?_, ?_, ?_, ?_, ?_, ?_, ?_, ?_, ?_, ?_, ?_, ?_, ?_, trivial⟩ (fun vs => [(26, (.pointer (some ⟨w.heap.size, 0, none⟩))), (27, (.int .i64 ea)), (28, (.string DA)), (29, (.string S29)), (30, vs 4), (31, (.pointer (some ⟨w.heap.size, 2, none⟩))), (32, (.int .i64 (k : Nat))), (33, vs 7), (34, (.string DK)), (35, (.string S35)), (36, (.string S36)), (37, (.pointer (some ⟨w.heap.size, 1, none⟩))), (38, (.int .i64 b)), (39, (.string DB)), (40, (.string S40)), (41, (.string S41)), (42, (.pointer (some ⟨w.heap.size, 3, none⟩))), (43, (.int .u64 (x : Nat))), (44, (.string DX)), (45, (.string S45)), (46, (.string S46)), (47, (.pointer (some ⟨w.heap.size, 4, none⟩))), (48, (.agg #[.int .u64 (sw : Nat), .int .u64 (sn : Nat)])), (49, (.string DS)), (50, (.string S50)), (51, (.string S51)), (52, (.pointer (some ⟨w.heap.size, 6, none⟩))), (53, (.agg #[.int .u64 (mw : Nat), .int .u64 (mn : Nat)])), (54, (.string DM)), (55, (.string S55)), (56, (.string S56)), (57, (.pointer (some ⟨w.heap.size, 8, none⟩))), (58, (.int .i64 p)), (59, (.string DP)), (60, (.string S60)), (2, (.string S60))]) (fun _ => rfl) ?_
 ·refine rs fun S a wx K Q hR hK => ?_
  have t1 : a.tmps[1]? = some (.pointer (some ⟨w.heap.size, 0, none⟩)) := hR.o 1
  go_simp
  exact hK _ _ br rfl
 ·refine rs fun S a wx K Q hR hK => ?_
  have t26 := hR.q 0
  have y0 := (hR.bel.cell lx).trans c0
  go_simp
  exact hK _ _ br rfl
 ·refine rs fun S a wx K Q hR hK => ?_
  have t27 := hR.q 1
  go_simp
  go_at_call 83
  refine (HA.out wx).mono ?_
  rintro e w' ⟨rfl, rfl⟩
  exact hK _ _ br rfl
 ·refine rs fun S a wx K Q hR hK => ?_
  have t28 := hR.q 2
  have hs9 : DA ++ ⟨#[32]⟩ = S29 := (HS.out.1).symm
  have zz : ¬ 9223372036854775807 < DA.size + 1 := by omega
  go_simp
  (try go_ints)
  exact hK _ _ br rfl
 ·exact bS _ _ _
 ·refine rs fun S a wx K Q hR hK => ?_
  go_simp
  go_at_call 84
  refine (qE wx).mono ?_
  rintro e w' ⟨g, T, rfl, hg, hgh, hbx⟩
  exact hK _ _ hbx ⟨g, T, rfl, hR.new _ hg, hgh⟩
 ·refine rs fun S a wx K Q hR hK => ?_
  have t1 : a.tmps[1]? = some (.pointer (some ⟨w.heap.size, 0, none⟩)) := hR.o 1
  go_simp
  exact hK _ _ br rfl
 ·refine rs fun S a wx K Q hR hK => ?_
  have t31 := hR.q 5
  have y0 := (hR.bel.cell lx).trans c2
  go_simp
  exact hK _ _ br rfl
 ·exact wP _ _
 ·refine rs fun S a wx K Q hR hK => ?_
  obtain ⟨u30, t30, f30⟩ := hR.f 4
  obtain ⟨g0, T0, rfl, hgS, hgh⟩ := f30
  have t32 := hR.q 6
  go_simp
  exact hK _ _ br ⟨g0, T0, rfl, hgS, hgh⟩
 ·refine rs fun S a wx K Q hR hK => ?_
  obtain ⟨u33, t33, f33⟩ := hR.f 7
  obtain ⟨g1, T1, rfl, hgS, hgh⟩ := f33
  have y0 : wx.cell? ⟨g1, k, none⟩ = some (.string DK) := by rw [cell_of_row wx _ k _ _ _ hgh, HI.out, HDK.out]; rfl
  go_simp
  exact hK _ _ br rfl
 ·refine rs fun S a wx K Q hR hK => ?_
  have t29 := hR.q 3
  have t34 := hR.q 8
  have hs9 : S29 ++ DK = S35 := (HS.out.2.1).symm
  have zz : ¬ 9223372036854775807 < S29.size + DK.size := by omega
  go_simp
  (try go_ints)
  exact hK _ _ br rfl
 ·refine rs fun S a wx K Q hR hK => ?_
  have t35 := hR.q 9
  have hs9 : S35 ++ ⟨#[32]⟩ = S36 := (HS.out.2.2.1).symm
  have zz : ¬ 9223372036854775807 < S35.size + 1 := by omega
  go_simp
  (try go_ints)
  exact hK _ _ br rfl
 ·refine rs fun S a wx K Q hR hK => ?_
  have t1 : a.tmps[1]? = some (.pointer (some ⟨w.heap.size, 0, none⟩)) := hR.o 1
  go_simp
  exact hK _ _ br rfl
 ·refine rs fun S a wx K Q hR hK => ?_
  have t37 := hR.q 11
  have y0 := (hR.bel.cell lx).trans c1
  go_simp
  exact hK _ _ br rfl
 ·refine rs fun S a wx K Q hR hK => ?_
  have t38 := hR.q 12
  go_simp
  go_at_call 83
  refine (HB2.out wx).mono ?_
  rintro e w' ⟨rfl, rfl⟩
  exact hK _ _ br rfl
 ·refine rs fun S a wx K Q hR hK => ?_
  have t36 := hR.q 10
  have t39 := hR.q 13
  have hs9 : S36 ++ DB = S40 := (HS.out.2.2.2.1).symm
  have zz : ¬ 9223372036854775807 < S36.size + DB.size := by omega
  go_simp
  (try go_ints)
  exact hK _ _ br rfl
 ·refine rs fun S a wx K Q hR hK => ?_
  have t40 := hR.q 14
  have hs9 : S40 ++ ⟨#[32]⟩ = S41 := (HS.out.2.2.2.2.1).symm
  have zz : ¬ 9223372036854775807 < S40.size + 1 := by omega
  go_simp
  (try go_ints)
  exact hK _ _ br rfl
 ·refine rs fun S a wx K Q hR hK => ?_
  have t1 : a.tmps[1]? = some (.pointer (some ⟨w.heap.size, 0, none⟩)) := hR.o 1
  go_simp
  exact hK _ _ br rfl
 ·refine rs fun S a wx K Q hR hK => ?_
  have t42 := hR.q 16
  have y0 := (hR.bel.cell lx).trans c3
  go_simp
  exact hK _ _ br rfl
 ·refine rs fun S a wx K Q hR hK => ?_
  have t43 := hR.q 17
  go_simp
  go_at_call 51
  refine (HDX.out wx).mono ?_
  rintro e w' ⟨rfl, rfl⟩
  exact hK _ _ br rfl
 ·refine rs fun S a wx K Q hR hK => ?_
  have t41 := hR.q 15
  have t44 := hR.q 18
  have hs9 : S41 ++ DX = S45 := (HS.out.2.2.2.2.2.1).symm
  have zz : ¬ 9223372036854775807 < S41.size + DX.size := by omega
  go_simp
  (try go_ints)
  exact hK _ _ br rfl
 ·refine rs fun S a wx K Q hR hK => ?_
  have t45 := hR.q 19
  have hs9 : S45 ++ ⟨#[32]⟩ = S46 := (HS.out.2.2.2.2.2.2.1).symm
  have zz : ¬ 9223372036854775807 < S45.size + 1 := by omega
  go_simp
  (try go_ints)
  exact hK _ _ br rfl
 ·refine rs fun S a wx K Q hR hK => ?_
  have t1 : a.tmps[1]? = some (.pointer (some ⟨w.heap.size, 0, none⟩)) := hR.o 1
  go_simp
  exact hK _ _ br rfl
 ·refine rs fun S a wx K Q hR hK => ?_
  have t47 := hR.q 21
  have y0 := (hR.bel.cell lx).trans c4
  have y1 := (hR.bel.cell lx).trans c5
  go_simp
  exact hK _ _ br rfl
 ·refine rs fun S a wx K Q hR hK => ?_
  have t48 := hR.q 22
  go_simp
  go_at_call 85
  refine (HDS.out wx).mono ?_
  rintro e w' ⟨rfl, hbx⟩
  exact hK _ _ hbx rfl
 ·refine rs fun S a wx K Q hR hK => ?_
  have t46 := hR.q 20
  have t49 := hR.q 23
  have hs9 : S46 ++ DS = S50 := (HS.out.2.2.2.2.2.2.2.1).symm
  have zz : ¬ 9223372036854775807 < S46.size + DS.size := by omega
  go_simp
  (try go_ints)
  exact hK _ _ br rfl
 ·refine rs fun S a wx K Q hR hK => ?_
  have t50 := hR.q 24
  have hs9 : S50 ++ ⟨#[32]⟩ = S51 := (HS.out.2.2.2.2.2.2.2.2.1).symm
  have zz : ¬ 9223372036854775807 < S50.size + 1 := by omega
  go_simp
  (try go_ints)
  exact hK _ _ br rfl
 ·refine rs fun S a wx K Q hR hK => ?_
  have t1 : a.tmps[1]? = some (.pointer (some ⟨w.heap.size, 0, none⟩)) := hR.o 1
  go_simp
  exact hK _ _ br rfl
 ·refine rs fun S a wx K Q hR hK => ?_
  have t52 := hR.q 26
  have y0 := (hR.bel.cell lx).trans c6
  have y1 := (hR.bel.cell lx).trans c7
  go_simp
  exact hK _ _ br rfl
 ·refine rs fun S a wx K Q hR hK => ?_
  have t53 := hR.q 27
  go_simp
  go_at_call 85
  refine (HDM.out wx).mono ?_
  rintro e w' ⟨rfl, hbx⟩
  exact hK _ _ hbx rfl
 ·refine rs fun S a wx K Q hR hK => ?_
  have t51 := hR.q 25
  have t54 := hR.q 28
  have hs9 : S51 ++ DM = S55 := (HS.out.2.2.2.2.2.2.2.2.2.1).symm
  have zz : ¬ 9223372036854775807 < S51.size + DM.size := by omega
  go_simp
  (try go_ints)
  exact hK _ _ br rfl
 ·refine rs fun S a wx K Q hR hK => ?_
  have t55 := hR.q 29
  have hs9 : S55 ++ ⟨#[32]⟩ = S56 := (HS.out.2.2.2.2.2.2.2.2.2.2.1).symm
  have zz : ¬ 9223372036854775807 < S55.size + 1 := by omega
  go_simp
  (try go_ints)
  exact hK _ _ br rfl
 ·refine rs fun S a wx K Q hR hK => ?_
  have t1 : a.tmps[1]? = some (.pointer (some ⟨w.heap.size, 0, none⟩)) := hR.o 1
  go_simp
  exact hK _ _ br rfl
 ·refine rs fun S a wx K Q hR hK => ?_
  have t57 := hR.q 31
  have y0 := (hR.bel.cell lx).trans c8
  go_simp
  exact hK _ _ br rfl
 ·refine rs fun S a wx K Q hR hK => ?_
  have t58 := hR.q 32
  go_simp
  go_at_call 83
  refine (HP.out wx).mono ?_
  rintro e w' ⟨rfl, rfl⟩
  exact hK _ _ br rfl
 ·refine rs fun S a wx K Q hR hK => ?_
  have t56 := hR.q 30
  have t59 := hR.q 33
  have hs9 : S56 ++ DP = S60 := (HS.out.2.2.2.2.2.2.2.2.2.2.2).symm
  have zz : ¬ 9223372036854775807 < S56.size + DP.size := by omega
  go_simp
  (try go_ints)
  exact hK _ _ br rfl
 ·refine rs fun S a wx K Q hR hK => ?_
  have t60 := hR.q 34
  go_simp
  exact hK _ _ br rfl
 intro S1 vs w1 hD
 have hb1 := hD.bel
 simp only [aP, List.foldl_cons, List.foldl_nil]
 clear hD
 go_simp
 (try (go_wp2_with fail))
 go_ret
 rw [HT.out]
 exact ⟨rfl, HB.out.1.trans (hb1.mono (by omega))⟩
theorem qG (e : Ed) (w : World) (ho : ¬ e.ok) : Calls Tryz.prog 52 #[.agg e.vals.toArray] w fun r w' => r = .returned (str []) ∧ Below w.heap.size w w' := by
 obtain ⟨ea, b, k, x, sw, sn, mw, mn, p⟩ := e
 have hb0 : Below w.heap.size w (w.alloc (.cells #[.int .i64 ea, .int .i64 b, .int .i64 k, .int .u64 (x : Nat), .int .u64 (sw : Nat), .int .u64 (sn : Nat), .int .u64 (mw : Nat), .int .u64 (mn : Nat), .int .i64 p] 108)) := br.alloc nl _
 have h0 := heap_alloc_new w (.cells #[.int .i64 ea, .int .i64 b, .int .i64 k, .int .u64 (x : Nat), .int .u64 (sw : Nat), .int .u64 (sn : Nat), .int .u64 (mw : Nat), .int .u64 (mn : Nat), .int .i64 p] 108)
 obtain ⟨W, hW⟩ : ∃ W, W = w.alloc (.cells #[.int .i64 ea, .int .i64 b, .int .i64 k, .int .u64 (x : Nat), .int .u64 (sw : Nat), .int .u64 (sn : Nat), .int .u64 (mw : Nat), .int .u64 (mn : Nat), .int .i64 p] 108) := ⟨_, rfl⟩
 rw [← hW] at h0 hb0
 have c0 : W.cell? ⟨w.heap.size, 0, none⟩ = some (.int .i64 ea) := by rw [cell_of_row W _ 0 _ _ _ h0]; rfl
 have c1 : W.cell? ⟨w.heap.size, 1, none⟩ = some (.int .i64 b) := by rw [cell_of_row W _ 1 _ _ _ h0]; rfl
 have c2 : W.cell? ⟨w.heap.size, 2, none⟩ = some (.int .i64 k) := by rw [cell_of_row W _ 2 _ _ _ h0]; rfl
 have c8 : W.cell? ⟨w.heap.size, 8, none⟩ = some (.int .i64 p) := by rw [cell_of_row W _ 8 _ _ _ h0]; rfl
 have HO : Hid (¬ (1 ≤ k ∧ k ≤ 5 ∧ 0 ≤ ea ∧ 0 ≤ b ∧ -1 ≤ p)) := hid ho
 show Calls Tryz.prog 52 #[.agg #[.int .i64 ea, .int .i64 b, .int .i64 k, .int .u64 (x : Nat), .int .u64 (sw : Nat), .int .u64 (sn : Nat), .int .u64 (mw : Nat), .int .u64 (mn : Nat), .int .i64 p]] w _
 clear h0 ho
 go_enter Tryz.func52, Tryz.ntmps52
 go_upto_region 1 with fail
 rw [← hW]
 clear hW
 by_cases q0 : k < 1
 ·clear HO
  go_wp2_with fail
  go_ret
  exact ⟨rfl, hb0⟩
 by_cases q1 : (5 : Int) < k
 ·clear HO
  go_wp2_with fail
  go_ret
  exact ⟨rfl, hb0⟩
 by_cases q2 : ea < 0
 ·clear HO
  go_wp2_with fail
  go_ret
  exact ⟨rfl, hb0⟩
 by_cases q3 : b < 0
 ·clear HO
  go_wp2_with fail
  go_ret
  exact ⟨rfl, hb0⟩
 have q4 : p < -1 := by have := HO.out; omega
 go_wp2_with fail
 go_ret
 exact ⟨rfl, hb0⟩
theorem dW {e : Ed} (hn : e.nums) (w : World) (hL : Lq w.heap.size w) : Calls Tryz.prog 52 #[.agg e.vals.toArray] w fun r w' => r = .returned (str e.text) ∧ Below w.heap.size w w' := by
 by_cases ho : e.ok
 ·obtain ⟨k, hk, h1, h2, h3, h4, h5⟩ := Ai hn ho
  obtain ⟨ea, b, k', x, sw, sn, mw, mn, p⟩ := e
  simp only at hk
  subst hk
  rw [Ed.text_ok ho]
  exact qF ea b k x sw sn mw mn p w h2 h3 h1 h4 h5 hL
 ·have : e.text = [] := Ed.text_nil.2 ho
  rw [this]
  exact qG e w ho
theorem wR (m n : Nat) (w : World) : Calls Tryz.prog 112 #[.agg #[.int .u64 m, .int .u64 n]] w fun e w' => e = .returned (.agg #[.int .u64 m, .int .u64 n]) ∧ Below w.heap.size w w' := by
 go_enter Tryz.func112, Tryz.ntmps112
 go_wp2_with fail
 refine bodyPost_ret (v := .agg #[.int .u64 m, .int .u64 n]) (results_cell_row rfl _ _ (w.heap.size + 1) 106 _ _ _ rfl (az _ _ _ (by simp)) Tryz.underlying106 rfl (by kernel_rfl)) rfl ⟨rfl, (br.alloc nl _).alloc (by simp) _⟩
theorem wS {e : Ed} (hn : e.nums) (w : World) (hL : Lq w.heap.size w) : Calls Tryz.prog 82 #[.agg e.vals.toArray] w fun r w' => r = .returned (.agg e.vals.toArray) ∧ Below w.heap.size w w' := by
 obtain ⟨ea, b, k, x, sw, sn, mw, mn, p⟩ := e
 show Calls Tryz.prog 82 #[.agg #[.int .i64 ea, .int .i64 b, .int .i64 k, .int .u64 (x : Nat), .int .u64 (sw : Nat), .int .u64 (sn : Nat), .int .u64 (mw : Nat), .int .u64 (mn : Nat), .int .i64 p]] w fun r w' => r = .returned (.agg #[.int .i64 ea, .int .i64 b, .int .i64 k, .int .u64 (x : Nat), .int .u64 (sw : Nat), .int .u64 (sn : Nat), .int .u64 (mw : Nat), .int .u64 (mn : Nat), .int .i64 p]) ∧ Below w.heap.size w w'
 have hb0 : Below w.heap.size w ((w.alloc (.cells #[.int .i64 ea, .int .i64 b, .int .i64 k, .int .u64 (x : Nat), .int .u64 (sw : Nat), .int .u64 (sn : Nat), .int .u64 (mw : Nat), .int .u64 (mn : Nat), .int .i64 p] 54)).alloc (.cells #[.int .i64 0, .int .i64 0, .int .i64 0, .int .u64 0, .int .u64 0, .int .u64 0, .int .u64 0, .int .u64 0, .int .i64 0] 108)) := (br.alloc nl _).alloc (by simp) _
 have h0 : ((w.alloc (.cells #[.int .i64 ea, .int .i64 b, .int .i64 k, .int .u64 (x : Nat), .int .u64 (sw : Nat), .int .u64 (sn : Nat), .int .u64 (mw : Nat), .int .u64 (mn : Nat), .int .i64 p] 54)).alloc (.cells #[.int .i64 0, .int .i64 0, .int .i64 0, .int .u64 0, .int .u64 0, .int .u64 0, .int .u64 0, .int .u64 0, .int .i64 0] 108)).heap[w.heap.size]? = some (.cells #[.int .i64 ea, .int .i64 b, .int .i64 k, .int .u64 (x : Nat), .int .u64 (sw : Nat), .int .u64 (sn : Nat), .int .u64 (mw : Nat), .int .u64 (mn : Nat), .int .i64 p] 54 (0, 0)) := (aU _ _ _ (by simp)).trans (az _ _ _ rfl)
 have g0 : ((w.alloc (.cells #[.int .i64 ea, .int .i64 b, .int .i64 k, .int .u64 (x : Nat), .int .u64 (sw : Nat), .int .u64 (sn : Nat), .int .u64 (mw : Nat), .int .u64 (mn : Nat), .int .i64 p] 54)).alloc (.cells #[.int .i64 0, .int .i64 0, .int .i64 0, .int .u64 0, .int .u64 0, .int .u64 0, .int .u64 0, .int .u64 0, .int .i64 0] 108)).heap[w.heap.size + 1]? = some (.cells #[.int .i64 0, .int .i64 0, .int .i64 0, .int .u64 0, .int .u64 0, .int .u64 0, .int .u64 0, .int .u64 0, .int .i64 0] 108 (0, 0)) := az _ _ _ (by simp)
 obtain ⟨W, hW⟩ : ∃ W, W = (w.alloc (.cells #[.int .i64 ea, .int .i64 b, .int .i64 k, .int .u64 (x : Nat), .int .u64 (sw : Nat), .int .u64 (sn : Nat), .int .u64 (mw : Nat), .int .u64 (mn : Nat), .int .i64 p] 54)).alloc (.cells #[.int .i64 0, .int .i64 0, .int .i64 0, .int .u64 0, .int .u64 0, .int .u64 0, .int .u64 0, .int .u64 0, .int .i64 0] 108) := ⟨_, rfl⟩
 rw [← hW] at h0 hb0 g0
 have c0 : W.cell? ⟨w.heap.size, 0, none⟩ = some (.int .i64 ea) := by rw [cell_of_row W _ 0 _ _ _ h0]; rfl
 have c1 : W.cell? ⟨w.heap.size, 1, none⟩ = some (.int .i64 b) := by rw [cell_of_row W _ 1 _ _ _ h0]; rfl
 have c2 : W.cell? ⟨w.heap.size, 2, none⟩ = some (.int .i64 k) := by rw [cell_of_row W _ 2 _ _ _ h0]; rfl
 have c3 : W.cell? ⟨w.heap.size, 3, none⟩ = some (.int .u64 (x : Nat)) := by rw [cell_of_row W _ 3 _ _ _ h0]; rfl
 have c4 : W.cell? ⟨w.heap.size, 4, none⟩ = some (.int .u64 (sw : Nat)) := by rw [cell_of_row W _ 4 _ _ _ h0]; rfl
 have c5 : W.cell? ⟨w.heap.size, 5, none⟩ = some (.int .u64 (sn : Nat)) := by rw [cell_of_row W _ 5 _ _ _ h0]; rfl
 have c6 : W.cell? ⟨w.heap.size, 6, none⟩ = some (.int .u64 (mw : Nat)) := by rw [cell_of_row W _ 6 _ _ _ h0]; rfl
 have c7 : W.cell? ⟨w.heap.size, 7, none⟩ = some (.int .u64 (mn : Nat)) := by rw [cell_of_row W _ 7 _ _ _ h0]; rfl
 have c8 : W.cell? ⟨w.heap.size, 8, none⟩ = some (.int .i64 p) := by rw [cell_of_row W _ 8 _ _ _ h0]; rfl
 have lx : w.heap.size < W.heap.size := (Array.getElem?_eq_some_iff.1 h0).1
 have lg : w.heap.size + 1 < W.heap.size := (Array.getElem?_eq_some_iff.1 g0).1
 have HG := hid g0
 clear h0 hn hL g0
 go_enter Tryz.func82, Tryz.ntmps82
 go_upto_region 1 with fail
 rw [← hW]
 clear hW
 refine ak (w0 := W) rfl [.eq (.pointer (some ⟨w.heap.size, 0, none⟩)), .eq (.int .i64 ea), .eq (.pointer (some ⟨w.heap.size, 1, none⟩)), .eq (.int .i64 b), .eq (.pointer (some ⟨w.heap.size, 2, none⟩)), .eq (.int .i64 k), .eq (.pointer (some ⟨w.heap.size, 3, none⟩)), .eq (.int .u64 (x : Nat)), .eq (.pointer (some ⟨w.heap.size, 4, none⟩)), .eq (.agg #[.int .u64 (sw : Nat), .int .u64 (sn : Nat)]), .eq (.agg #[.int .u64 (sw : Nat), .int .u64 (sn : Nat)]), .eq (.pointer (some ⟨w.heap.size, 6, none⟩)), .eq (.agg #[.int .u64 (mw : Nat), .int .u64 (mn : Nat)]), .eq (.agg #[.int .u64 (mw : Nat), .int .u64 (mn : Nat)]), .eq (.pointer (some ⟨w.heap.size, 8, none⟩)), .eq (.int .i64 p), .eq (.agg #[.int .i64 ea, .int .i64 b, .int .i64 k, .int .u64 (x : Nat), .int .u64 (sw : Nat), .int .u64 (sn : Nat), .int .u64 (mw : Nat), .int .u64 (mn : Nat), .int .i64 p]), .tail] 17 [] [] (by kernel_rfl) ⟨?_, ?_, ?_, ?_, ?_, ?_, ?_, ?_, ?_, ?_, ?_, ?_, ?_, ?_, ?_, ?_, ?_, trivial⟩ trivial [fun vs w' => w'.heap[w.heap.size + 1]? = some (.cells #[.int .i64 ea, .int .i64 b, .int .i64 k, .int .u64 (x : Nat), .int .u64 (sw : Nat), .int .u64 (sn : Nat), .int .u64 (mw : Nat), .int .u64 (mn : Nat), .int .i64 p] 108 (0, 0)) ∧ Below w.heap.size w w'] ⟨?_, trivial⟩ (fun vs => [(3, (.pointer (some ⟨w.heap.size, 0, none⟩))), (4, (.int .i64 ea)), (5, (.pointer (some ⟨w.heap.size, 1, none⟩))), (6, (.int .i64 b)), (7, (.pointer (some ⟨w.heap.size, 2, none⟩))), (8, (.int .i64 k)), (9, (.pointer (some ⟨w.heap.size, 3, none⟩))), (10, (.int .u64 (x : Nat))), (11, (.pointer (some ⟨w.heap.size, 4, none⟩))), (12, (.agg #[.int .u64 (sw : Nat), .int .u64 (sn : Nat)])), (13, (.agg #[.int .u64 (sw : Nat), .int .u64 (sn : Nat)])), (14, (.pointer (some ⟨w.heap.size, 6, none⟩))), (15, (.agg #[.int .u64 (mw : Nat), .int .u64 (mn : Nat)])), (16, (.agg #[.int .u64 (mw : Nat), .int .u64 (mn : Nat)])), (17, (.pointer (some ⟨w.heap.size, 8, none⟩))), (18, (.int .i64 p)), (19, (.agg #[.int .i64 ea, .int .i64 b, .int .i64 k, .int .u64 (x : Nat), .int .u64 (sw : Nat), .int .u64 (sn : Nat), .int .u64 (mw : Nat), .int .u64 (mn : Nat), .int .i64 p]))]) (fun _ => rfl) ?_
 ·refine rs fun S a wx K Q hR hK => ?_
  have t1 : a.tmps[1]? = some (.pointer (some ⟨w.heap.size, 0, none⟩)) := hR.o 1
  go_simp
  exact hK _ _ br rfl
 ·refine rs fun S a wx K Q hR hK => ?_
  have t3 := hR.q 0
  have y0 := (hR.bel.cell lx).trans c0
  go_simp
  exact hK _ _ br rfl
 ·refine rs fun S a wx K Q hR hK => ?_
  have t1 : a.tmps[1]? = some (.pointer (some ⟨w.heap.size, 0, none⟩)) := hR.o 1
  go_simp
  exact hK _ _ br rfl
 ·refine rs fun S a wx K Q hR hK => ?_
  have t5 := hR.q 2
  have y0 := (hR.bel.cell lx).trans c1
  go_simp
  exact hK _ _ br rfl
 ·refine rs fun S a wx K Q hR hK => ?_
  have t1 : a.tmps[1]? = some (.pointer (some ⟨w.heap.size, 0, none⟩)) := hR.o 1
  go_simp
  exact hK _ _ br rfl
 ·refine rs fun S a wx K Q hR hK => ?_
  have t7 := hR.q 4
  have y0 := (hR.bel.cell lx).trans c2
  go_simp
  exact hK _ _ br rfl
 ·refine rs fun S a wx K Q hR hK => ?_
  have t1 : a.tmps[1]? = some (.pointer (some ⟨w.heap.size, 0, none⟩)) := hR.o 1
  go_simp
  exact hK _ _ br rfl
 ·refine rs fun S a wx K Q hR hK => ?_
  have t9 := hR.q 6
  have y0 := (hR.bel.cell lx).trans c3
  go_simp
  exact hK _ _ br rfl
 ·refine rs fun S a wx K Q hR hK => ?_
  have t1 : a.tmps[1]? = some (.pointer (some ⟨w.heap.size, 0, none⟩)) := hR.o 1
  go_simp
  exact hK _ _ br rfl
 ·refine rs fun S a wx K Q hR hK => ?_
  have t11 := hR.q 8
  have y0 := (hR.bel.cell lx).trans c4
  have y1 := (hR.bel.cell lx).trans c5
  go_simp
  exact hK _ _ br rfl
 ·refine rs fun S a wx K Q hR hK => ?_
  have t12 := hR.q 9
  go_simp
  go_at_call 112
  refine (wR sw sn wx).mono ?_
  rintro e w' ⟨rfl, hbx⟩
  exact hK _ _ hbx rfl
 ·refine rs fun S a wx K Q hR hK => ?_
  have t1 : a.tmps[1]? = some (.pointer (some ⟨w.heap.size, 0, none⟩)) := hR.o 1
  go_simp
  exact hK _ _ br rfl
 ·refine rs fun S a wx K Q hR hK => ?_
  have t14 := hR.q 11
  have y0 := (hR.bel.cell lx).trans c6
  have y1 := (hR.bel.cell lx).trans c7
  go_simp
  exact hK _ _ br rfl
 ·refine rs fun S a wx K Q hR hK => ?_
  have t15 := hR.q 12
  go_simp
  go_at_call 112
  refine (wR mw mn wx).mono ?_
  rintro e w' ⟨rfl, hbx⟩
  exact hK _ _ hbx rfl
 ·refine rs fun S a wx K Q hR hK => ?_
  have t1 : a.tmps[1]? = some (.pointer (some ⟨w.heap.size, 0, none⟩)) := hR.o 1
  go_simp
  exact hK _ _ br rfl
 ·refine rs fun S a wx K Q hR hK => ?_
  have t17 := hR.q 14
  have y0 := (hR.bel.cell lx).trans c8
  go_simp
  exact hK _ _ br rfl
 ·refine rs fun S a wx K Q hR hK => ?_
  have t4 := hR.q 1
  have t6 := hR.q 3
  have t8 := hR.q 5
  have t10 := hR.q 7
  have t13 := hR.q 10
  have t16 := hR.q 13
  have t18 := hR.q 15
  go_simp
  exact hK _ _ br rfl
 ·refine ts fun vs a wx K Q hR hZ hK => ?_
  have t2 : a.tmps[2]? = some (.pointer (some ⟨w.heap.size + 1, 0, none⟩)) := hR.o 2
  have t19 := hR.d 16 19
  rw [hR.eqs 16 _ rfl] at t19
  obtain ⟨hbel2, S2, hlow, hof⟩ := hZ
  have hg := (hbel2.block _ lg).trans HG.out
  refine lI 108 (.tmp 2) (.tmp 19) rfl (w.heap.size + 1) (aI t2) _ (aI t19) 108 _ hg (by kernel_rfl) rfl (by simp [Value.oneCell']) ?_
  exact hK undef _ ⟨setRow_heap _ _ _ _ _ _ hg, below_setRow (hb0.trans (hbel2.mono (by omega))) _ _ (by omega)⟩
 intro vs w1 hE hZ
 simp only [aP, List.foldl_cons, List.foldl_nil]
 clear hE
 go_simp
 (try (go_wp2_with fail))
 refine bodyPost_ret (v := .agg #[.int .i64 ea, .int .i64 b, .int .i64 k, .int .u64 (x : Nat), .int .u64 (sw : Nat), .int .u64 (sn : Nat), .int .u64 (mw : Nat), .int .u64 (mn : Nat), .int .i64 p]) (results_cell_row rfl _ _ (w.heap.size + 1) 108 _ _ _ rfl hZ.1 Tryz.underlying108 rfl (by kernel_rfl)) rfl ⟨rfl, hZ.2⟩
end Go.Proofs.YtagnalfkmdjajaaGreatDoor
