/- Walks. -/
import Derived.Test.YtagnalfkmdjajaaGreatDoorY9
set_option maxHeartbeats 4000000
set_option maxRecDepth 100000
namespace Go.Proofs.YtagnalfkmdjajaaGreatDoor
open Go.RowKit Go
set_option linter.unusedVariables false
set_option linter.unusedSimpArgs false
def Enters (fid : Nat) : Prop := ∀ (args : Array Value) (w : World), (callFunc fid args).run Tryz.prog w = .ok (.enter fid args) w
theorem yJ {α : Type} (l : List α) (k : Nat) (h : k < l.length) : l.take (k + 1) = l.take k ++ [l[k]] := List.take_succ_eq_append_getElem h
theorem bG {α : Type} (p : α → Bool) (l : List α) (k : Nat) (h : k < l.length) (h0 : (l.take k).any p = false) (h1 : p l[k] = false) : (l.take (k + 1)).any p = false := by
 rw [yJ l k h, List.any_append, h0]; simp [h1]
theorem bN {α : Type} (p : α → Bool) (l : List α) (k : Nat) (h : k < l.length) (h1 : p l[k] = true) : l.any p = true :=
 List.any_eq_true.2 ⟨l[k], List.getElem_mem h, h1⟩
def Cr (w : World) (l : List Int) (fid : Nat) (p : Int → Bool) : Prop := ∀ i (h : i < l.length) (w' : World), Below w.heap.size w w' → Calls Tryz.prog fid #[.int .i64 l[i]] w' fun e w'' => e = .returned (.bool (p l[i])) ∧ Below w'.heap.size w' w''
def Cs (w : World) (l : List Ed) (fid : Nat) (p : Ed → Bool) : Prop := ∀ i (h : i < l.length) (w' : World), Below w.heap.size w w' → Calls Tryz.prog fid #[.agg #[.int .i64 l[i].a, .int .i64 l[i].b, .int .i64 l[i].k, .int .u64 (l[i].x : Nat), .int .u64 (l[i].sw : Nat), .int .u64 (l[i].sn : Nat), .int .u64 (l[i].mw : Nat), .int .u64 (l[i].mn : Nat), .int .i64 l[i].p]] w' fun e w'' => e = .returned (.bool (p l[i])) ∧ Below w'.heap.size w' w''
theorem wU (S : Nat → Prop) (own : Bool) (l : List Int) (v : Value) (fid : Nat) (p : Int → Bool) (w : World) (h : bn w S own l v) (hcall : Enters fid) (hf : Cr w l fid p) :
  Calls Tryz.prog 60 #[v, .func (.func fid) #[] #[]] w fun e w' => (∃ r : Int, e = .returned (.int .i64 r) ∧ -1 ≤ r ∧ r ≤ 9223372036854775807 ∧ decide (0 ≤ r) = l.any p) ∧ Below w.heap.size w w' := by
 obtain ⟨_, hlen, ad, cap, rfl, _⟩ := Sl.shape h
 have HF := hid hf
 clear hf
 unfold Enters at hcall
 go_enter Tryz.func60, Tryz.ntmps60
 go_wp2_with fail
 go_loopw [5, 8] (fun _ i wr => ∃ j : Nat, j ≤ l.length ∧ i = .int .i64 j ∧ Hid ((l.take j).any p = false) ∧ Below w.heap.size w wr) (fun _ i _ => l.length - (intOf i).toNat)
 case atStart => exact ⟨0, by omega, rfl, hid (by simp), br⟩
 case round =>
  obtain ⟨j, hj, rfl, hno, hbel⟩ := hrel
  by_cases hlt : j < l.length
  ·obtain ⟨bl, off, rfl, _, _, r1⟩ := (h.below hbel nl).cell (by omega)
   have r1 := (r1 j hlt).1
   have c0 := r1
   clear r1
   have x1 : (0 : Int) ≤ (j : Int) := by omega
   have x2 : (j : Int) < (l.length : Int) := by omega
   go_wp2_with fail
   refine (HF.out j hlt wr hbel).mono ?_
   rintro e w' ⟨rfl, hb1⟩
   have hsz := hbel.size
   by_cases hp : p l[j] = true
   ·rw [hp]
    have HP := hid (bN p l j hlt hp)
    clear hp
    go_wp2_with fail
    go_ret
    exact ⟨⟨j, rfl, by omega, by omega, by rw [HP.out]; simp⟩, hbel.trans (hb1.mono (by omega))⟩
   ·have hp' : p l[j] = false := by simpa using hp
    rw [hp']
    have HP := hid (bG p l j hlt hno.out hp')
    clear hp hp'
    go_wp2_with fail
    go_roundw
    case rel => exact ⟨j + 1, by omega, by go_num, HP, hbel.trans (hb1.mono (by omega))⟩
    case measure => simp [intOf]; omega
  ·have hj2 : j = l.length := by omega
   subst hj2
   go_wp2_with fail
   go_ret
   exact ⟨⟨-1, rfl, by omega, by omega, by have := hno.out; rw [List.take_length] at this; rw [this]; rfl⟩, hbel⟩
theorem iV (S : Nat → Prop) (own : Bool) (l : List Int) (v : Value) (fid : Nat) (p : Int → Bool) (w : World) (h : bn w S own l v) (hcall : Enters fid) (hf : Cr w l fid p) :
  Calls Tryz.prog 25 #[v, .func (.func fid) #[] #[]] w fun e w' => e = .returned (.bool (l.any p)) ∧ Below w.heap.size w w' := by
 have HI := hid (wU S own l v fid p w h hcall hf)
 clear hf hcall h
 go_enter Tryz.func25, Tryz.ntmps25
 go_wp2_with fail
 refine HI.out.mono ?_
 rintro e w' ⟨⟨r, rfl, h0, h1, hr⟩, hb⟩
 have HR := hid hr
 clear hr
 go_wp2_with fail
 go_ret
 exact ⟨ai HR.out, hb⟩
theorem yK (S : Nat → Prop) (own : Bool) (l : List Ed) (v : Value) (fid : Nat) (p : Ed → Bool) (w : World) (h : aX w S own l v) (hcall : Enters fid) (hf : Cs w l fid p) :
  Calls Tryz.prog 61 #[v, .func (.func fid) #[] #[]] w fun e w' => (∃ r : Int, e = .returned (.int .i64 r) ∧ -1 ≤ r ∧ r ≤ 9223372036854775807 ∧ decide (0 ≤ r) = l.any p) ∧ Below w.heap.size w w' := by
 obtain ⟨_, hlen, ad, cap, rfl, _⟩ := Sl.shape h
 have HF := hid hf
 clear hf
 unfold Enters at hcall
 go_enter Tryz.func61, Tryz.ntmps61
 go_wp2_with fail
 go_loopw [5, 8] (fun _ i wr => ∃ j : Nat, j ≤ l.length ∧ i = .int .i64 j ∧ Hid ((l.take j).any p = false) ∧ Below w.heap.size w wr) (fun _ i _ => l.length - (intOf i).toNat)
 case atStart => exact ⟨0, by omega, rfl, hid (by simp), br⟩
 case round =>
  obtain ⟨j, hj, rfl, hno, hbel⟩ := hrel
  by_cases hlt : j < l.length
  ·obtain ⟨bl, off, rfl, _, _, r1⟩ := (h.below hbel nl).cell (by omega)
   have r1 := (r1 j hlt).1
   have c0 := r1.1
   have c1 := r1.2.1
   have c2 := r1.2.2.1
   have c3 := r1.2.2.2.1
   have c4 := r1.2.2.2.2.1
   have c5 := r1.2.2.2.2.2.1
   have c6 := r1.2.2.2.2.2.2.1
   have c7 := r1.2.2.2.2.2.2.2.1
   have c8 := r1.2.2.2.2.2.2.2.2
   clear r1
   have x1 : (0 : Int) ≤ (j : Int) := by omega
   have x2 : (j : Int) < (l.length : Int) := by omega
   go_wp2_with fail
   refine (HF.out j hlt wr hbel).mono ?_
   rintro e w' ⟨rfl, hb1⟩
   have hsz := hbel.size
   by_cases hp : p l[j] = true
   ·rw [hp]
    have HP := hid (bN p l j hlt hp)
    clear hp
    go_wp2_with fail
    go_ret
    exact ⟨⟨j, rfl, by omega, by omega, by rw [HP.out]; simp⟩, hbel.trans (hb1.mono (by omega))⟩
   ·have hp' : p l[j] = false := by simpa using hp
    rw [hp']
    have HP := hid (bG p l j hlt hno.out hp')
    clear hp hp'
    go_wp2_with fail
    go_roundw
    case rel => exact ⟨j + 1, by omega, by go_num, HP, hbel.trans (hb1.mono (by omega))⟩
    case measure => simp [intOf]; omega
  ·have hj2 : j = l.length := by omega
   subst hj2
   go_wp2_with fail
   go_ret
   exact ⟨⟨-1, rfl, by omega, by omega, by have := hno.out; rw [List.take_length] at this; rw [this]; rfl⟩, hbel⟩
theorem jC (S : Nat → Prop) (own : Bool) (l : List Ed) (v : Value) (fid : Nat) (p : Ed → Bool) (w : World) (h : aX w S own l v) (hcall : Enters fid) (hf : Cs w l fid p) :
  Calls Tryz.prog 26 #[v, .func (.func fid) #[] #[]] w fun e w' => e = .returned (.bool (l.any p)) ∧ Below w.heap.size w w' := by
 have HI := hid (yK S own l v fid p w h hcall hf)
 clear hf hcall h
 go_enter Tryz.func26, Tryz.ntmps26
 go_wp2_with fail
 refine HI.out.mono ?_
 rintro e w' ⟨⟨r, rfl, h0, h1, hr⟩, hb⟩
 have HR := hid hr
 clear hr
 go_wp2_with fail
 go_ret
 exact ⟨ai HR.out, hb⟩
theorem kQ : Enters 24 := fun _ _ => by kernel_rfl
theorem kR : Enters 27 := fun _ _ => by kernel_rfl
theorem yL (n : Int) (w : World) : Calls Tryz.prog 24 #[.int .i64 n] w fun e w' => e = .returned (.bool (decide (n < 0))) ∧ Below w.heap.size w w' := by
 go_enter Tryz.func24, Tryz.ntmps24
 go_wp2_with fail
 go_ret
 exact ⟨rfl, br⟩
theorem Ak {l : List UInt8} : (decide (l = [])) = (⟨l.toArray⟩ : ByteArray).toList.isEmpty := by
 rw [ByteArray.toList_eq]; cases l <;> simp
theorem yM (e : Ed) (hn : e.nums) (w : World) (hL : Lq w.heap.size w) : Calls Tryz.prog 27 #[.agg #[.int .i64 e.a, .int .i64 e.b, .int .i64 e.k, .int .u64 (e.x : Nat), .int .u64 (e.sw : Nat), .int .u64 (e.sn : Nat), .int .u64 (e.mw : Nat), .int .u64 (e.mn : Nat), .int .i64 e.p]] w fun r w' => r = .returned (.bool (!decide e.ok)) ∧ Below w.heap.size w w' := by
 have hb0 : Below w.heap.size w (w.alloc (.cells #[.int .i64 e.a, .int .i64 e.b, .int .i64 e.k, .int .u64 (e.x : Nat), .int .u64 (e.sw : Nat), .int .u64 (e.sn : Nat), .int .u64 (e.mw : Nat), .int .u64 (e.mn : Nat), .int .i64 e.p] 54)) := br.alloc nl _
 have hd := jB (e := e) hn _ ((hL.below hb0).mono hb0.size)
 simp only [Ed.vals, str] at hd
 have HR : Hid ((!decide e.ok) = (⟨e.text.toArray⟩ : ByteArray).toList.isEmpty) := hid (by
  rw [← Ak, Bool.eq_iff_iff]
  have := @Ed.text_nil e
  simp [this])
 generalize (⟨e.text.toArray⟩ : ByteArray) = DA at hd HR
 have HD := hid hd
 have HB := hid hb0
 clear hd hb0 hL
 go_enter Tryz.func27, Tryz.ntmps27
 go_wp2_with fail
 refine HD.out.mono ?_
 rintro r w1 ⟨rfl, hb1⟩
 go_wp2_with fail
 go_ret
 exact ⟨ai HR.out.symm, HB.out.trans (hb1.mono HB.out.size)⟩
theorem mJ (w : World) (l : List Int) : Cr w l 24 (fun n => decide (n < 0)) := fun i h w' hb => yL _ _
theorem mK (w : World) (l : List Ed) (hn : ∀ e ∈ l, e.nums) (hL : Lq w.heap.size w) : Cs w l 27 (fun e => !decide e.ok) := fun i h w' hb => yM _ (hn _ (List.getElem_mem h)) _ ((hL.below hb).mono hb.size)
theorem vg (S : Nat → Prop) (own : Bool) (k : Int) (o : List Int) (p q : Int) (ws : List Ed) (v : Value) (w : World) (h : aL w S own ⟨k, o, p, q, ws⟩ v) (hn : ∀ e ∈ ws, e.nums) (hL : Lq w.heap.size w) (hk : k < 1) :
  Calls Tryz.prog 7 #[v] w fun e w' => e = .returned (.bool (Crt.right ⟨k, o, p, q, ws⟩)) ∧ Below w.heap.size w w' := by
 obtain ⟨ad, cp, ad', cp', rfl, ho, hw, l1, l2, k1, k2⟩ := h.shape
 clear h
 simp only at ho hw l1 l2 k1 k2 ⊢
 have t1 : (k == 2) = false := by simp; omega
 have t2 : (k == 3) = false := by simp; omega
 have t3 : decide (k < 1) = true := by simpa using hk
 have HE : Hid (false = Crt.right ⟨k, o, p, q, ws⟩) := hid (by have : ¬ 1 ≤ k := (by omega); simp [Crt.right, this])
 clear hk
 clear ho hw hn hL
 go_enter Tryz.func7, Tryz.ntmps7
 go_wp2_with fail
 go_ret
 exact ⟨ai HE.out, br.alloc nl _⟩
theorem vk (S : Nat → Prop) (own : Bool) (k : Int) (o : List Int) (p q : Int) (ws : List Ed) (v : Value) (w : World) (h : aL w S own ⟨k, o, p, q, ws⟩ v) (hn : ∀ e ∈ ws, e.nums) (hL : Lq w.heap.size w) (hk : 5 ≤ k) :
  Calls Tryz.prog 7 #[v] w fun e w' => e = .returned (.bool (Crt.right ⟨k, o, p, q, ws⟩)) ∧ Below w.heap.size w w' := by
 obtain ⟨ad, cp, ad', cp', rfl, ho, hw, l1, l2, k1, k2⟩ := h.shape
 clear h
 simp only at ho hw l1 l2 k1 k2 ⊢
 have t1 : (k == 2) = false := by simp; omega
 have t2 : (k == 3) = false := by simp; omega
 have t3 : decide (k < 1) = false := by simp; omega
 have t4 : decide (5 ≤ k) = true := by simpa using hk
 have HE : Hid (false = Crt.right ⟨k, o, p, q, ws⟩) := hid (by have : ¬ k < 5 := (by omega); simp [Crt.right, this])
 clear hk
 clear ho hw hn hL
 go_enter Tryz.func7, Tryz.ntmps7
 go_wp2_with fail
 go_ret
 exact ⟨ai HE.out, br.alloc nl _⟩
theorem iq (o : List Int) : (!o.any fun n => decide (n < 0)) = o.all fun n => decide (0 ≤ n) := by
 rw [List.not_any_eq_all_not]
 congr 1
 funext n
 rw [Bool.eq_iff_iff]; simp
theorem fZ (ws : List Ed) : (!ws.any fun e => !decide e.ok) = ws.all fun e => decide e.ok := by
 rw [List.not_any_eq_all_not]
 congr 1
 funext n
 simp
theorem uo (x : Unit) (k : Int) (o : List Int) (p q : Int) (ws : List Ed) (hk : 1 ≤ k ∧ k < 5) (h1 : k = 1 ∨ o = []) (h2 : k = 4 ∨ ws = []) (ep : p = 0) (eq : q = 0) (l1 : o.length ≤ 65536) (l2 : ws.length ≤ 65536) {b1 b2 : Bool} (g1 : (o.any fun n => decide (n < 0)) = b1) (g2 : (ws.any fun e => !decide e.ok) = b2) : (!b1 && !b2) = Crt.right ⟨k, o, p, q, ws⟩ := by
 subst ep eq g1 g2
 rw [iq, fZ]
 have e1 : ((k == 1 || o.isEmpty) : Bool) = true := by rcases h1 with rfl | rfl <;> simp
 have e2 : ((k == 4 || ws.isEmpty) : Bool) = true := by rcases h2 with rfl | rfl <;> simp
 simp only [Crt.right, e1, e2, decide_eq_true hk.1, decide_eq_true hk.2, decide_eq_true l1, decide_eq_true l2]
 simp
theorem qJ (x : Unit) (k : Int) (o : List Int) (p q : Int) (ws : List Ed) (hk : k = 2 ∨ k = 3) (hp : 0 ≤ p) (hq : 0 ≤ q) (eo : o = []) (ew : ws = []) {b1 b2 : Bool} (g1 : (o.any fun n => decide (n < 0)) = b1) (g2 : (ws.any fun e => !decide e.ok) = b2) : (!b1 && !b2) = Crt.right ⟨k, o, p, q, ws⟩ := by
 subst eo ew g1 g2
 rcases hk with rfl | rfl <;> simp [Crt.right, aR, hp, hq]
theorem vo (S : Nat → Prop) (own : Bool) (k : Int) (o : List Int) (p q : Int) (ws : List Ed) (v : Value) (w : World) (h : aL w S own ⟨k, o, p, q, ws⟩ v) (hn : ∀ e ∈ ws, e.nums) (hL : Lq w.heap.size w) (hk : k = 1) :
  Calls Tryz.prog 7 #[v] w fun e w' => e = .returned (.bool (Crt.right ⟨k, o, p, q, ws⟩)) ∧ Below w.heap.size w w' := by
 obtain ⟨ad, cp, ad', cp', rfl, ho, hw, l1, l2, k1, k2⟩ := h.shape
 clear h
 simp only at ho hw l1 l2 k1 k2 ⊢
 subst hk
 by_cases ew : ws ≠ []
 ·have t : decide (0 < ws.length) = true := by have := List.length_pos_iff.2 ew; simpa using this
  have HE : Hid (false = Crt.right ⟨1, o, p, q, ws⟩) := hid (by have := ew; simp [Crt.right, aR, this])
  clear ew ho hw hn hL
  go_enter Tryz.func7, Tryz.ntmps7
  go_wp2_with fail
  refine bodyPost_ret (v := .bool false) ?_ rfl ⟨ai HE.out, br.alloc nl _⟩
  exact results_tmp (t := 2) rfl _ _ _
 have ew := Classical.not_not.1 ew
 have ttw : decide (0 < ws.length) = false := by rw [ew]; rfl
 have Hw := hid ew
 clear ew
 by_cases ep : p ≠ 0
 ·have t : (p != 0) = true := by simpa using ep
  have HE : Hid (false = Crt.right ⟨1, o, p, q, ws⟩) := hid (by have := ep; simp [Crt.right, aR, this])
  clear ep ho hw hn hL
  go_enter Tryz.func7, Tryz.ntmps7
  go_wp2_with fail
  refine bodyPost_ret (v := .bool false) ?_ rfl ⟨ai HE.out, br.alloc nl _⟩
  exact results_tmp (t := 2) rfl _ _ _
 have ep := Classical.not_not.1 ep
 have ttp : (p != 0) = false := by simpa using ep
 have Hp := hid ep
 clear ep
 by_cases eq : q ≠ 0
 ·have t : (q != 0) = true := by simpa using eq
  have HE : Hid (false = Crt.right ⟨1, o, p, q, ws⟩) := hid (by have := eq; simp [Crt.right, aR, this])
  clear eq ho hw hn hL
  go_enter Tryz.func7, Tryz.ntmps7
  go_wp2_with fail
  refine bodyPost_ret (v := .bool false) ?_ rfl ⟨ai HE.out, br.alloc nl _⟩
  exact results_tmp (t := 2) rfl _ _ _
 have eq := Classical.not_not.1 eq
 have ttq : (q != 0) = false := by simpa using eq
 have Hq := hid eq
 clear eq
 by_cases eO : 65536 < o.length
 ·have t : decide ((65536 : Int) < (o.length : Int)) = true := by simp; omega
  have HE : Hid (false = Crt.right ⟨1, o, p, q, ws⟩) := hid (by have : ¬ o.length ≤ 65536 := (by omega); simp [Crt.right, aR, this])
  clear eO ho hw hn hL
  go_enter Tryz.func7, Tryz.ntmps7
  go_wp2_with fail
  refine bodyPost_ret (v := .bool false) ?_ rfl ⟨ai HE.out, br.alloc nl _⟩
  exact results_tmp (t := 2) rfl _ _ _
 have ttO : decide ((65536 : Int) < (o.length : Int)) = false := by simp; omega
 have HO := hid eO
 clear eO
 have ttW : decide ((65536 : Int) < (ws.length : Int)) = false := by rw [Hw.out]; rfl
 have ttP : decide (p < 0) = false := by rw [Hp.out]; rfl
 have ttQ : decide (q < 0) = false := by rw [Hq.out]; rfl
 have hb0 : Below w.heap.size w (w.alloc (.cells #[.int .i64 1, .slice ad o.length cp, .int .i64 p, .int .i64 q, .slice ad' ws.length cp'] 25)) := br.alloc nl _
 have HCI := hid (iV S own o _ 24 _ _ (ho.below hb0 nl) kQ (mJ _ _))
 have HCW : Hid (∀ w1, Below (w.alloc (.cells #[.int .i64 1, .slice ad o.length cp, .int .i64 p, .int .i64 q, .slice ad' ws.length cp'] 25)).heap.size (w.alloc (.cells #[.int .i64 1, .slice ad o.length cp, .int .i64 p, .int .i64 q, .slice ad' ws.length cp'] 25)) w1 → w1.cell? ⟨w.heap.size, 4, none⟩ = some (.slice ad' ws.length cp') ∧ Calls Tryz.prog 26 #[.slice ad' ws.length cp', .func (.func 27) #[] #[]] w1 (fun e w' => e = .returned (.bool (ws.any fun e => !decide e.ok)) ∧ Below w1.heap.size w1 w') ∧ Below w.heap.size w w1) := hid (fun w1 hb1 =>
  ⟨(hb1.cell (p := ⟨w.heap.size, 4, none⟩) (by simp)).trans (by rw [cell_of_row _ _ 4 _ _ _ (heap_alloc_new w _)]; rfl), jC S own ws _ _ _ _ ((hw.below hb0 nl).below hb1 nl) kR (mK _ _ hn (((hL.below hb0).mono hb0.size).below hb1 |>.mono hb1.size)), hb0.trans (hb1.mono hb0.size)⟩)
 have HT := hid (fun b1 b2 (h1 : (o.any fun n => decide (n < 0)) = b1) (h2 : (ws.any fun e => !decide e.ok) = b2) => show (!b1 && !b2) = Crt.right ⟨1, o, p, q, ws⟩ from uo () 1 o p q ws (by omega) (.inl rfl) (.inr Hw.out) Hp.out Hq.out (by have := HO.out; omega) (by rw [Hw.out]; decide) h1 h2)
 clear ho hw hn hL Hw Hp Hq HO hb0
 generalize ho1 : (o.any fun n => decide (n < 0)) = b1 at HCI
 generalize hw1 : (ws.any fun e => !decide e.ok) = b2 at HCW
 have HT := hid (HT.out b1 b2 ho1 hw1)
 clear ho1 hw1
 cases b1 with
 | true =>
  go_enter Tryz.func7, Tryz.ntmps7
  go_wp2_with (go_at_call 25; refine HCI.out.mono ?_; rintro e w1 ⟨rfl, hb1⟩)
  refine bodyPost_ret (v := .bool (!true && !b2)) ?_ rfl ⟨ai HT.out, (HCW.out w1 hb1).2.2⟩
  exact results_tmp (t := 2) rfl _ _ _
 | false =>
  go_enter Tryz.func7, Tryz.ntmps7
  go_wp2_with (first
   | (go_at_call 25; refine HCI.out.mono ?_; rintro e w1 ⟨rfl, hb1⟩; obtain ⟨c4, hq, hbw⟩ := HCW.out w1 hb1; have HQ2 := hid hq; have HBW := hid hbw; clear hq hbw hb1)
   | (go_at_call 26; refine HQ2.out.mono ?_; rintro e w2 ⟨rfl, hb2⟩)
   | fail)
  refine bodyPost_ret (v := .bool (!false && !b2)) ?_ rfl ⟨ai HT.out, HBW.out.trans (hb2.mono HBW.out.size)⟩
  exact results_tmp (t := 2) rfl _ _ _
theorem vv (S : Nat → Prop) (own : Bool) (k : Int) (o : List Int) (p q : Int) (ws : List Ed) (v : Value) (w : World) (h : aL w S own ⟨k, o, p, q, ws⟩ v) (hn : ∀ e ∈ ws, e.nums) (hL : Lq w.heap.size w) (hk : k = 2) :
  Calls Tryz.prog 7 #[v] w fun e w' => e = .returned (.bool (Crt.right ⟨k, o, p, q, ws⟩)) ∧ Below w.heap.size w w' := by
 obtain ⟨ad, cp, ad', cp', rfl, ho, hw, l1, l2, k1, k2⟩ := h.shape
 clear h
 simp only at ho hw l1 l2 k1 k2 ⊢
 subst hk
 by_cases eo : o ≠ []
 ·have t : decide (0 < o.length) = true := by have := List.length_pos_iff.2 eo; simpa using this
  have HE : Hid (false = Crt.right ⟨2, o, p, q, ws⟩) := hid (by have := eo; simp [Crt.right, aR, this])
  clear eo ho hw hn hL
  go_enter Tryz.func7, Tryz.ntmps7
  go_wp2_with fail
  refine bodyPost_ret (v := .bool false) ?_ rfl ⟨ai HE.out, br.alloc nl _⟩
  exact results_tmp (t := 2) rfl _ _ _
 have eo := Classical.not_not.1 eo
 have tto : decide (0 < o.length) = false := by rw [eo]; rfl
 have Ho := hid eo
 clear eo
 by_cases ew : ws ≠ []
 ·have t : decide (0 < ws.length) = true := by have := List.length_pos_iff.2 ew; simpa using this
  have HE : Hid (false = Crt.right ⟨2, o, p, q, ws⟩) := hid (by have := ew; simp [Crt.right, aR, this])
  clear ew ho hw hn hL
  go_enter Tryz.func7, Tryz.ntmps7
  go_wp2_with fail
  refine bodyPost_ret (v := .bool false) ?_ rfl ⟨ai HE.out, br.alloc nl _⟩
  exact results_tmp (t := 2) rfl _ _ _
 have ew := Classical.not_not.1 ew
 have ttw : decide (0 < ws.length) = false := by rw [ew]; rfl
 have Hw := hid ew
 clear ew
 have ttO : decide ((65536 : Int) < (o.length : Int)) = false := by rw [Ho.out]; rfl
 have ttW : decide ((65536 : Int) < (ws.length : Int)) = false := by rw [Hw.out]; rfl
 by_cases eP : p < 0
 ·have t : decide (p < 0) = true := by simpa using eP
  have HE : Hid (false = Crt.right ⟨2, o, p, q, ws⟩) := hid (by have : ¬ 0 ≤ p := (by omega); simp [Crt.right, aR, this])
  clear eP ho hw hn hL
  go_enter Tryz.func7, Tryz.ntmps7
  go_wp2_with fail
  refine bodyPost_ret (v := .bool false) ?_ rfl ⟨ai HE.out, br.alloc nl _⟩
  exact results_tmp (t := 2) rfl _ _ _
 have ttP : decide (p < 0) = false := by simpa using eP
 have HP := hid eP
 clear eP
 by_cases eQ : q < 0
 ·have t : decide (q < 0) = true := by simpa using eQ
  have HE : Hid (false = Crt.right ⟨2, o, p, q, ws⟩) := hid (by have : ¬ 0 ≤ q := (by omega); simp [Crt.right, aR, this])
  clear eQ ho hw hn hL
  go_enter Tryz.func7, Tryz.ntmps7
  go_wp2_with fail
  refine bodyPost_ret (v := .bool false) ?_ rfl ⟨ai HE.out, br.alloc nl _⟩
  exact results_tmp (t := 2) rfl _ _ _
 have ttQ : decide (q < 0) = false := by simpa using eQ
 have HQ := hid eQ
 clear eQ
 have hb0 : Below w.heap.size w (w.alloc (.cells #[.int .i64 2, .slice ad o.length cp, .int .i64 p, .int .i64 q, .slice ad' ws.length cp'] 25)) := br.alloc nl _
 have HCI := hid (iV S own o _ 24 _ _ (ho.below hb0 nl) kQ (mJ _ _))
 have HCW : Hid (∀ w1, Below (w.alloc (.cells #[.int .i64 2, .slice ad o.length cp, .int .i64 p, .int .i64 q, .slice ad' ws.length cp'] 25)).heap.size (w.alloc (.cells #[.int .i64 2, .slice ad o.length cp, .int .i64 p, .int .i64 q, .slice ad' ws.length cp'] 25)) w1 → w1.cell? ⟨w.heap.size, 4, none⟩ = some (.slice ad' ws.length cp') ∧ Calls Tryz.prog 26 #[.slice ad' ws.length cp', .func (.func 27) #[] #[]] w1 (fun e w' => e = .returned (.bool (ws.any fun e => !decide e.ok)) ∧ Below w1.heap.size w1 w') ∧ Below w.heap.size w w1) := hid (fun w1 hb1 =>
  ⟨(hb1.cell (p := ⟨w.heap.size, 4, none⟩) (by simp)).trans (by rw [cell_of_row _ _ 4 _ _ _ (heap_alloc_new w _)]; rfl), jC S own ws _ _ _ _ ((hw.below hb0 nl).below hb1 nl) kR (mK _ _ hn (((hL.below hb0).mono hb0.size).below hb1 |>.mono hb1.size)), hb0.trans (hb1.mono hb0.size)⟩)
 have HT := hid (fun b1 b2 (h1 : (o.any fun n => decide (n < 0)) = b1) (h2 : (ws.any fun e => !decide e.ok) = b2) => show (!b1 && !b2) = Crt.right ⟨2, o, p, q, ws⟩ from qJ () 2 o p q ws (by omega) (by have := HP.out; omega) (by have := HQ.out; omega) Ho.out Hw.out h1 h2)
 clear ho hw hn hL Ho Hw HP HQ hb0
 generalize ho1 : (o.any fun n => decide (n < 0)) = b1 at HCI
 generalize hw1 : (ws.any fun e => !decide e.ok) = b2 at HCW
 have HT := hid (HT.out b1 b2 ho1 hw1)
 clear ho1 hw1
 cases b1 with
 | true =>
  go_enter Tryz.func7, Tryz.ntmps7
  go_wp2_with (go_at_call 25; refine HCI.out.mono ?_; rintro e w1 ⟨rfl, hb1⟩)
  refine bodyPost_ret (v := .bool (!true && !b2)) ?_ rfl ⟨ai HT.out, (HCW.out w1 hb1).2.2⟩
  exact results_tmp (t := 2) rfl _ _ _
 | false =>
  go_enter Tryz.func7, Tryz.ntmps7
  go_wp2_with (first
   | (go_at_call 25; refine HCI.out.mono ?_; rintro e w1 ⟨rfl, hb1⟩; obtain ⟨c4, hq, hbw⟩ := HCW.out w1 hb1; have HQ2 := hid hq; have HBW := hid hbw; clear hq hbw hb1)
   | (go_at_call 26; refine HQ2.out.mono ?_; rintro e w2 ⟨rfl, hb2⟩)
   | fail)
  refine bodyPost_ret (v := .bool (!false && !b2)) ?_ rfl ⟨ai HT.out, HBW.out.trans (hb2.mono HBW.out.size)⟩
  exact results_tmp (t := 2) rfl _ _ _
theorem vw (S : Nat → Prop) (own : Bool) (k : Int) (o : List Int) (p q : Int) (ws : List Ed) (v : Value) (w : World) (h : aL w S own ⟨k, o, p, q, ws⟩ v) (hn : ∀ e ∈ ws, e.nums) (hL : Lq w.heap.size w) (hk : k = 3) :
  Calls Tryz.prog 7 #[v] w fun e w' => e = .returned (.bool (Crt.right ⟨k, o, p, q, ws⟩)) ∧ Below w.heap.size w w' := by
 obtain ⟨ad, cp, ad', cp', rfl, ho, hw, l1, l2, k1, k2⟩ := h.shape
 clear h
 simp only at ho hw l1 l2 k1 k2 ⊢
 subst hk
 by_cases eo : o ≠ []
 ·have t : decide (0 < o.length) = true := by have := List.length_pos_iff.2 eo; simpa using this
  have HE : Hid (false = Crt.right ⟨3, o, p, q, ws⟩) := hid (by have := eo; simp [Crt.right, aR, this])
  clear eo ho hw hn hL
  go_enter Tryz.func7, Tryz.ntmps7
  go_wp2_with fail
  refine bodyPost_ret (v := .bool false) ?_ rfl ⟨ai HE.out, br.alloc nl _⟩
  exact results_tmp (t := 2) rfl _ _ _
 have eo := Classical.not_not.1 eo
 have tto : decide (0 < o.length) = false := by rw [eo]; rfl
 have Ho := hid eo
 clear eo
 by_cases ew : ws ≠ []
 ·have t : decide (0 < ws.length) = true := by have := List.length_pos_iff.2 ew; simpa using this
  have HE : Hid (false = Crt.right ⟨3, o, p, q, ws⟩) := hid (by have := ew; simp [Crt.right, aR, this])
  clear ew ho hw hn hL
  go_enter Tryz.func7, Tryz.ntmps7
  go_wp2_with fail
  refine bodyPost_ret (v := .bool false) ?_ rfl ⟨ai HE.out, br.alloc nl _⟩
  exact results_tmp (t := 2) rfl _ _ _
 have ew := Classical.not_not.1 ew
 have ttw : decide (0 < ws.length) = false := by rw [ew]; rfl
 have Hw := hid ew
 clear ew
 have ttO : decide ((65536 : Int) < (o.length : Int)) = false := by rw [Ho.out]; rfl
 have ttW : decide ((65536 : Int) < (ws.length : Int)) = false := by rw [Hw.out]; rfl
 by_cases eP : p < 0
 ·have t : decide (p < 0) = true := by simpa using eP
  have HE : Hid (false = Crt.right ⟨3, o, p, q, ws⟩) := hid (by have : ¬ 0 ≤ p := (by omega); simp [Crt.right, aR, this])
  clear eP ho hw hn hL
  go_enter Tryz.func7, Tryz.ntmps7
  go_wp2_with fail
  refine bodyPost_ret (v := .bool false) ?_ rfl ⟨ai HE.out, br.alloc nl _⟩
  exact results_tmp (t := 2) rfl _ _ _
 have ttP : decide (p < 0) = false := by simpa using eP
 have HP := hid eP
 clear eP
 by_cases eQ : q < 0
 ·have t : decide (q < 0) = true := by simpa using eQ
  have HE : Hid (false = Crt.right ⟨3, o, p, q, ws⟩) := hid (by have : ¬ 0 ≤ q := (by omega); simp [Crt.right, aR, this])
  clear eQ ho hw hn hL
  go_enter Tryz.func7, Tryz.ntmps7
  go_wp2_with fail
  refine bodyPost_ret (v := .bool false) ?_ rfl ⟨ai HE.out, br.alloc nl _⟩
  exact results_tmp (t := 2) rfl _ _ _
 have ttQ : decide (q < 0) = false := by simpa using eQ
 have HQ := hid eQ
 clear eQ
 have hb0 : Below w.heap.size w (w.alloc (.cells #[.int .i64 3, .slice ad o.length cp, .int .i64 p, .int .i64 q, .slice ad' ws.length cp'] 25)) := br.alloc nl _
 have HCI := hid (iV S own o _ 24 _ _ (ho.below hb0 nl) kQ (mJ _ _))
 have HCW : Hid (∀ w1, Below (w.alloc (.cells #[.int .i64 3, .slice ad o.length cp, .int .i64 p, .int .i64 q, .slice ad' ws.length cp'] 25)).heap.size (w.alloc (.cells #[.int .i64 3, .slice ad o.length cp, .int .i64 p, .int .i64 q, .slice ad' ws.length cp'] 25)) w1 → w1.cell? ⟨w.heap.size, 4, none⟩ = some (.slice ad' ws.length cp') ∧ Calls Tryz.prog 26 #[.slice ad' ws.length cp', .func (.func 27) #[] #[]] w1 (fun e w' => e = .returned (.bool (ws.any fun e => !decide e.ok)) ∧ Below w1.heap.size w1 w') ∧ Below w.heap.size w w1) := hid (fun w1 hb1 =>
  ⟨(hb1.cell (p := ⟨w.heap.size, 4, none⟩) (by simp)).trans (by rw [cell_of_row _ _ 4 _ _ _ (heap_alloc_new w _)]; rfl), jC S own ws _ _ _ _ ((hw.below hb0 nl).below hb1 nl) kR (mK _ _ hn (((hL.below hb0).mono hb0.size).below hb1 |>.mono hb1.size)), hb0.trans (hb1.mono hb0.size)⟩)
 have HT := hid (fun b1 b2 (h1 : (o.any fun n => decide (n < 0)) = b1) (h2 : (ws.any fun e => !decide e.ok) = b2) => show (!b1 && !b2) = Crt.right ⟨3, o, p, q, ws⟩ from qJ () 3 o p q ws (by omega) (by have := HP.out; omega) (by have := HQ.out; omega) Ho.out Hw.out h1 h2)
 clear ho hw hn hL Ho Hw HP HQ hb0
 generalize ho1 : (o.any fun n => decide (n < 0)) = b1 at HCI
 generalize hw1 : (ws.any fun e => !decide e.ok) = b2 at HCW
 have HT := hid (HT.out b1 b2 ho1 hw1)
 clear ho1 hw1
 cases b1 with
 | true =>
  go_enter Tryz.func7, Tryz.ntmps7
  go_wp2_with (go_at_call 25; refine HCI.out.mono ?_; rintro e w1 ⟨rfl, hb1⟩)
  refine bodyPost_ret (v := .bool (!true && !b2)) ?_ rfl ⟨ai HT.out, (HCW.out w1 hb1).2.2⟩
  exact results_tmp (t := 2) rfl _ _ _
 | false =>
  go_enter Tryz.func7, Tryz.ntmps7
  go_wp2_with (first
   | (go_at_call 25; refine HCI.out.mono ?_; rintro e w1 ⟨rfl, hb1⟩; obtain ⟨c4, hq, hbw⟩ := HCW.out w1 hb1; have HQ2 := hid hq; have HBW := hid hbw; clear hq hbw hb1)
   | (go_at_call 26; refine HQ2.out.mono ?_; rintro e w2 ⟨rfl, hb2⟩)
   | fail)
  refine bodyPost_ret (v := .bool (!false && !b2)) ?_ rfl ⟨ai HT.out, HBW.out.trans (hb2.mono HBW.out.size)⟩
  exact results_tmp (t := 2) rfl _ _ _
theorem vz (S : Nat → Prop) (own : Bool) (k : Int) (o : List Int) (p q : Int) (ws : List Ed) (v : Value) (w : World) (h : aL w S own ⟨k, o, p, q, ws⟩ v) (hn : ∀ e ∈ ws, e.nums) (hL : Lq w.heap.size w) (hk : k = 4) :
  Calls Tryz.prog 7 #[v] w fun e w' => e = .returned (.bool (Crt.right ⟨k, o, p, q, ws⟩)) ∧ Below w.heap.size w w' := by
 obtain ⟨ad, cp, ad', cp', rfl, ho, hw, l1, l2, k1, k2⟩ := h.shape
 clear h
 simp only at ho hw l1 l2 k1 k2 ⊢
 subst hk
 by_cases eo : o ≠ []
 ·have t : decide (0 < o.length) = true := by have := List.length_pos_iff.2 eo; simpa using this
  have HE : Hid (false = Crt.right ⟨4, o, p, q, ws⟩) := hid (by have := eo; simp [Crt.right, aR, this])
  clear eo ho hw hn hL
  go_enter Tryz.func7, Tryz.ntmps7
  go_wp2_with fail
  refine bodyPost_ret (v := .bool false) ?_ rfl ⟨ai HE.out, br.alloc nl _⟩
  exact results_tmp (t := 2) rfl _ _ _
 have eo := Classical.not_not.1 eo
 have tto : decide (0 < o.length) = false := by rw [eo]; rfl
 have Ho := hid eo
 clear eo
 by_cases ep : p ≠ 0
 ·have t : (p != 0) = true := by simpa using ep
  have HE : Hid (false = Crt.right ⟨4, o, p, q, ws⟩) := hid (by have := ep; simp [Crt.right, aR, this])
  clear ep ho hw hn hL
  go_enter Tryz.func7, Tryz.ntmps7
  go_wp2_with fail
  refine bodyPost_ret (v := .bool false) ?_ rfl ⟨ai HE.out, br.alloc nl _⟩
  exact results_tmp (t := 2) rfl _ _ _
 have ep := Classical.not_not.1 ep
 have ttp : (p != 0) = false := by simpa using ep
 have Hp := hid ep
 clear ep
 by_cases eq : q ≠ 0
 ·have t : (q != 0) = true := by simpa using eq
  have HE : Hid (false = Crt.right ⟨4, o, p, q, ws⟩) := hid (by have := eq; simp [Crt.right, aR, this])
  clear eq ho hw hn hL
  go_enter Tryz.func7, Tryz.ntmps7
  go_wp2_with fail
  refine bodyPost_ret (v := .bool false) ?_ rfl ⟨ai HE.out, br.alloc nl _⟩
  exact results_tmp (t := 2) rfl _ _ _
 have eq := Classical.not_not.1 eq
 have ttq : (q != 0) = false := by simpa using eq
 have Hq := hid eq
 clear eq
 have ttO : decide ((65536 : Int) < (o.length : Int)) = false := by rw [Ho.out]; rfl
 by_cases eW : 65536 < ws.length
 ·have t : decide ((65536 : Int) < (ws.length : Int)) = true := by simp; omega
  have HE : Hid (false = Crt.right ⟨4, o, p, q, ws⟩) := hid (by have : ¬ ws.length ≤ 65536 := (by omega); simp [Crt.right, aR, this])
  clear eW ho hw hn hL
  go_enter Tryz.func7, Tryz.ntmps7
  go_wp2_with fail
  refine bodyPost_ret (v := .bool false) ?_ rfl ⟨ai HE.out, br.alloc nl _⟩
  exact results_tmp (t := 2) rfl _ _ _
 have ttW : decide ((65536 : Int) < (ws.length : Int)) = false := by simp; omega
 have HW := hid eW
 clear eW
 have ttP : decide (p < 0) = false := by rw [Hp.out]; rfl
 have ttQ : decide (q < 0) = false := by rw [Hq.out]; rfl
 have hb0 : Below w.heap.size w (w.alloc (.cells #[.int .i64 4, .slice ad o.length cp, .int .i64 p, .int .i64 q, .slice ad' ws.length cp'] 25)) := br.alloc nl _
 have HCI := hid (iV S own o _ 24 _ _ (ho.below hb0 nl) kQ (mJ _ _))
 have HCW : Hid (∀ w1, Below (w.alloc (.cells #[.int .i64 4, .slice ad o.length cp, .int .i64 p, .int .i64 q, .slice ad' ws.length cp'] 25)).heap.size (w.alloc (.cells #[.int .i64 4, .slice ad o.length cp, .int .i64 p, .int .i64 q, .slice ad' ws.length cp'] 25)) w1 → w1.cell? ⟨w.heap.size, 4, none⟩ = some (.slice ad' ws.length cp') ∧ Calls Tryz.prog 26 #[.slice ad' ws.length cp', .func (.func 27) #[] #[]] w1 (fun e w' => e = .returned (.bool (ws.any fun e => !decide e.ok)) ∧ Below w1.heap.size w1 w') ∧ Below w.heap.size w w1) := hid (fun w1 hb1 =>
  ⟨(hb1.cell (p := ⟨w.heap.size, 4, none⟩) (by simp)).trans (by rw [cell_of_row _ _ 4 _ _ _ (heap_alloc_new w _)]; rfl), jC S own ws _ _ _ _ ((hw.below hb0 nl).below hb1 nl) kR (mK _ _ hn (((hL.below hb0).mono hb0.size).below hb1 |>.mono hb1.size)), hb0.trans (hb1.mono hb0.size)⟩)
 have HT := hid (fun b1 b2 (h1 : (o.any fun n => decide (n < 0)) = b1) (h2 : (ws.any fun e => !decide e.ok) = b2) => show (!b1 && !b2) = Crt.right ⟨4, o, p, q, ws⟩ from uo () 4 o p q ws (by omega) (.inr Ho.out) (.inl rfl) Hp.out Hq.out (by rw [Ho.out]; decide) (by have := HW.out; omega) h1 h2)
 clear ho hw hn hL Ho Hp Hq HW hb0
 generalize ho1 : (o.any fun n => decide (n < 0)) = b1 at HCI
 generalize hw1 : (ws.any fun e => !decide e.ok) = b2 at HCW
 have HT := hid (HT.out b1 b2 ho1 hw1)
 clear ho1 hw1
 cases b1 with
 | true =>
  go_enter Tryz.func7, Tryz.ntmps7
  go_wp2_with (go_at_call 25; refine HCI.out.mono ?_; rintro e w1 ⟨rfl, hb1⟩)
  refine bodyPost_ret (v := .bool (!true && !b2)) ?_ rfl ⟨ai HT.out, (HCW.out w1 hb1).2.2⟩
  exact results_tmp (t := 2) rfl _ _ _
 | false =>
  go_enter Tryz.func7, Tryz.ntmps7
  go_wp2_with (first
   | (go_at_call 25; refine HCI.out.mono ?_; rintro e w1 ⟨rfl, hb1⟩; obtain ⟨c4, hq, hbw⟩ := HCW.out w1 hb1; have HQ2 := hid hq; have HBW := hid hbw; clear hq hbw hb1)
   | (go_at_call 26; refine HQ2.out.mono ?_; rintro e w2 ⟨rfl, hb2⟩)
   | fail)
  refine bodyPost_ret (v := .bool (!false && !b2)) ?_ rfl ⟨ai HT.out, HBW.out.trans (hb2.mono HBW.out.size)⟩
  exact results_tmp (t := 2) rfl _ _ _
theorem bT (S : Nat → Prop) (own : Bool) (c : Crt) (v : Value) (w : World) (h : aL w S own c v) (hn : ∀ e ∈ c.w, e.nums) (hL : Lq w.heap.size w) : Calls Tryz.prog 7 #[v] w fun e w' => e = .returned (.bool c.right) ∧ Below w.heap.size w w' := by
 obtain ⟨k, o, p, q, ws⟩ := c
 by_cases h1 : k < 1
 ·exact vg S own k o p q ws v w h hn hL h1
 by_cases h5 : 5 ≤ k
 ·exact vk S own k o p q ws v w h hn hL h5
 obtain rfl | rfl | rfl | rfl : k = 1 ∨ k = 2 ∨ k = 3 ∨ k = 4 := by omega
 ·exact vo S own _ o p q ws v w h hn hL rfl
 ·exact vv S own _ o p q ws v w h hn hL rfl
 ·exact vw S own _ o p q ws v w h hn hL rfl
 ·exact vz S own _ o p q ws v w h hn hL rfl
end Go.Proofs.YtagnalfkmdjajaaGreatDoor
