/- Walks: the reference's take. -/
import Derived.Test.YtohjkejdkhdjbaaGreatDoorQ2
import Derived.Test.YtohjkejdkhdjbaaGreatDoorQ1
import Derived.Test.YtohjkejdkhdjbaaGreatDoorQ11
namespace Go.Proofs.YtohjkejdkhdjbaaGreatDoor
open Go.RowKit Go
set_option linter.unusedVariables false
set_option linter.unusedSimpArgs false
/-- A rest of b, or none, as the place at which it begins. -/
def AtOf (b : List UInt8) (o : Option (List UInt8)) (n : Int) : Prop := (n = -1 ∧ o = none) ∨ ∃ q : Nat, q ≤ b.length ∧ n = q ∧ o = some (b.drop q)
theorem AtOf.bounds {b : List UInt8} {o : Option (List UInt8)} {n : Int} (h : AtOf b o n) : -1 ≤ n ∧ n ≤ b.length := by
  rcases h with ⟨h, _⟩ | ⟨_, _, h, _⟩ <;> omega
theorem AtOf.obd {b : List UInt8} {o : Option (List UInt8)} {n : Int} (h : AtOf b o n) : ∀ r, o = some r → r.length ≤ b.length := by
  intro r hr
  rcases h with ⟨_, h⟩ | ⟨q, _, _, h⟩
  · rw [h] at hr; cases hr
  · rw [h] at hr; injection hr with hr; subst hr; simp
theorem atOf_num (b : List UInt8) (a : Nat) (ha : a ≤ b.length) : AtOf b (getOR (some (b.drop a))) (numAt a (b.drop a)) ∧ getN (b.drop a) = getON (some (b.drop a)) := by
  unfold numAt getN getAt getOR getON
  simp only [Option.bind_some]
  cases h : getV (b.drop a) with
  | none => exact ⟨Or.inl ⟨by simp, by simp⟩, by first | rfl | trivial⟩
  | some x =>
    obtain ⟨v, r⟩ := x
    have h1 := drop_of_suffix (getV_suffix h)
    have h2 := getV_len h
    simp at h2
    refine ⟨Or.inr ⟨a + ((b.drop a).length - r.length), by simp; omega, by simp, ?_⟩, by first | rfl | trivial⟩
    simp only [Option.map_some, Option.some.injEq]
    rw [← List.drop_drop]; exact h1
def NumoEnds (b : List UInt8) (o : Option (List UInt8)) (w : World) (e : Ending) (w' : World) : Prop :=
  ∃ (A : Nat) (n : Int), e = .returned (.tuple #[.int .u64 (A : Nat), .int .i64 n]) ∧ A = getON o ∧ AtOf b (getOR o) n ∧ Below w.heap.size w w'
theorem refNumber_o (S : Nat → Prop) (own : Bool) (b : List UInt8) (v : Value) (o : Option (List UInt8)) (n : Int) (w : World) (hr : RepB w S own b v) (h : AtOf b o n) (hb : b.length ≤ 1000000) :
    Calls Tryz.prog 78 #[v, .int .i64 n] w (NumoEnds b o w) := by
  rcases h with ⟨rfl, rfl⟩ | ⟨q, hq, rfl, rfl⟩
  · obtain ⟨_, ad, cap, rfl, _⟩ := hr.shape
    exact (refNumber_neg ad b.length cap (-1) (by omega) hb w).mono fun e w' ⟨h1, h2⟩ => by subst h2; exact ⟨0, -1, h1, rfl, Or.inl ⟨rfl, rfl⟩, Below.refl _ _⟩
  · exact (refNumber_at S own b v q w hr hq hb).mono fun e w' ⟨h1, h2⟩ => ⟨_, _, h1, (atOf_num b q hq).2, (atOf_num b q hq).1, h2⟩
/-- What the reference's take answers. -/
def TkEnds (b : List UInt8) (o : Option (Ex × List UInt8)) (w : World) (e : Ending) (w' : World) : Prop :=
  ∃ (t : Ex) (v : Value) (n : Int), e = .returned (.tuple #[v, .int .i64 n]) ∧ RepE w' (fun b => w.heap.size ≤ b) true t v ∧ Below w.heap.size w w' ∧
    ((n = -1 ∧ o = none) ∨ ∃ q : Nat, q ≤ b.length ∧ n = q ∧ o = some (t, b.drop q))
/-- The loop, behind j parts. -/
def LoopSt (d : Nat) (b : List UInt8) (o : Option (List UInt8)) (j : Nat) (es : List Ex) (n : Int) : Prop :=
  (n = -1 ∧ o.bind (tkLoop (tkE d) j) = none) ∨ ∃ q : Nat, q ≤ b.length ∧ n = q ∧ o.bind (tkLoop (tkE d) j) = some (es, b.drop q) ∧ es.length ≤ b.length
theorem LoopSt.start {d : Nat} {b : List UInt8} {o : Option (List UInt8)} {n : Int} (h : AtOf b o n) : LoopSt d b o 0 [] n := by
  rcases h with ⟨h1, h2⟩ | ⟨q, h1, h2, h3⟩
  · exact Or.inl ⟨h1, by rw [h2]; rfl⟩
  · exact Or.inr ⟨q, h1, h2, by rw [h3]; rfl, by simp⟩
theorem LoopSt.step {d j q : Nat} {b : List UInt8} {o : Option (List UInt8)} {es : List Ex} {t : Ex} {n : Int} (h : o.bind (tkLoop (tkE d) j) = some (es, b.drop q)) (hq : q ≤ b.length) (hob : ∀ r, o = some r → r.length ≤ b.length)
    (ht : (n = -1 ∧ tkE d (b.drop q) = none) ∨ ∃ q' : Nat, q' ≤ b.length ∧ n = q' ∧ tkE d (b.drop q) = some (t, b.drop q')) : LoopSt d b o (j + 1) (es ++ [t]) n ∧ (n = -1 ∨ (q : Int) < n) := by
  cases o with
  | none => cases h
  | some r =>
    simp only [Option.bind_some] at h
    have hs := tkLoop_snoc (tkE d) j r
    rw [h] at hs
    rcases ht with ⟨h1, h2⟩ | ⟨q', h1, h2, h3⟩
    · refine ⟨Or.inl ⟨h1, ?_⟩, Or.inl h1⟩
      simp only [Option.bind_some, hs, h2]; rfl
    · have hz := tkE_size d _ _ _ h3
      have hp := t.size_pos
      simp at hz
      have e : tkLoop (tkE d) (j + 1) r = some (es ++ [t], b.drop q') := by simp only [hs, h3]; rfl
      refine ⟨Or.inr ⟨q', h1, h2, e, ?_⟩, Or.inr (by omega)⟩
      have := (tkLoop_size _ (tkE_size d) _ _ _ _ e).1
      have h5 := Ex.length_le_sizes (es ++ [t])
      have := hob r rfl
      omega
theorem LoopSt.ends {d m j : Nat} {b : List UInt8} {o : Option (List UInt8)} {es : List Ex} {n : Int} (h : LoopSt d b o j es n) (hj : j ≤ m) (hm : n = -1 ∨ j = m) (k A B : Nat) :
    (n = -1 ∧ ((o.bind (tkLoop (tkE d) m)).map fun x => ((.mk k A B x.1, x.2) : Ex × List UInt8)) = none) ∨ ∃ q : Nat, q ≤ b.length ∧ n = q ∧ ((o.bind (tkLoop (tkE d) m)).map fun x => ((.mk k A B x.1, x.2) : Ex × List UInt8)) = some (.mk k A B es, b.drop q) := by
  rcases h with ⟨h1, h2⟩ | ⟨q, h1, h2, h3, _⟩
  · refine Or.inl ⟨h1, ?_⟩
    cases o with
    | none => rfl
    | some r =>
      simp only [Option.bind_some] at h2 ⊢
      rw [tkLoop_none_of _ j m r hj h2]; rfl
  · have : j = m := by omega
    subst this
    exact Or.inr ⟨q, h1, h2, by rw [h3]; rfl⟩
def mz (len : Nat) (n : Int) : Nat := if n < 0 then 0 else len + 1 - n.toNat
theorem mz_lt {len p : Nat} {n : Int} (h : n = -1 ∨ (p : Int) < n) (h2 : n ≤ len) (hp : p ≤ len) : mz len n < mz len (p : Int) := by
  unfold mz
  rw [if_neg (show ¬ (p : Int) < 0 by omega)]
  rcases h with h | h
  · subst h; simp; omega
  · rw [if_neg (by omega)]; omega
/-- What stands at q, where its first byte is a kind. -/
def tkNext (d : Nat) (b : List UInt8) (q : Nat) : Option (Ex × List UInt8) := (tkTail (tkE d) (tkHead (at8 b q) (b.drop (q + 1)))).map fun x => (.mk (at8 b q : Nat) (tkHead (at8 b q) (b.drop (q + 1))).1 (tkHead (at8 b q) (b.drop (q + 1))).2.1 x.1, x.2)
theorem tkNext_eq {d : Nat} {b : List UInt8} {q : Nat} (hq : q < b.length) (h1 : 1 ≤ at8 b q) (h7 : at8 b q ≤ 7) : tkE (d + 1) (b.drop q) = tkNext d b q := by
  have e : b.drop q = b[q] :: b.drop (q + 1) := List.drop_eq_getElem_cons hq
  rw [at8_eq b q hq] at h1 h7
  unfold tkNext
  rw [e, tkE, if_pos ⟨h1, h7⟩, at8_eq b q hq]
theorem tkNext_of {d k q A B m : Nat} {b : List UInt8} {o : Option (List UInt8)} (hk : k = at8 b q) (h : tkHead k (b.drop (q + 1)) = (A, B, m, o)) : tkNext d b q = (o.bind (tkLoop (tkE d) m)).map fun x => (.mk (k : Nat) A B x.1, x.2) := by
  unfold tkNext tkTail
  rw [← hk, h]
theorem Keeps.of_row {w : World} {g B : Nat} {cs : Array Value} (h : g < B) : Keeps (fun b => B ≤ b) w (w.setRow g cs) := fun b hb _ => setRow_other _ _ _ _ (by omega)
theorem Keeps.refl (S : Nat → Prop) (w : World) : Keeps S w w := fun _ _ _ => rfl
set_option maxHeartbeats 1000000 in
set_option maxRecDepth 100000 in
theorem tkRef_none (d q : Nat) (S : Nat → Prop) (own : Bool) (b : List UInt8) (v : Value) (w : World) (hr : RepB w S own b v) (hq : q ≤ b.length) (hb : b.length ≤ 100000) (o : Option (Ex × List UInt8)) (ho : o = none)
    (hc : d = 0 ∨ q = b.length ∨ (q < b.length ∧ (at8 b q < 1 ∨ 7 < at8 b q))) : Calls Tryz.prog 57 #[v, .int .i64 q, .int .i64 d] w (TkEnds b o w) := by
  obtain ⟨_, ad, cap, rfl, _⟩ := hr.shape
  have HZ : (w.alloc (.cells #[.int .i64 0, .int .u64 0, .int .u64 0, .slice none 0 0] 32)).heap[w.heap.size]? = some (.cells #[.int .i64 0, .int .u64 0, .int .u64 0, .slice none 0 0] 32 (0, 0)) := heap_alloc_at _ _ _ rfl
  have HF : Hid (TkEnds b o w (.returned (.tuple #[.agg #[.int .i64 0, .int .u64 0, .int .u64 0, .slice none 0 0], .int .i64 (-1)])) ((w.alloc (.cells #[.int .i64 0, .int .u64 0, .int .u64 0, .slice none 0 0] 32)).setRow w.heap.size #[.int .i64 0, .int .u64 0, .int .u64 0, .slice none 0 0])) := Lib.hid
    ⟨.zero, _, -1, rfl, rep_leaf (by omega) (by omega) (by omega) (by omega), below_setRow ((Below.refl _ _).alloc (Nat.le_refl _) _) _ _ (Nat.le_refl _), Or.inl ⟨rfl, ho⟩⟩
  have HR := Lib.hid hr
  have HZ0 := Lib.hid HZ
  clear hr HZ ho
  rcases hc with rfl | hc
  · go_enter Tryz.func57, Tryz.ntmps57
    go_wp2_with (refine wpList_store_row rfl 32 (.tmp 6) (.tmp 39) rfl rfl w.heap.size rfl _ rfl 32 #[.int .i64 0, .int .u64 0, .int .u64 0, .slice none 0 0] HZ0.out (by kernel_rfl) rfl (by simp [Value.oneCell']) ?_)
    exact bodyPost_ret (v := .tuple #[.agg #[.int .i64 0, .int .u64 0, .int .u64 0, .slice none 0 0], .int .i64 (-1)]) (results_row2 rfl _ _ w.heap.size 32 _ _ _ _ rfl (setRow_heap _ _ _ _ _ _ HZ0.out) Tryz.underlying32 rfl (by kernel_rfl) rfl) rfl HF.out
  by_cases hd : d = 0
  · subst hd
    clear hc
    go_enter Tryz.func57, Tryz.ntmps57
    go_wp2_with (refine wpList_store_row rfl 32 (.tmp 6) (.tmp 39) rfl rfl w.heap.size rfl _ rfl 32 #[.int .i64 0, .int .u64 0, .int .u64 0, .slice none 0 0] HZ0.out (by kernel_rfl) rfl (by simp [Value.oneCell']) ?_)
    exact bodyPost_ret (v := .tuple #[.agg #[.int .i64 0, .int .u64 0, .int .u64 0, .slice none 0 0], .int .i64 (-1)]) (results_row2 rfl _ _ w.heap.size 32 _ _ _ _ rfl (setRow_heap _ _ _ _ _ _ HZ0.out) Tryz.underlying32 rfl (by kernel_rfl) rfl) rfl HF.out
  have t0 : ((d : Int) == 0) = false := by simp; omega
  have t1 : decide ((q : Int) < 0) = false := by simp
  rcases hc with hc | ⟨hlt, hc⟩
  · have t2 : b.length ≤ q := by omega
    clear hd hc
    go_enter Tryz.func57, Tryz.ntmps57
    go_wp2_with (refine wpList_store_row rfl 32 (.tmp 6) (.tmp 39) rfl rfl w.heap.size rfl _ rfl 32 #[.int .i64 0, .int .u64 0, .int .u64 0, .slice none 0 0] HZ0.out (by kernel_rfl) rfl (by simp [Value.oneCell']) ?_)
    exact bodyPost_ret (v := .tuple #[.agg #[.int .i64 0, .int .u64 0, .int .u64 0, .slice none 0 0], .int .i64 (-1)]) (results_row2 rfl _ _ w.heap.size 32 _ _ _ _ rfl (setRow_heap _ _ _ _ _ _ HZ0.out) Tryz.underlying32 rfl (by kernel_rfl) rfl) rfl HF.out
  have t2 : decide ((b.length : Int) ≤ (q : Int)) = false := by simp; omega
  obtain ⟨bl, off, rfl, _, g⟩ := RepB.at8 HR.out hlt
  have g' : (w.alloc (.cells #[.int .i64 0, .int .u64 0, .int .u64 0, .slice none 0 0] 32)).cell? ⟨bl, off + q, none⟩ = some (.int .u8 (at8 b q : Nat)) := by rw [World.cell?_alloc_past _ _ _ (World.block_lt_of_cell? w _ g)]; exact g
  have hbl := World.block_lt_of_cell? w _ g
  rcases hc with hc | hc
  · have hc0 : at8 b q = 0 := by omega
    rw [hc0] at g g'
    clear hc hc0
    clear hd
    go_enter Tryz.func57, Tryz.ntmps57
    go_wp2_with (refine wpList_store_row rfl 32 (.tmp 6) (.tmp 39) rfl rfl w.heap.size rfl _ rfl 32 #[.int .i64 0, .int .u64 0, .int .u64 0, .slice none 0 0] HZ0.out (by kernel_rfl) rfl (by simp [Value.oneCell']) ?_)
    exact bodyPost_ret (v := .tuple #[.agg #[.int .i64 0, .int .u64 0, .int .u64 0, .slice none 0 0], .int .i64 (-1)]) (results_row2 rfl _ _ w.heap.size 32 _ _ _ _ rfl (setRow_heap _ _ _ _ _ _ HZ0.out) Tryz.underlying32 rfl (by kernel_rfl) rfl) rfl HF.out
  · have t3 : decide ((at8 b q : Int) < 1) = false := by simp; omega
    have t4 : decide ((7 : Int) < (at8 b q : Int)) = true := by simp; omega
    clear hd
    go_enter Tryz.func57, Tryz.ntmps57
    go_wp2_with (refine wpList_store_row rfl 32 (.tmp 6) (.tmp 39) rfl rfl w.heap.size rfl _ rfl 32 #[.int .i64 0, .int .u64 0, .int .u64 0, .slice none 0 0] HZ0.out (by kernel_rfl) rfl (by simp [Value.oneCell']) ?_)
    exact bodyPost_ret (v := .tuple #[.agg #[.int .i64 0, .int .u64 0, .int .u64 0, .slice none 0 0], .int .i64 (-1)]) (results_row2 rfl _ _ w.heap.size 32 _ _ _ _ rfl (setRow_heap _ _ _ _ _ _ HZ0.out) Tryz.underlying32 rfl (by kernel_rfl) rfl) rfl HF.out
set_option maxHeartbeats 4000000 in
set_option maxRecDepth 100000 in
theorem tkRef_A (d : Nat) (hd : d ≤ 100) (IH : Hid (∀ (S : Nat → Prop) (own : Bool) (b : List UInt8) (v : Value) (q : Nat) (w : World), b.length ≤ 100000 → q ≤ b.length → RepB w S own b v → Calls Tryz.prog 57 #[v, .int .i64 q, .int .i64 d] w (TkEnds b (tkE d (b.drop q)) w))) (S : Nat → Prop) (own : Bool) (b : List UInt8) (v : Value) (q : Nat) (w : World) (hr : RepB w S own b v) (hq : q < b.length) (hb : b.length ≤ 100000) (hk1 : 1 ≤ at8 b q) (hk2 : at8 b q ≤ 1) :
    Calls Tryz.prog 57 #[v, .int .i64 q, .int .i64 ((d : Int) + 1)] w (TkEnds b (tkNext d b q) w) := by
  obtain ⟨i0, hi0, hz0, hz01, hz02⟩ := info_parts infoRef
  obtain ⟨_, ad, cap, rfl, hcap⟩ := hr.shape
  obtain ⟨k, hk⟩ : ∃ k, k = at8 b q := ⟨_, rfl⟩
  obtain ⟨bl, off, rfl, _, g⟩ := RepB.at8 hr hq
  rw [← hk] at g hk1 hk2
  have hbl := World.block_lt_of_cell? w _ g
  have HR := Lib.hid hr
  obtain ⟨W1, hW1⟩ : ∃ W1, W1 = (w.alloc (.cells #[.int .i64 0, .int .u64 0, .int .u64 0, .slice none 0 0] 32)).alloc (.cells #[.int .i64 (k : Nat), .int .u64 0, .int .u64 0, .slice none 0 0] 32) := ⟨_, rfl⟩
  have HW1 : Hid (W1.heap[w.heap.size]? = some (.cells #[.int .i64 0, .int .u64 0, .int .u64 0, .slice none 0 0] 32 (0, 0)) ∧ W1.heap[w.heap.size + 1]? = some (.cells #[.int .i64 (k : Nat), .int .u64 0, .int .u64 0, .slice none 0 0] 32 (0, 0)) ∧ Below w.heap.size w W1) := by
    refine Lib.hid ⟨?_, ?_, ?_⟩
    · rw [hW1]; exact (heap_alloc_lt _ _ _ (by simp)).trans (heap_alloc_at _ _ _ rfl)
    · rw [hW1]; exact heap_alloc_at _ _ _ (by simp)
    · rw [hW1]; exact ((Below.refl _ _).alloc (Nat.le_refl _) _).alloc (by simp) _
  have t0 : (((d : Int) + 1) == 0) = false := by simp; omega
  have t1 : decide ((q : Int) < 0) = false := by simp
  have t2 : decide ((b.length : Int) ≤ (q : Int)) = false := by simp; omega
  have t2' : ¬ b.length ≤ q := by omega
  have t3 : decide ((k : Int) < 1) = false := by simp; omega
  have t4 : decide ((7 : Int) < (k : Int)) = false := by simp; omega
  have HK := Lib.hid hk
  have HW1e := Lib.hid hW1
  have hn0 : AtOf b (some (b.drop (q + 1))) ((q : Int) + 1) := Or.inr ⟨q + 1, by omega, by omega, rfl⟩
  clear hr hk hW1
  have s1 : ((k : Int) == 4) = false := by simp; omega
  have s2 : ((k : Int) == 5) = false := by simp; omega
  have s3 : ¬ (2 : Int) ≤ (k : Int) := by omega
  have s4 : (k : Int) ≤ 4 := by omega
  have s5 : ¬ (6 : Int) ≤ (k : Int) := by omega
  go_enter Tryz.func57, Tryz.ntmps57
  go_wp2_with fail
  rw [← HW1e.out]
  obtain ⟨o, ho⟩ : ∃ o, o = some (b.drop (q + 1)) := ⟨_, rfl⟩
  have HN0 : Hid (AtOf b o ((q : Int) + 1)) := Lib.hid (by rw [ho]; exact hn0)
  have HFIN : Hid (tkNext d b q = (o.bind (tkLoop (tkE d) 0)).map fun x => (.mk (k : Nat) 0 0 x.1, x.2)) := Lib.hid (tkNext_of HK.out (by
    unfold tkHead
    rw [ho]
    rw [if_neg (by omega), if_neg (by omega), if_neg (by omega), if_neg (by omega)]))
  have HO := Lib.hid HN0.out.obd
  clear ho
  go_loop [1, 10] (fun av i => av = .int .i64 ((q : Int) + 1) ∧ i = .int .u64 0) (fun _ _ => 0)
  case atStart => exact ⟨rfl, rfl⟩
  case round =>
    obtain ⟨rfl, rfl⟩ := hrel
    have c0 : ∀ o, W1.cell? ⟨w.heap.size + 1, o, none⟩ = (#[.int .i64 (k : Nat), .int .u64 0, .int .u64 0, .slice none 0 0] : Array Value)[o]? := fun o => cell_of_row W1 _ o _ _ _ HW1.out.2.1
    have l0 : w.heap.size + 1 < W1.heap.size := (Array.getElem?_eq_some_iff.1 HW1.out.2.1).1
    go_wp2_with (refine wpList_store_row rfl 32 (.tmp 6) (.tmp 109) rfl rfl w.heap.size rfl _ rfl 32 #[.int .i64 0, .int .u64 0, .int .u64 0, .slice none 0 0] HW1.out.1 (by kernel_rfl) rfl (by simp [Value.oneCell']) ?_)
    refine bodyPost_ret (v := .tuple #[.agg #[.int .i64 (k : Nat), .int .u64 0, .int .u64 0, .slice none 0 0], .int .i64 ((q : Int) + 1)]) (results_row2 rfl _ _ w.heap.size 32 _ _ _ _ rfl (setRow_heap _ _ _ _ _ _ HW1.out.1) Tryz.underlying32 rfl (by kernel_rfl) rfl) rfl ?_
    exact ⟨.mk k 0 0 [], _, ((q : Int) + 1), rfl, rep_leaf (by omega) (by omega) (by omega) (by omega), below_setRow HW1.out.2.2 _ _ (Nat.le_refl _), by
      rw [HFIN.out]
      exact LoopSt.ends (LoopSt.start HN0.out) (Nat.le_refl 0) (Or.inr rfl) k 0 0⟩
set_option maxHeartbeats 4000000 in
set_option maxRecDepth 100000 in
theorem tkRef_B (d : Nat) (hd : d ≤ 100) (IH : Hid (∀ (S : Nat → Prop) (own : Bool) (b : List UInt8) (v : Value) (q : Nat) (w : World), b.length ≤ 100000 → q ≤ b.length → RepB w S own b v → Calls Tryz.prog 57 #[v, .int .i64 q, .int .i64 d] w (TkEnds b (tkE d (b.drop q)) w))) (S : Nat → Prop) (own : Bool) (b : List UInt8) (v : Value) (q : Nat) (w : World) (hr : RepB w S own b v) (hq : q < b.length) (hb : b.length ≤ 100000) (hk1 : 2 ≤ at8 b q) (hk2 : at8 b q ≤ 3) :
    Calls Tryz.prog 57 #[v, .int .i64 q, .int .i64 ((d : Int) + 1)] w (TkEnds b (tkNext d b q) w) := by
  obtain ⟨i0, hi0, hz0, hz01, hz02⟩ := info_parts infoRef
  obtain ⟨_, ad, cap, rfl, hcap⟩ := hr.shape
  obtain ⟨k, hk⟩ : ∃ k, k = at8 b q := ⟨_, rfl⟩
  obtain ⟨bl, off, rfl, _, g⟩ := RepB.at8 hr hq
  rw [← hk] at g hk1 hk2
  have hbl := World.block_lt_of_cell? w _ g
  have HR := Lib.hid hr
  obtain ⟨W1, hW1⟩ : ∃ W1, W1 = (w.alloc (.cells #[.int .i64 0, .int .u64 0, .int .u64 0, .slice none 0 0] 32)).alloc (.cells #[.int .i64 (k : Nat), .int .u64 0, .int .u64 0, .slice none 0 0] 32) := ⟨_, rfl⟩
  have HW1 : Hid (W1.heap[w.heap.size]? = some (.cells #[.int .i64 0, .int .u64 0, .int .u64 0, .slice none 0 0] 32 (0, 0)) ∧ W1.heap[w.heap.size + 1]? = some (.cells #[.int .i64 (k : Nat), .int .u64 0, .int .u64 0, .slice none 0 0] 32 (0, 0)) ∧ Below w.heap.size w W1) := by
    refine Lib.hid ⟨?_, ?_, ?_⟩
    · rw [hW1]; exact (heap_alloc_lt _ _ _ (by simp)).trans (heap_alloc_at _ _ _ rfl)
    · rw [hW1]; exact heap_alloc_at _ _ _ (by simp)
    · rw [hW1]; exact ((Below.refl _ _).alloc (Nat.le_refl _) _).alloc (by simp) _
  have t0 : (((d : Int) + 1) == 0) = false := by simp; omega
  have t1 : decide ((q : Int) < 0) = false := by simp
  have t2 : decide ((b.length : Int) ≤ (q : Int)) = false := by simp; omega
  have t2' : ¬ b.length ≤ q := by omega
  have t3 : decide ((k : Int) < 1) = false := by simp; omega
  have t4 : decide ((7 : Int) < (k : Int)) = false := by simp; omega
  have HK := Lib.hid hk
  have HW1e := Lib.hid hW1
  have hn0 : AtOf b (some (b.drop (q + 1))) ((q : Int) + 1) := Or.inr ⟨q + 1, by omega, by omega, rfl⟩
  clear hr hk hW1
  have s1 : ((k : Int) == 4) = false := by simp; omega
  have s2 : ((k : Int) == 5) = false := by simp; omega
  have s3 : (2 : Int) ≤ (k : Int) := by omega
  have s4 : (k : Int) ≤ 4 := by omega
  have s5 : ¬ (6 : Int) ≤ (k : Int) := by omega
  go_enter Tryz.func57, Tryz.ntmps57
  go_wp2_with fail
  rw [← HW1e.out]
  refine (refNumber_o S own b _ (some (b.drop (q + 1))) _ W1 (HR.out.below (HW1.out.2.2.mono (Nat.le_refl _)) (Nat.le_refl _)) hn0 (by omega)).mono ?_
  rintro e w2 ⟨N0, n0, rfl, hN0, hn1, hb2⟩
  have hN0l : N0 < 18446744073709551616 := by rw [hN0]; exact getON_lt _
  have HNE0 := Lib.hid hN0
  have HX : Hid (w2.heap[w.heap.size]? = some (.cells #[.int .i64 0, .int .u64 0, .int .u64 0, .slice none 0 0] 32 (0, 0)) ∧ w2.heap[w.heap.size + 1]? = some (.cells #[.int .i64 (k : Nat), .int .u64 0, .int .u64 0, .slice none 0 0] 32 (0, 0)) ∧ Below w.heap.size w w2) := Lib.hid ⟨(hb2.block _ (by have := (Array.getElem?_eq_some_iff.1 HW1.out.1).1; omega)).trans HW1.out.1, (hb2.block _ (by have := (Array.getElem?_eq_some_iff.1 HW1.out.2.1).1; omega)).trans HW1.out.2.1, HW1.out.2.2.trans (hb2.mono HW1.out.2.2.size)⟩
  have hl2 : w.heap.size + 1 < w2.heap.size := (Array.getElem?_eq_some_iff.1 HX.out.2.1).1
  have c2 : ∀ o, w2.cell? ⟨w.heap.size + 1, o, none⟩ = (#[.int .i64 (k : Nat), .int .u64 0, .int .u64 0, .slice none 0 0] : Array Value)[o]? := fun o => cell_of_row w2 _ o _ _ _ HX.out.2.1
  have f2 : ∀ o, w2.frozen? ⟨w.heap.size + 1, o, none⟩ = false := fun o => by rw [frozen_of_row w2 _ o _ _ HX.out.2.1]
  have f2s := f2 1
  have hn1b := hn1.bounds
  have HNN0 := Lib.hid hn1
  clear hN0 hn1 hb2 f2
  go_wp2_with fail
  obtain ⟨W0, hW0⟩ : ∃ W0, W0 = w2.setCell ⟨w.heap.size + 1, 1, none⟩ (.int .u64 (N0 : Nat)) := ⟨_, rfl⟩
  have HW0 : Hid (W0.heap[w.heap.size]? = some (.cells #[.int .i64 0, .int .u64 0, .int .u64 0, .slice none 0 0] 32 (0, 0)) ∧ W0.heap[w.heap.size + 1]? = some (.cells #[.int .i64 (k : Nat), .int .u64 (N0 : Nat), .int .u64 0, .slice none 0 0] 32 (0, 0)) ∧ Below w.heap.size w W0) := by
    refine Lib.hid ⟨?_, ?_, ?_⟩
    · rw [hW0, Below.heap_setCell _ _ _ _ (by simp)]; exact HX.out.1
    · rw [hW0]; exact heap_set_at HX.out.2.1 rfl
    · rw [hW0]; exact HX.out.2.2.setCell (by simp) _
  rw [← hW0]
  clear hW0 c2 f2s HX hl2
  obtain ⟨o, ho⟩ : ∃ o, o = getOR (some (b.drop (q + 1))) := ⟨_, rfl⟩
  have HN0 : Hid (AtOf b o n0) := Lib.hid (by rw [ho]; exact HNN0.out)
  have HFIN : Hid (tkNext d b q = (o.bind (tkLoop (tkE d) 0)).map fun x => (.mk (k : Nat) N0 0 x.1, x.2)) := Lib.hid (tkNext_of HK.out (by
    unfold tkHead
    rw [ho]
    rw [if_pos (by omega), HNE0.out]))
  have HO := Lib.hid HN0.out.obd
  clear ho
  go_loop [1, 10] (fun av i => av = .int .i64 n0 ∧ i = .int .u64 0) (fun _ _ => 0)
  case atStart => exact ⟨rfl, rfl⟩
  case round =>
    obtain ⟨rfl, rfl⟩ := hrel
    have c0 : ∀ o, W0.cell? ⟨w.heap.size + 1, o, none⟩ = (#[.int .i64 (k : Nat), .int .u64 N0, .int .u64 0, .slice none 0 0] : Array Value)[o]? := fun o => cell_of_row W0 _ o _ _ _ HW0.out.2.1
    have l0 : w.heap.size + 1 < W0.heap.size := (Array.getElem?_eq_some_iff.1 HW0.out.2.1).1
    go_wp2_with (refine wpList_store_row rfl 32 (.tmp 6) (.tmp 109) rfl rfl w.heap.size rfl _ rfl 32 #[.int .i64 0, .int .u64 0, .int .u64 0, .slice none 0 0] HW0.out.1 (by kernel_rfl) rfl (by simp [Value.oneCell']) ?_)
    refine bodyPost_ret (v := .tuple #[.agg #[.int .i64 (k : Nat), .int .u64 N0, .int .u64 0, .slice none 0 0], .int .i64 n0]) (results_row2 rfl _ _ w.heap.size 32 _ _ _ _ rfl (setRow_heap _ _ _ _ _ _ HW0.out.1) Tryz.underlying32 rfl (by kernel_rfl) rfl) rfl ?_
    exact ⟨.mk k N0 0 [], _, n0, rfl, rep_leaf (by omega) (by omega) (by omega) (by omega), below_setRow HW0.out.2.2 _ _ (Nat.le_refl _), by
      rw [HFIN.out]
      exact LoopSt.ends (LoopSt.start HN0.out) (Nat.le_refl 0) (Or.inr rfl) k N0 0⟩
set_option maxHeartbeats 4000000 in
set_option maxRecDepth 100000 in
theorem tkRef_C (d : Nat) (hd : d ≤ 100) (IH : Hid (∀ (S : Nat → Prop) (own : Bool) (b : List UInt8) (v : Value) (q : Nat) (w : World), b.length ≤ 100000 → q ≤ b.length → RepB w S own b v → Calls Tryz.prog 57 #[v, .int .i64 q, .int .i64 d] w (TkEnds b (tkE d (b.drop q)) w))) (S : Nat → Prop) (own : Bool) (b : List UInt8) (v : Value) (q : Nat) (w : World) (hr : RepB w S own b v) (hq : q < b.length) (hb : b.length ≤ 100000) (hk1 : 4 ≤ at8 b q) (hk2 : at8 b q ≤ 4) :
    Calls Tryz.prog 57 #[v, .int .i64 q, .int .i64 ((d : Int) + 1)] w (TkEnds b (tkNext d b q) w) := by
  obtain ⟨i0, hi0, hz0, hz01, hz02⟩ := info_parts infoRef
  obtain ⟨_, ad, cap, rfl, hcap⟩ := hr.shape
  obtain ⟨k, hk⟩ : ∃ k, k = at8 b q := ⟨_, rfl⟩
  obtain ⟨bl, off, rfl, _, g⟩ := RepB.at8 hr hq
  rw [← hk] at g hk1 hk2
  have hbl := World.block_lt_of_cell? w _ g
  have HR := Lib.hid hr
  obtain ⟨W1, hW1⟩ : ∃ W1, W1 = (w.alloc (.cells #[.int .i64 0, .int .u64 0, .int .u64 0, .slice none 0 0] 32)).alloc (.cells #[.int .i64 (k : Nat), .int .u64 0, .int .u64 0, .slice none 0 0] 32) := ⟨_, rfl⟩
  have HW1 : Hid (W1.heap[w.heap.size]? = some (.cells #[.int .i64 0, .int .u64 0, .int .u64 0, .slice none 0 0] 32 (0, 0)) ∧ W1.heap[w.heap.size + 1]? = some (.cells #[.int .i64 (k : Nat), .int .u64 0, .int .u64 0, .slice none 0 0] 32 (0, 0)) ∧ Below w.heap.size w W1) := by
    refine Lib.hid ⟨?_, ?_, ?_⟩
    · rw [hW1]; exact (heap_alloc_lt _ _ _ (by simp)).trans (heap_alloc_at _ _ _ rfl)
    · rw [hW1]; exact heap_alloc_at _ _ _ (by simp)
    · rw [hW1]; exact ((Below.refl _ _).alloc (Nat.le_refl _) _).alloc (by simp) _
  have t0 : (((d : Int) + 1) == 0) = false := by simp; omega
  have t1 : decide ((q : Int) < 0) = false := by simp
  have t2 : decide ((b.length : Int) ≤ (q : Int)) = false := by simp; omega
  have t2' : ¬ b.length ≤ q := by omega
  have t3 : decide ((k : Int) < 1) = false := by simp; omega
  have t4 : decide ((7 : Int) < (k : Int)) = false := by simp; omega
  have HK := Lib.hid hk
  have HW1e := Lib.hid hW1
  have hn0 : AtOf b (some (b.drop (q + 1))) ((q : Int) + 1) := Or.inr ⟨q + 1, by omega, by omega, rfl⟩
  clear hr hk hW1
  have s1 : ((k : Int) == 4) = true := by simp; omega
  have s2 : ((k : Int) == 5) = false := by simp; omega
  have s3 : (2 : Int) ≤ (k : Int) := by omega
  have s4 : (k : Int) ≤ 4 := by omega
  have s5 : ¬ (6 : Int) ≤ (k : Int) := by omega
  go_enter Tryz.func57, Tryz.ntmps57
  go_wp2_with fail
  rw [← HW1e.out]
  refine (refNumber_o S own b _ (some (b.drop (q + 1))) _ W1 (HR.out.below (HW1.out.2.2.mono (Nat.le_refl _)) (Nat.le_refl _)) hn0 (by omega)).mono ?_
  rintro e w2 ⟨N0, n0, rfl, hN0, hn1, hb2⟩
  have hN0l : N0 < 18446744073709551616 := by rw [hN0]; exact getON_lt _
  have HNE0 := Lib.hid hN0
  have HX : Hid (w2.heap[w.heap.size]? = some (.cells #[.int .i64 0, .int .u64 0, .int .u64 0, .slice none 0 0] 32 (0, 0)) ∧ w2.heap[w.heap.size + 1]? = some (.cells #[.int .i64 (k : Nat), .int .u64 0, .int .u64 0, .slice none 0 0] 32 (0, 0)) ∧ Below w.heap.size w w2) := Lib.hid ⟨(hb2.block _ (by have := (Array.getElem?_eq_some_iff.1 HW1.out.1).1; omega)).trans HW1.out.1, (hb2.block _ (by have := (Array.getElem?_eq_some_iff.1 HW1.out.2.1).1; omega)).trans HW1.out.2.1, HW1.out.2.2.trans (hb2.mono HW1.out.2.2.size)⟩
  have hl2 : w.heap.size + 1 < w2.heap.size := (Array.getElem?_eq_some_iff.1 HX.out.2.1).1
  have c2 : ∀ o, w2.cell? ⟨w.heap.size + 1, o, none⟩ = (#[.int .i64 (k : Nat), .int .u64 0, .int .u64 0, .slice none 0 0] : Array Value)[o]? := fun o => cell_of_row w2 _ o _ _ _ HX.out.2.1
  have f2 : ∀ o, w2.frozen? ⟨w.heap.size + 1, o, none⟩ = false := fun o => by rw [frozen_of_row w2 _ o _ _ HX.out.2.1]
  have f2s := f2 1
  have hn1b := hn1.bounds
  have HNN0 := Lib.hid hn1
  clear hN0 hn1 hb2 f2
  go_wp2_with fail
  obtain ⟨W2, hW2⟩ : ∃ W2, W2 = w2.setCell ⟨w.heap.size + 1, 1, none⟩ (.int .u64 (N0 : Nat)) := ⟨_, rfl⟩
  have HW2 : Hid (W2.heap[w.heap.size]? = some (.cells #[.int .i64 0, .int .u64 0, .int .u64 0, .slice none 0 0] 32 (0, 0)) ∧ W2.heap[w.heap.size + 1]? = some (.cells #[.int .i64 (k : Nat), .int .u64 (N0 : Nat), .int .u64 0, .slice none 0 0] 32 (0, 0)) ∧ Below w.heap.size w W2) := by
    refine Lib.hid ⟨?_, ?_, ?_⟩
    · rw [hW2, Below.heap_setCell _ _ _ _ (by simp)]; exact HX.out.1
    · rw [hW2]; exact heap_set_at HX.out.2.1 rfl
    · rw [hW2]; exact HX.out.2.2.setCell (by simp) _
  rw [← hW2]
  clear hW2 c2 f2s HX hl2
  have hn1 := HNN0.out
  refine (refNumber_o S own b _ (getOR (some (b.drop (q + 1)))) _ W2 (HR.out.below (HW2.out.2.2.mono (Nat.le_refl _)) (Nat.le_refl _)) hn1 (by omega)).mono ?_
  rintro e w3 ⟨N1, n1, rfl, hN1, hn2, hb3⟩
  have hN1l : N1 < 18446744073709551616 := by rw [hN1]; exact getON_lt _
  have HNE1 := Lib.hid hN1
  have HX : Hid (w3.heap[w.heap.size]? = some (.cells #[.int .i64 0, .int .u64 0, .int .u64 0, .slice none 0 0] 32 (0, 0)) ∧ w3.heap[w.heap.size + 1]? = some (.cells #[.int .i64 (k : Nat), .int .u64 (N0 : Nat), .int .u64 0, .slice none 0 0] 32 (0, 0)) ∧ Below w.heap.size w w3) := Lib.hid ⟨(hb3.block _ (by have := (Array.getElem?_eq_some_iff.1 HW2.out.1).1; omega)).trans HW2.out.1, (hb3.block _ (by have := (Array.getElem?_eq_some_iff.1 HW2.out.2.1).1; omega)).trans HW2.out.2.1, HW2.out.2.2.trans (hb3.mono HW2.out.2.2.size)⟩
  have hl3 : w.heap.size + 1 < w3.heap.size := (Array.getElem?_eq_some_iff.1 HX.out.2.1).1
  have c3 : ∀ o, w3.cell? ⟨w.heap.size + 1, o, none⟩ = (#[.int .i64 (k : Nat), .int .u64 (N0 : Nat), .int .u64 0, .slice none 0 0] : Array Value)[o]? := fun o => cell_of_row w3 _ o _ _ _ HX.out.2.1
  have f3 : ∀ o, w3.frozen? ⟨w.heap.size + 1, o, none⟩ = false := fun o => by rw [frozen_of_row w3 _ o _ _ HX.out.2.1]
  have f3s := f3 2
  have hn2b := hn2.bounds
  have HNN1 := Lib.hid hn2
  clear hN1 hn2 hb3 f3
  go_wp2_with fail
  obtain ⟨W0, hW0⟩ : ∃ W0, W0 = w3.setCell ⟨w.heap.size + 1, 2, none⟩ (.int .u64 (N1 : Nat)) := ⟨_, rfl⟩
  have HW0 : Hid (W0.heap[w.heap.size]? = some (.cells #[.int .i64 0, .int .u64 0, .int .u64 0, .slice none 0 0] 32 (0, 0)) ∧ W0.heap[w.heap.size + 1]? = some (.cells #[.int .i64 (k : Nat), .int .u64 (N0 : Nat), .int .u64 (N1 : Nat), .slice none 0 0] 32 (0, 0)) ∧ Below w.heap.size w W0) := by
    refine Lib.hid ⟨?_, ?_, ?_⟩
    · rw [hW0, Below.heap_setCell _ _ _ _ (by simp)]; exact HX.out.1
    · rw [hW0]; exact heap_set_at HX.out.2.1 rfl
    · rw [hW0]; exact HX.out.2.2.setCell (by simp) _
  rw [← hW0]
  clear hW0 c3 f3s HX hl3
  obtain ⟨o, ho⟩ : ∃ o, o = getOR (getOR (some (b.drop (q + 1)))) := ⟨_, rfl⟩
  have HN0 : Hid (AtOf b o n1) := Lib.hid (by rw [ho]; exact HNN1.out)
  have HFIN : Hid (tkNext d b q = (o.bind (tkLoop (tkE d) 0)).map fun x => (.mk (k : Nat) N0 N1 x.1, x.2)) := Lib.hid (tkNext_of HK.out (by
    unfold tkHead
    rw [ho]
    rw [if_neg (by omega), if_pos (by omega), HNE0.out, HNE1.out]))
  have HO := Lib.hid HN0.out.obd
  clear ho
  go_loop [1, 10] (fun av i => av = .int .i64 n1 ∧ i = .int .u64 0) (fun _ _ => 0)
  case atStart => exact ⟨rfl, rfl⟩
  case round =>
    obtain ⟨rfl, rfl⟩ := hrel
    have c0 : ∀ o, W0.cell? ⟨w.heap.size + 1, o, none⟩ = (#[.int .i64 (k : Nat), .int .u64 N0, .int .u64 N1, .slice none 0 0] : Array Value)[o]? := fun o => cell_of_row W0 _ o _ _ _ HW0.out.2.1
    have l0 : w.heap.size + 1 < W0.heap.size := (Array.getElem?_eq_some_iff.1 HW0.out.2.1).1
    go_wp2_with (refine wpList_store_row rfl 32 (.tmp 6) (.tmp 109) rfl rfl w.heap.size rfl _ rfl 32 #[.int .i64 0, .int .u64 0, .int .u64 0, .slice none 0 0] HW0.out.1 (by kernel_rfl) rfl (by simp [Value.oneCell']) ?_)
    refine bodyPost_ret (v := .tuple #[.agg #[.int .i64 (k : Nat), .int .u64 N0, .int .u64 N1, .slice none 0 0], .int .i64 n1]) (results_row2 rfl _ _ w.heap.size 32 _ _ _ _ rfl (setRow_heap _ _ _ _ _ _ HW0.out.1) Tryz.underlying32 rfl (by kernel_rfl) rfl) rfl ?_
    exact ⟨.mk k N0 N1 [], _, n1, rfl, rep_leaf (by omega) (by omega) (by omega) (by omega), below_setRow HW0.out.2.2 _ _ (Nat.le_refl _), by
      rw [HFIN.out]
      exact LoopSt.ends (LoopSt.start HN0.out) (Nat.le_refl 0) (Or.inr rfl) k N0 N1⟩
set_option maxHeartbeats 4000000 in
set_option maxRecDepth 100000 in
theorem tkRef_D (d : Nat) (hd : d ≤ 100) (IH : Hid (∀ (S : Nat → Prop) (own : Bool) (b : List UInt8) (v : Value) (q : Nat) (w : World), b.length ≤ 100000 → q ≤ b.length → RepB w S own b v → Calls Tryz.prog 57 #[v, .int .i64 q, .int .i64 d] w (TkEnds b (tkE d (b.drop q)) w))) (S : Nat → Prop) (own : Bool) (b : List UInt8) (v : Value) (q : Nat) (w : World) (hr : RepB w S own b v) (hq : q < b.length) (hb : b.length ≤ 100000) (hk1 : 5 ≤ at8 b q) (hk2 : at8 b q ≤ 5) :
    Calls Tryz.prog 57 #[v, .int .i64 q, .int .i64 ((d : Int) + 1)] w (TkEnds b (tkNext d b q) w) := by
  obtain ⟨i0, hi0, hz0, hz01, hz02⟩ := info_parts infoRef
  obtain ⟨_, ad, cap, rfl, hcap⟩ := hr.shape
  obtain ⟨k, hk⟩ : ∃ k, k = at8 b q := ⟨_, rfl⟩
  obtain ⟨bl, off, rfl, _, g⟩ := RepB.at8 hr hq
  rw [← hk] at g hk1 hk2
  have hbl := World.block_lt_of_cell? w _ g
  have HR := Lib.hid hr
  obtain ⟨W1, hW1⟩ : ∃ W1, W1 = (w.alloc (.cells #[.int .i64 0, .int .u64 0, .int .u64 0, .slice none 0 0] 32)).alloc (.cells #[.int .i64 (k : Nat), .int .u64 0, .int .u64 0, .slice none 0 0] 32) := ⟨_, rfl⟩
  have HW1 : Hid (W1.heap[w.heap.size]? = some (.cells #[.int .i64 0, .int .u64 0, .int .u64 0, .slice none 0 0] 32 (0, 0)) ∧ W1.heap[w.heap.size + 1]? = some (.cells #[.int .i64 (k : Nat), .int .u64 0, .int .u64 0, .slice none 0 0] 32 (0, 0)) ∧ Below w.heap.size w W1) := by
    refine Lib.hid ⟨?_, ?_, ?_⟩
    · rw [hW1]; exact (heap_alloc_lt _ _ _ (by simp)).trans (heap_alloc_at _ _ _ rfl)
    · rw [hW1]; exact heap_alloc_at _ _ _ (by simp)
    · rw [hW1]; exact ((Below.refl _ _).alloc (Nat.le_refl _) _).alloc (by simp) _
  have t0 : (((d : Int) + 1) == 0) = false := by simp; omega
  have t1 : decide ((q : Int) < 0) = false := by simp
  have t2 : decide ((b.length : Int) ≤ (q : Int)) = false := by simp; omega
  have t2' : ¬ b.length ≤ q := by omega
  have t3 : decide ((k : Int) < 1) = false := by simp; omega
  have t4 : decide ((7 : Int) < (k : Int)) = false := by simp; omega
  have HK := Lib.hid hk
  have HW1e := Lib.hid hW1
  have hn0 : AtOf b (some (b.drop (q + 1))) ((q : Int) + 1) := Or.inr ⟨q + 1, by omega, by omega, rfl⟩
  clear hr hk hW1
  have s1 : ((k : Int) == 4) = false := by simp; omega
  have s2 : ((k : Int) == 5) = true := by simp; omega
  have s3 : (2 : Int) ≤ (k : Int) := by omega
  have s4 : ¬ (k : Int) ≤ 4 := by omega
  have s5 : ¬ (6 : Int) ≤ (k : Int) := by omega
  go_enter Tryz.func57, Tryz.ntmps57
  go_wp2_with fail
  rw [← HW1e.out]
  obtain ⟨o, ho⟩ : ∃ o, o = some (b.drop (q + 1)) := ⟨_, rfl⟩
  have HN0 : Hid (AtOf b o ((q : Int) + 1)) := Lib.hid (by rw [ho]; exact hn0)
  have HFIN : Hid (tkNext d b q = (o.bind (tkLoop (tkE d) 1)).map fun x => (.mk (k : Nat) 0 0 x.1, x.2)) := Lib.hid (tkNext_of HK.out (by
    unfold tkHead
    rw [ho]
    rw [if_neg (by omega), if_neg (by omega), if_pos (by omega)]))
  have HO := Lib.hid HN0.out.obd
  clear ho
  go_loopw [1, 10] (fun av i wr => ∃ (j : Nat) (es : List Ex) (sv : Value) (n : Int), av = .int .i64 n ∧ i = .int .u64 j ∧ j ≤ 1 ∧ -1 ≤ n ∧ n ≤ b.length ∧ Making wr (w.heap.size + 2) 32 sv es ∧
      wr.heap[w.heap.size]? = some (.cells #[.int .i64 0, .int .u64 0, .int .u64 0, .slice none 0 0] 32 (0, 0)) ∧ wr.heap[w.heap.size + 1]? = some (.cells #[.int .i64 (k : Nat), .int .u64 0, .int .u64 0, sv] 32 (0, 0)) ∧ Below w.heap.size w wr ∧ Hid (LoopSt d b o j es n)) (fun av _ _ => mz b.length (intOf av))
  case atStart =>
    exact ⟨0, [], _, ((q : Int) + 1), rfl, rfl, by omega, by omega, by omega, Making.nil _ _ _, HW1.out.1, HW1.out.2.1, HW1.out.2.2, Lib.hid (LoopSt.start HN0.out)⟩
  case round =>
    obtain ⟨j, es, sv, n, rfl, rfl, hjm, hn1', hn2', ⟨ys, hown, hey⟩, hh0, hh1, hbel, hst⟩ := hrel
    obtain ⟨sa, sc, rfl⟩ := owns_slice hown
    have hob := hown.lt
    have hs2 : w.heap.size + 1 < wr.heap.size := (Array.getElem?_eq_some_iff.1 hh1).1
    have HM := Lib.hid (And.intro hown hey)
    have HH := Lib.hid (And.intro hh0 (And.intro hh1 hbel))
    by_cases hlt : j < 1 ∧ 0 ≤ n
    · obtain ⟨hlt, hn0⟩ := hlt
      obtain ⟨p, rfl⟩ := Int.eq_ofNat_of_zero_le hn0
      obtain ⟨hes, hbind⟩ : es.length ≤ b.length ∧ o.bind (tkLoop (tkE d) j) = some (es, b.drop p) := by
        rcases hst.out with ⟨h1, _⟩ | ⟨p', h1, h2, h3, h4⟩
        · omega
        · obtain rfl : p = p' := by omega
          exact ⟨h4, h3⟩
      have HBIND := Lib.hid hbind
      have hpb : p ≤ b.length := by omega
      clear hh0 hh1 hown hey hbel hn0 hbind
      go_wp2_with fail
      refine (IH.out S own b _ p wr hb hpb (HR.out.below (HH.out.2.2.mono (by omega)) (Nat.le_refl _))).mono ?_
      rintro e w1 ⟨t, v, n1, rfl, hv, hb1, hcase⟩
      obtain ⟨q0, q1, q2, q3, q4, q5, rfl⟩ := hv.conc
      have hz1 := hb1.size
      have hx1 := (hb1.block _ hs2).trans HH.out.2.1
      have c0 : ∀ o, w1.cell? ⟨w.heap.size + 1, o, none⟩ = (#[.int .i64 (k : Nat), .int .u64 0, .int .u64 0, .slice sa es.length sc] : Array Value)[o]? := fun o => cell_of_row w1 _ o _ _ _ hx1
      have HX1 := Lib.hid hx1
      have hl1 : w.heap.size + 1 < w1.heap.size := by omega
      obtain ⟨hst2, hnn⟩ := LoopSt.step HBIND.out hpb HO.out hcase
      have hn3 : -1 ≤ n1 ∧ n1 ≤ b.length := by rcases hcase with ⟨h, _⟩ | ⟨_, _, h, _⟩ <;> omega
      have HV := Lib.hid (And.intro hv (And.intro hb1 hst2))
      clear hv hb1 hst2 hcase hx1
      go_wp2_with (at_builtin; go_loud (refine wpList_append_lies _ rfl (.tmp 103) (.tmp 105) 30 rfl (w.heap.size + 2) 32 i0 _ 4 48 Tryz.underlying30 hi0 hz0 hz01 hz02 rfl (by omega) (.slice sa es.length sc) es.length ys rfl (((ownsRow_below HM.out.1 HV.out.2.1 (Nat.le_refl _)).alloc _).alloc _) ⟨w1.heap.size + 1, 0, none⟩ 1 1 [.int .i64 q0, .int .u64 q1, .int .u64 q2, .slice q3 q4 q5] rfl rfl (World.news_of_block (cs := #[.int .i64 q0, .int .u64 q1, .int .u64 q2, .slice q3 q4 q5]) (t := 32) (fr := (0, 0)) (heap_alloc_at _ _ _ (by simp))) (by simp [Value.oneCell']) (by omega) (by unfold maxLen; omega) (by omega) (by simp; omega) (w1.heap.size + 1 + 1) (by simp) ?_); intro gg gcap w2 hown2 hgrow hat hlt2
                   go_loud (have hne : some (w.heap.size + 1) ≠ (Value.slice sa es.length sc).ownBlock := fun e => (by have := hob _ e.symm; omega))
                   go_loud (have c5 : w2.cell? ⟨w.heap.size + 1, 3, none⟩ = some (.slice sa es.length sc) := (by rw [hgrow.cell_far _ (by simp; omega) hne, World.cell?_alloc_past _ _ _ (by simp; omega), World.cell?_alloc_past _ _ _ (by omega)]; exact c0 3))
                   go_loud (have f5 : w2.frozen? ⟨w.heap.size + 1, 3, none⟩ = false := (by rw [hgrow.frozen_far _ (by simp; omega) hne, World.frozen?_alloc_past _ _ _ (by simp; omega), World.frozen?_alloc_past _ _ _ (by omega), frozen_of_row w1 _ 3 _ _ HX1.out]))
                   have HP := Lib.hid (parts_push (T := 32) HM.out (by omega) (Nat.lt_succ_self _) HH.out.2.1 HV.out.1 HV.out.2.1 hgrow hown2 hat))
      go_roundw
      case rel =>
        exact ⟨j + 1, es ++ [t], _, n1, rfl, by go_num, by omega, hn3.1, hn3.2, by simpa [Making] using HP.out.1, (HP.out.2.2.1 _ (by omega) (by omega)).trans HH.out.1, HP.out.2.1, HH.out.2.2.trans (HP.out.2.2.2.mono (by omega)), Lib.hid HV.out.2.2⟩
      case measure => exact mz_lt hnn hn3.2 hpb
    · have hend : n = -1 ∨ j = 1 := by omega
      have c0 : ∀ o, wr.cell? ⟨w.heap.size + 1, o, none⟩ = (#[.int .i64 (k : Nat), .int .u64 0, .int .u64 0, .slice sa es.length sc] : Array Value)[o]? := fun o => cell_of_row wr _ o _ _ _ hh1
      have HE := Lib.hid (LoopSt.ends hst.out hjm hend k 0 0)
      have HREP := Lib.hid (rep_of_making2 (S := fun b => w.heap.size + 1 ≤ b) (k := (k : Nat)) (A := 0) (B := 0) ⟨ys, HM.out.1, HM.out.2⟩ (Keeps.refl _ _) (fun b h => by omega) (by omega) (by omega) (by omega) (by omega))
      clear hh0 hh1 hown hey hbel hst
      have l0 : w.heap.size + 1 < wr.heap.size := hs2
      go_wp2_with (refine wpList_store_row rfl 32 (.tmp 6) (.tmp 109) rfl rfl w.heap.size rfl _ rfl 32 #[.int .i64 0, .int .u64 0, .int .u64 0, .slice none 0 0] HH.out.1 (by kernel_rfl) rfl (by simp [Value.oneCell']) ?_)
      all_goals first
        | (exfalso; omega)
        | (refine bodyPost_ret (v := .tuple #[.agg #[.int .i64 (k : Nat), .int .u64 0, .int .u64 0, .slice sa es.length sc], .int .i64 n]) (results_row2 rfl _ _ w.heap.size 32 _ _ _ _ rfl (setRow_heap _ _ _ _ _ _ HH.out.1) Tryz.underlying32 rfl (by kernel_rfl) rfl) rfl ?_
           exact ⟨.mk k 0 0 es, _, n, rfl, RepE.keep (Keeps.of_row (Nat.lt_succ_self _)) (fun _ _ h => Nat.le_of_succ_le h) HREP.out, below_setRow HH.out.2.2 _ _ (Nat.le_refl _), by rw [HFIN.out]; exact HE.out⟩)
set_option maxHeartbeats 4000000 in
set_option maxRecDepth 100000 in
theorem tkRef_E (d : Nat) (hd : d ≤ 100) (IH : Hid (∀ (S : Nat → Prop) (own : Bool) (b : List UInt8) (v : Value) (q : Nat) (w : World), b.length ≤ 100000 → q ≤ b.length → RepB w S own b v → Calls Tryz.prog 57 #[v, .int .i64 q, .int .i64 d] w (TkEnds b (tkE d (b.drop q)) w))) (S : Nat → Prop) (own : Bool) (b : List UInt8) (v : Value) (q : Nat) (w : World) (hr : RepB w S own b v) (hq : q < b.length) (hb : b.length ≤ 100000) (hk1 : 6 ≤ at8 b q) (hk2 : at8 b q ≤ 7) :
    Calls Tryz.prog 57 #[v, .int .i64 q, .int .i64 ((d : Int) + 1)] w (TkEnds b (tkNext d b q) w) := by
  obtain ⟨i0, hi0, hz0, hz01, hz02⟩ := info_parts infoRef
  obtain ⟨_, ad, cap, rfl, hcap⟩ := hr.shape
  obtain ⟨k, hk⟩ : ∃ k, k = at8 b q := ⟨_, rfl⟩
  obtain ⟨bl, off, rfl, _, g⟩ := RepB.at8 hr hq
  rw [← hk] at g hk1 hk2
  have hbl := World.block_lt_of_cell? w _ g
  have HR := Lib.hid hr
  obtain ⟨W1, hW1⟩ : ∃ W1, W1 = (w.alloc (.cells #[.int .i64 0, .int .u64 0, .int .u64 0, .slice none 0 0] 32)).alloc (.cells #[.int .i64 (k : Nat), .int .u64 0, .int .u64 0, .slice none 0 0] 32) := ⟨_, rfl⟩
  have HW1 : Hid (W1.heap[w.heap.size]? = some (.cells #[.int .i64 0, .int .u64 0, .int .u64 0, .slice none 0 0] 32 (0, 0)) ∧ W1.heap[w.heap.size + 1]? = some (.cells #[.int .i64 (k : Nat), .int .u64 0, .int .u64 0, .slice none 0 0] 32 (0, 0)) ∧ Below w.heap.size w W1) := by
    refine Lib.hid ⟨?_, ?_, ?_⟩
    · rw [hW1]; exact (heap_alloc_lt _ _ _ (by simp)).trans (heap_alloc_at _ _ _ rfl)
    · rw [hW1]; exact heap_alloc_at _ _ _ (by simp)
    · rw [hW1]; exact ((Below.refl _ _).alloc (Nat.le_refl _) _).alloc (by simp) _
  have t0 : (((d : Int) + 1) == 0) = false := by simp; omega
  have t1 : decide ((q : Int) < 0) = false := by simp
  have t2 : decide ((b.length : Int) ≤ (q : Int)) = false := by simp; omega
  have t2' : ¬ b.length ≤ q := by omega
  have t3 : decide ((k : Int) < 1) = false := by simp; omega
  have t4 : decide ((7 : Int) < (k : Int)) = false := by simp; omega
  have HK := Lib.hid hk
  have HW1e := Lib.hid hW1
  have hn0 : AtOf b (some (b.drop (q + 1))) ((q : Int) + 1) := Or.inr ⟨q + 1, by omega, by omega, rfl⟩
  clear hr hk hW1
  have s1 : ((k : Int) == 4) = false := by simp; omega
  have s2 : ((k : Int) == 5) = false := by simp; omega
  have s3 : (2 : Int) ≤ (k : Int) := by omega
  have s4 : ¬ (k : Int) ≤ 4 := by omega
  have s5 : (6 : Int) ≤ (k : Int) := by omega
  go_enter Tryz.func57, Tryz.ntmps57
  go_wp2_with fail
  rw [← HW1e.out]
  refine (refNumber_o S own b _ (some (b.drop (q + 1))) _ W1 (HR.out.below (HW1.out.2.2.mono (Nat.le_refl _)) (Nat.le_refl _)) hn0 (by omega)).mono ?_
  rintro e w2 ⟨N0, n0, rfl, hN0, hn1, hb2⟩
  have hN0l : N0 < 18446744073709551616 := by rw [hN0]; exact getON_lt _
  have HNE0 := Lib.hid hN0
  have HX : Hid (w2.heap[w.heap.size]? = some (.cells #[.int .i64 0, .int .u64 0, .int .u64 0, .slice none 0 0] 32 (0, 0)) ∧ w2.heap[w.heap.size + 1]? = some (.cells #[.int .i64 (k : Nat), .int .u64 0, .int .u64 0, .slice none 0 0] 32 (0, 0)) ∧ Below w.heap.size w w2) := Lib.hid ⟨(hb2.block _ (by have := (Array.getElem?_eq_some_iff.1 HW1.out.1).1; omega)).trans HW1.out.1, (hb2.block _ (by have := (Array.getElem?_eq_some_iff.1 HW1.out.2.1).1; omega)).trans HW1.out.2.1, HW1.out.2.2.trans (hb2.mono HW1.out.2.2.size)⟩
  have hl2 : w.heap.size + 1 < w2.heap.size := (Array.getElem?_eq_some_iff.1 HX.out.2.1).1
  have c2 : ∀ o, w2.cell? ⟨w.heap.size + 1, o, none⟩ = (#[.int .i64 (k : Nat), .int .u64 0, .int .u64 0, .slice none 0 0] : Array Value)[o]? := fun o => cell_of_row w2 _ o _ _ _ HX.out.2.1
  have f2 : ∀ o, w2.frozen? ⟨w.heap.size + 1, o, none⟩ = false := fun o => by rw [frozen_of_row w2 _ o _ _ HX.out.2.1]
  have f2s := f2 1
  have hn1b := hn1.bounds
  have HNN0 := Lib.hid hn1
  clear hN0 hn1 hb2 f2
  go_wp2_with fail
  obtain ⟨W0, hW0⟩ : ∃ W0, W0 = w2 := ⟨_, rfl⟩
  rw [← hW0]
  have HW0 : Hid (W0.heap[w.heap.size]? = some (.cells #[.int .i64 0, .int .u64 0, .int .u64 0, .slice none 0 0] 32 (0, 0)) ∧ W0.heap[w.heap.size + 1]? = some (.cells #[.int .i64 (k : Nat), .int .u64 0, .int .u64 0, .slice none 0 0] 32 (0, 0)) ∧ Below w.heap.size w W0) := by rw [hW0]; exact HX
  clear hW0 c2 f2s HX hl2
  obtain ⟨o, ho⟩ : ∃ o, o = getOR (some (b.drop (q + 1))) := ⟨_, rfl⟩
  have HN0 : Hid (AtOf b o n0) := Lib.hid (by rw [ho]; exact HNN0.out)
  have HFIN : Hid (tkNext d b q = (o.bind (tkLoop (tkE d) N0)).map fun x => (.mk (k : Nat) 0 0 x.1, x.2)) := Lib.hid (tkNext_of HK.out (by
    unfold tkHead
    rw [ho]
    rw [if_neg (by omega), if_neg (by omega), if_neg (by omega), if_pos (by omega), HNE0.out]))
  have HO := Lib.hid HN0.out.obd
  clear ho
  go_loopw [1, 10] (fun av i wr => ∃ (j : Nat) (es : List Ex) (sv : Value) (n : Int), av = .int .i64 n ∧ i = .int .u64 j ∧ j ≤ N0 ∧ -1 ≤ n ∧ n ≤ b.length ∧ Making wr (w.heap.size + 2) 32 sv es ∧
      wr.heap[w.heap.size]? = some (.cells #[.int .i64 0, .int .u64 0, .int .u64 0, .slice none 0 0] 32 (0, 0)) ∧ wr.heap[w.heap.size + 1]? = some (.cells #[.int .i64 (k : Nat), .int .u64 0, .int .u64 0, sv] 32 (0, 0)) ∧ Below w.heap.size w wr ∧ Hid (LoopSt d b o j es n)) (fun av _ _ => mz b.length (intOf av))
  case atStart =>
    exact ⟨0, [], _, n0, rfl, rfl, by omega, by omega, by omega, Making.nil _ _ _, HW0.out.1, HW0.out.2.1, HW0.out.2.2, Lib.hid (LoopSt.start HN0.out)⟩
  case round =>
    obtain ⟨j, es, sv, n, rfl, rfl, hjm, hn1', hn2', ⟨ys, hown, hey⟩, hh0, hh1, hbel, hst⟩ := hrel
    obtain ⟨sa, sc, rfl⟩ := owns_slice hown
    have hob := hown.lt
    have hs2 : w.heap.size + 1 < wr.heap.size := (Array.getElem?_eq_some_iff.1 hh1).1
    have HM := Lib.hid (And.intro hown hey)
    have HH := Lib.hid (And.intro hh0 (And.intro hh1 hbel))
    by_cases hlt : j < N0 ∧ 0 ≤ n
    · obtain ⟨hlt, hn0⟩ := hlt
      obtain ⟨p, rfl⟩ := Int.eq_ofNat_of_zero_le hn0
      obtain ⟨hes, hbind⟩ : es.length ≤ b.length ∧ o.bind (tkLoop (tkE d) j) = some (es, b.drop p) := by
        rcases hst.out with ⟨h1, _⟩ | ⟨p', h1, h2, h3, h4⟩
        · omega
        · obtain rfl : p = p' := by omega
          exact ⟨h4, h3⟩
      have HBIND := Lib.hid hbind
      have hpb : p ≤ b.length := by omega
      clear hh0 hh1 hown hey hbel hn0 hbind
      go_wp2_with fail
      refine (IH.out S own b _ p wr hb hpb (HR.out.below (HH.out.2.2.mono (by omega)) (Nat.le_refl _))).mono ?_
      rintro e w1 ⟨t, v, n1, rfl, hv, hb1, hcase⟩
      obtain ⟨q0, q1, q2, q3, q4, q5, rfl⟩ := hv.conc
      have hz1 := hb1.size
      have hx1 := (hb1.block _ hs2).trans HH.out.2.1
      have c0 : ∀ o, w1.cell? ⟨w.heap.size + 1, o, none⟩ = (#[.int .i64 (k : Nat), .int .u64 0, .int .u64 0, .slice sa es.length sc] : Array Value)[o]? := fun o => cell_of_row w1 _ o _ _ _ hx1
      have HX1 := Lib.hid hx1
      have hl1 : w.heap.size + 1 < w1.heap.size := by omega
      obtain ⟨hst2, hnn⟩ := LoopSt.step HBIND.out hpb HO.out hcase
      have hn3 : -1 ≤ n1 ∧ n1 ≤ b.length := by rcases hcase with ⟨h, _⟩ | ⟨_, _, h, _⟩ <;> omega
      have HV := Lib.hid (And.intro hv (And.intro hb1 hst2))
      clear hv hb1 hst2 hcase hx1
      go_wp2_with (at_builtin; go_loud (refine wpList_append_lies _ rfl (.tmp 103) (.tmp 105) 30 rfl (w.heap.size + 2) 32 i0 _ 4 48 Tryz.underlying30 hi0 hz0 hz01 hz02 rfl (by omega) (.slice sa es.length sc) es.length ys rfl (((ownsRow_below HM.out.1 HV.out.2.1 (Nat.le_refl _)).alloc _).alloc _) ⟨w1.heap.size + 1, 0, none⟩ 1 1 [.int .i64 q0, .int .u64 q1, .int .u64 q2, .slice q3 q4 q5] rfl rfl (World.news_of_block (cs := #[.int .i64 q0, .int .u64 q1, .int .u64 q2, .slice q3 q4 q5]) (t := 32) (fr := (0, 0)) (heap_alloc_at _ _ _ (by simp))) (by simp [Value.oneCell']) (by omega) (by unfold maxLen; omega) (by omega) (by simp; omega) (w1.heap.size + 1 + 1) (by simp) ?_); intro gg gcap w2 hown2 hgrow hat hlt2
                   go_loud (have hne : some (w.heap.size + 1) ≠ (Value.slice sa es.length sc).ownBlock := fun e => (by have := hob _ e.symm; omega))
                   go_loud (have c5 : w2.cell? ⟨w.heap.size + 1, 3, none⟩ = some (.slice sa es.length sc) := (by rw [hgrow.cell_far _ (by simp; omega) hne, World.cell?_alloc_past _ _ _ (by simp; omega), World.cell?_alloc_past _ _ _ (by omega)]; exact c0 3))
                   go_loud (have f5 : w2.frozen? ⟨w.heap.size + 1, 3, none⟩ = false := (by rw [hgrow.frozen_far _ (by simp; omega) hne, World.frozen?_alloc_past _ _ _ (by simp; omega), World.frozen?_alloc_past _ _ _ (by omega), frozen_of_row w1 _ 3 _ _ HX1.out]))
                   have HP := Lib.hid (parts_push (T := 32) HM.out (by omega) (Nat.lt_succ_self _) HH.out.2.1 HV.out.1 HV.out.2.1 hgrow hown2 hat))
      go_roundw
      case rel =>
        exact ⟨j + 1, es ++ [t], _, n1, rfl, by go_num, by omega, hn3.1, hn3.2, by simpa [Making] using HP.out.1, (HP.out.2.2.1 _ (by omega) (by omega)).trans HH.out.1, HP.out.2.1, HH.out.2.2.trans (HP.out.2.2.2.mono (by omega)), Lib.hid HV.out.2.2⟩
      case measure => exact mz_lt hnn hn3.2 hpb
    · have hend : n = -1 ∨ j = N0 := by omega
      have c0 : ∀ o, wr.cell? ⟨w.heap.size + 1, o, none⟩ = (#[.int .i64 (k : Nat), .int .u64 0, .int .u64 0, .slice sa es.length sc] : Array Value)[o]? := fun o => cell_of_row wr _ o _ _ _ hh1
      have HE := Lib.hid (LoopSt.ends hst.out hjm hend k 0 0)
      have HREP := Lib.hid (rep_of_making2 (S := fun b => w.heap.size + 1 ≤ b) (k := (k : Nat)) (A := 0) (B := 0) ⟨ys, HM.out.1, HM.out.2⟩ (Keeps.refl _ _) (fun b h => by omega) (by omega) (by omega) (by omega) (by omega))
      clear hh0 hh1 hown hey hbel hst
      have l0 : w.heap.size + 1 < wr.heap.size := hs2
      go_wp2_with (refine wpList_store_row rfl 32 (.tmp 6) (.tmp 109) rfl rfl w.heap.size rfl _ rfl 32 #[.int .i64 0, .int .u64 0, .int .u64 0, .slice none 0 0] HH.out.1 (by kernel_rfl) rfl (by simp [Value.oneCell']) ?_)
      all_goals first
        | (exfalso; omega)
        | (refine bodyPost_ret (v := .tuple #[.agg #[.int .i64 (k : Nat), .int .u64 0, .int .u64 0, .slice sa es.length sc], .int .i64 n]) (results_row2 rfl _ _ w.heap.size 32 _ _ _ _ rfl (setRow_heap _ _ _ _ _ _ HH.out.1) Tryz.underlying32 rfl (by kernel_rfl) rfl) rfl ?_
           exact ⟨.mk k 0 0 es, _, n, rfl, RepE.keep (Keeps.of_row (Nat.lt_succ_self _)) (fun _ _ h => Nat.le_of_succ_le h) HREP.out, below_setRow HH.out.2.2 _ _ (Nat.le_refl _), by rw [HFIN.out]; exact HE.out⟩)
theorem refTake_at (d : Nat) : ∀ (S : Nat → Prop) (own : Bool) (b : List UInt8) (v : Value) (q : Nat) (w : World), d ≤ 100 → b.length ≤ 100000 → q ≤ b.length → RepB w S own b v →
    Calls Tryz.prog 57 #[v, .int .i64 q, .int .i64 d] w (TkEnds b (tkE d (b.drop q)) w) := by
  induction d with
  | zero => intro S own b v q w _ hb hq hr; exact tkRef_none 0 q S own b v w hr hq hb _ rfl (Or.inl rfl)
  | succ d ih =>
    intro S own b v q w hd hb hq hr
    have IH : Hid (∀ (S : Nat → Prop) (own : Bool) (b : List UInt8) (v : Value) (q : Nat) (w : World), b.length ≤ 100000 → q ≤ b.length → RepB w S own b v → Calls Tryz.prog 57 #[v, .int .i64 q, .int .i64 d] w (TkEnds b (tkE d (b.drop q)) w)) := Lib.hid fun S own b v q w h1 h2 h3 => ih S own b v q w (by omega) h1 h2 h3
    by_cases hql : q = b.length
    · exact tkRef_none (d + 1) q S own b v w hr hq hb _ (by rw [hql, List.drop_length]; rfl) (Or.inr (Or.inl hql))
    have hlt : q < b.length := by omega
    by_cases hk : 1 ≤ at8 b q ∧ at8 b q ≤ 7
    · rw [tkNext_eq hlt hk.1 hk.2]
      have e : (((d + 1 : Nat) : Int)) = (d : Int) + 1 := by omega
      rw [e]
      by_cases k1 : at8 b q ≤ 1
      · exact tkRef_A d (by omega) IH S own b v q w hr hlt hb hk.1 k1
      by_cases k3 : at8 b q ≤ 3
      · exact tkRef_B d (by omega) IH S own b v q w hr hlt hb (by omega) k3
      by_cases k4 : at8 b q ≤ 4
      · exact tkRef_C d (by omega) IH S own b v q w hr hlt hb (by omega) k4
      by_cases k5 : at8 b q ≤ 5
      · exact tkRef_D d (by omega) IH S own b v q w hr hlt hb (by omega) k5
      · exact tkRef_E d (by omega) IH S own b v q w hr hlt hb (by omega) hk.2
    · refine tkRef_none (d + 1) q S own b v w hr hq hb _ ?_ (Or.inr (Or.inr ⟨hlt, by omega⟩))
      rw [at8_eq b q hlt] at hk
      rw [List.drop_eq_getElem_cons hlt, tkE, if_neg hk]
end Go.Proofs.YtohjkejdkhdjbaaGreatDoor
