/- Walks. -/
import Derived.Test.YtlpgokcapdjgjaaGreatDoorY23
set_option maxHeartbeats 8000000
set_option maxRecDepth 100000
namespace Go.Proofs.YtlpgokcapdjgjaaGreatDoor
open Go.RowKit Go
set_option linter.unusedVariables false
set_option linter.unusedSimpArgs false
def Rec.tailP (r : Rec) : List UInt8 :=
 if r.k = 2 then bC [r.x, r.w, r.n] else if r.k = 3 then bC [r.x, r.v] else if r.k = 4 then bC [r.x]
 else if r.k = 5 then bC [r.p.put.length] ++ (r.p.put ++ (bC [r.es.length] ++ gV r.es)) else []
theorem jr (a : Nat) (b : List Nat) : bC (a :: b) = bC [a] ++ bC b := by simp [bC]
theorem yw (r : Rec) : r.body = bC [r.t] ++ r.tailP := by
 unfold Rec.body Rec.tailP
 split
 ·rw [jr]
 split
 ·rw [jr]
 split
 ·rw [jr]
 split
 ·rw [jr, List.append_assoc]
 ·simp
def Ff (k fid : Nat) : Prop := ∀ (own : Bool) (r : Rec) (k0 : Int) (k1 k2 : Nat) (k3 : Option Addr) (k4 k5 : Nat) (k6 : Option Addr) (n6 k7 wb : Nat) (sv : Value) (l : List UInt8) (w : World), n6 = r.es.length → r.k = (k : Int) → r.p.size ≤ 900 → r.es.length ≤ 10000 → r.nums →
 ax w (fun b => b < wb) own r.p (.agg #[.int .i64 k0, .int .u64 k1, .int .u64 k2, .slice k3 k4 k5]) → eX w (fun b => b < wb) own r.es (.slice k6 n6 k7) → Wr 192 5 w wb sv l → l.length ≤ 1000 →
 Calls Tryz.prog fid #[.pointer (some ⟨wb, 0, none⟩), .agg #[.int .i64 r.k, .int .u64 r.t, .int .u64 r.x, .int .u64 r.w, .int .u64 r.n, .int .u64 r.v, .int .i64 k0, .int .u64 k1, .int .u64 k2, .slice k3 k4 k5, .slice k6 n6 k7]] w (Wg 192 5 w wb sv (l ++ r.tailP) (.tuple #[]))
theorem tu (k : Nat) (hk : k = 1 ∨ k = 6 ∨ k = 7) : Ff k 99 := by
 intro own r k0 k1 k2 k3 k4 k5 k6 n6 k7 wb sv l w hn6 hk hsz hle hnums he hes hw hl
 have hb0 : Below w.heap.size w (w.alloc (.cells #[.int .i64 r.k, .int .u64 r.t, .int .u64 r.x, .int .u64 r.w, .int .u64 r.n, .int .u64 r.v, .int .i64 k0, .int .u64 k1, .int .u64 k2, .slice k3 k4 k5, .slice k6 n6 k7] 73)) := br.alloc nl _
 have hlt := hw.lt
 have ht : r.tailP = [] := by unfold Rec.tailP; rw [if_neg (by omega), if_neg (by omega), if_neg (by omega), if_neg (by omega)]
 rw [ht, List.append_nil]
 have HW := hid (And.intro (hw.below hb0) (Wrote.of_below (wb := wb) (sv := sv) hb0))
 clear he hes hw hb0 ht
 clear hk hn6
 go_enter Tryz.func99, Tryz.ntmps99
 go_wp2_with fail
 go_end0
 exact ⟨rfl, sv, HW.out.1, HW.out.2⟩
structure PrZ (W : World) (rb wb : Nat) (sv svi : Value) (li : List UInt8) (row : Array Value) (TR : TypeId) (w : World) : Prop where
 wr : Wr 192 5 w wb svi li
 wt : Wrote wb sv svi W w
 lt : wb < W.heap.size ∧ rb < w.heap.size ∧ rb ≠ wb ∧ svi.ownBlock ≠ some rb
 box : w.heap[rb]? = some (.cells row TR (0, 0))
theorem PrZ.below {W w w' : World} {rb wb : Nat} {sv svi : Value} {li : List UInt8} {row : Array Value} {TR : TypeId} (h : PrZ W rb wb sv svi li row TR w) (hb : Below w.heap.size w w') : PrZ W rb wb sv svi li row TR w' :=
 ⟨h.wr.below hb, h.wt.trans (Wrote.of_below hb), ⟨h.lt.1, by have := h.lt.2.1; have := hb.size; omega, h.lt.2.2.1, h.lt.2.2.2⟩, (hb.block _ h.lt.2.1).trans h.box⟩
theorem PrZ.step {W w w' : World} {rb wb : Nat} {sv svi svj : Value} {li lj : List UInt8} {row : Array Value} {TR : TypeId} (h : PrZ W rb wb sv svi li row TR w) (hw : Wr 192 5 w' wb svj lj) (ht : Wrote wb svi svj w w') : PrZ W rb wb sv svj lj row TR w' := by
 have hl := h.lt
 refine ⟨hw, h.wt.trans ht, ⟨hl.1, by have := ht.size; omega, hl.2.2.1, ?_⟩, (ht.keep _ hl.2.1 hl.2.2.1 hl.2.2.2).trans h.box⟩
 rcases ht.row with h2 | ⟨k, h2, h3⟩
 ·rw [h2]; exact hl.2.2.2
 ·intro e; rw [e] at h2; injection h2 with h2; omega
theorem PrZ.cell {W w : World} {rb wb : Nat} {sv svi : Value} {li : List UInt8} {row : Array Value} {TR : TypeId} (h : PrZ W rb wb sv svi li row TR w) (o : Nat) : w.cell? ⟨rb, o, none⟩ = row[o]? := cell_of_row w _ o _ _ _ h.box
def uV (r : Rec) (w : World) (e : Ending) (w' : World) : Prop :=
 (r.right = true → ∃ bv, e = .returned (.tuple #[.agg #[.int .u8 r.k, bv], .int .i64 0]) ∧ aF w' (fun b => w.heap.size ≤ b) true r.body bv) ∧ (r.right = false → e = .returned (.tuple #[.agg #[.int .u8 0, .slice none 0 0], .int .i64 50])) ∧ Below w.heap.size w w'
def PuZ (W : World) (rb wb : Nat) (sv : Value) (l m : List UInt8) (row : Array Value) (TR : TypeId) (t : Nat) (vs : Nat → Value) (w : World) : Prop := ∃ svi, PrZ W rb wb sv svi (if t = 0 then l else l ++ m) row TR w
theorem PuZ.at {W : World} {rb wb : Nat} {sv : Value} {l m : List UInt8} {row : Array Value} {TR : TypeId} {t : Nat} {vs : Nat → Value} {w : World} (h : PuZ W rb wb sv l m row TR t vs w) (o : Nat) : w.cell? ⟨rb, o, none⟩ = row[o]? := by
 obtain ⟨svi, h1⟩ := h
 exact h1.cell o
theorem PuZ.below {W : World} {rb wb : Nat} {sv : Value} {l m : List UInt8} {row : Array Value} {TR : TypeId} {t : Nat} {vs : Nat → Value} {w w' : World} (h : PuZ W rb wb sv l m row TR t vs w) (hb : Below w.heap.size w w') : PuZ W rb wb sv l m row TR t vs w' := by
 obtain ⟨svi, h1⟩ := h
 exact ⟨svi, h1.below hb⟩
theorem ax.keepPr {W w : World} {rb wb : Nat} {sv svi : Value} {li : List UInt8} {row : Array Value} {TR : TypeId} {own : Bool} {e : Ex} {v : Value} (h : ax W (fun b => b < wb) own e v) (hw : Wr 192 5 W wb sv li) {lj : List UInt8} (hp : PrZ W rb wb sv svi lj row TR w) : ax w (fun b => b < wb) own e v :=
 ax.keep (fun b hb _ => (hp.wt.below hw).block b hb) (fun _ _ h => h) h
theorem eX.keepPr {W w : World} {rb wb : Nat} {sv svi : Value} {li : List UInt8} {row : Array Value} {TR : TypeId} {own : Bool} {es : List Ent} {v : Value} (h : eX W (fun b => b < wb) own es v) (hw : Wr 192 5 W wb sv li) {lj : List UInt8} (hp : PrZ W rb wb sv svi lj row TR w) : eX w (fun b => b < wb) own es v :=
 eX.keep h (fun b hb _ => (hp.wt.below hw).block b hb) (fun _ _ h => h)
structure PfZ (W : World) (fb : Nat) (lm : List UInt8) (k : Int) (TF : TypeId) (t : Nat) (vs : Nat → Value) (w : World) : Prop where
 rg : Rg fb W w
 lt : fb < W.heap.size
 z0 : t = 0 → Below W.heap.size W w
 by1 : 1 ≤ t → aF w (fun b => W.heap.size ≤ b) true lm (vs 3)
 fr : w.heap[fb]? = some (.cells (if t ≤ 1 then #[.int .u8 0, .slice none 0 0] else #[.int .u8 k, vs 3]) TF (0, 0))
theorem PfZ.bytes {W : World} {fb : Nat} {lm : List UInt8} {k : Int} {TF TB : TypeId} {vs : Nat → Value} {w w' : World} {bv : Value} (h : PfZ W fb lm k TF 0 vs w) (ho : w'.ownsRow w.heap.size TB 1 bv lm.length (bytes lm)) (hb : Below w.heap.size w w') : PfZ W fb lm k TF 1 (upd vs 3 bv) w' := by
 have hs := (h.z0 rfl).size
 refine ⟨h.rg.trans (Rg.of_below hb), h.lt, (fun h => by omega), fun _ => ?_, (hb.block _ (Array.getElem?_eq_some_iff.1 h.fr).1).trans h.fr⟩
 rw [upd_self]
 exact Sl.keep (aF.of_owns ho) (by omega) (fun _ _ _ => rfl) (fun b _ hb => by have := hb.2; omega)
theorem PfZ.store {W : World} {fb : Nat} {lm : List UInt8} {k : Int} {TF : TypeId} {vs : Nat → Value} {w : World} {i : Nat} {u bv : Value} (h : PfZ W fb lm k TF 1 vs w) (hbv : vs 3 = bv) (hi : i ≠ 3 := by omega) : PfZ W fb lm k TF 2 (upd vs i u) ((w.setCell ⟨fb, 0, none⟩ (.int .u8 k)).setCell ⟨fb, 1, none⟩ bv) := by
 refine ⟨(h.rg.setCell _ _).setCell _ _, h.lt, (fun h => by omega), fun _ => ?_, ?_⟩
 ·rw [upd_ne _ _ (fun e => hi e.symm)]
  have hl := h.lt
  exact Sl.keep (h.by1 (by omega)) (by omega) (fun b hb _ => (Below.heap_setCell _ _ _ _ (by simp; omega)).trans (Below.heap_setCell _ _ _ _ (by simp; omega))) (fun _ _ h => h)
 ·rw [if_neg (by omega), upd_ne _ _ (fun e => hi e.symm), hbv]
  exact ae (ae h.fr rfl) rfl
theorem Cn (r : Rec) (hsz : r.p.size ≤ 900) (hle : r.es.length ≤ 10000) : r.body.length ≤ 140737488355328 := by
 have h1 := bA [r.t, r.x, r.w, r.n]
 have h2 := bA [r.t, r.x, r.v]
 have h3 := bA [r.t, r.x]
 have h4 := bA [r.t, r.p.put.length]
 have h5 := bA [r.es.length]
 have h6 := jR r.es
 have h7 := bA [r.t]
 have hpl : r.p.put.length ≤ 992 := by
  by_cases h : r.p.right = true
  ·exact rC h
  ·simp [Ex.put, h]
 unfold Rec.body
 repeat' split
 all_goals simp only [List.length_append, List.length_cons, List.length_nil] at *
 all_goals omega
theorem yx (S : Nat → Prop) (own : Bool) (r : Rec) (hPK : ∀ k : Nat, r.k = (k : Int) → 1 ≤ k → k ≤ 7 → ∃ fid, Enters fid ∧ Ff k fid ∧ ∀ w, (Instr.field 150 (.agg (aA k)) 2).run Tryz.prog w = .ok (.func (.func fid) #[] #[]) w) (v : Value) (w : World) (hsz : r.p.size ≤ 900) (hle : r.es.length ≤ 10000) (hv : aI w S own r v) :
  Calls Tryz.prog 43 #[v] w (uV r w) := by
 obtain ⟨k0, k1, k2, k3, k4, k5, k6, k7, rfl, hk1, hk2, hnums, he, hes⟩ := hv.conc
 obtain ⟨n6, hn6⟩ : ∃ n6, n6 = r.es.length := ⟨_, rfl⟩
 have HPK := hid hPK
 clear hPK
 rw [← hn6] at hes hv hle ⊢
 have hbA : Below w.heap.size w ((w.alloc (.cells #[.int .i64 r.k, .int .u64 r.t, .int .u64 r.x, .int .u64 r.w, .int .u64 r.n, .int .u64 r.v, .int .i64 k0, .int .u64 k1, .int .u64 k2, .slice k3 k4 k5, .slice k6 n6 k7] 73)).alloc (.cells #[.int .u8 0, .slice none 0 0] 105)) := (br.alloc nl _).alloc (by simp) _
 have HN := hid (And.intro hn6 (And.intro hnums (And.intro he (And.intro hes hv))))
 have HBA := hid hbA
 clear hn6 hnums he hes hv hbA
 go_enter Tryz.func43, Tryz.ntmps43
 go_wp2_with fail
 refine (uU S own r _ _ hsz (HN.out.2.2.2.2.below HBA.out nl)).mono ?_
 rintro e w1 ⟨rfl, hb1⟩
 have hz1 := hb1.size
 simp only [World.size_alloc] at hz1
 have hrb : w1.heap[w.heap.size]? = some (.cells #[.int .i64 r.k, .int .u64 r.t, .int .u64 r.x, .int .u64 r.w, .int .u64 r.n, .int .u64 r.v, .int .i64 k0, .int .u64 k1, .int .u64 k2, .slice k3 k4 k5, .slice k6 n6 k7] 73 (0, 0)) := (hb1.block _ (by simp; omega)).trans (heap_alloc2_old _ _ _)
 have hfb : w1.heap[w.heap.size + 1]? = some (.cells #[.int .u8 0, .slice none 0 0] 105 (0, 0)) := (hb1.block _ (by simp)).trans (aa _ _ _ (by simp))
 have hB1 : Below w.heap.size w w1 := HBA.out.trans (hb1.mono (by simp; omega))
 cases hr : r.right with
 | false =>
  have HQ := hid (And.intro hfb (And.intro hB1 hr))
  clear hb1 hrb hfb hB1 hr
  go_wp2_with (refine wpList_store_row rfl 105 (.tmp 2) (.tmp 8) rfl rfl (w.heap.size + 1) rfl _ rfl 105 _ HQ.out.1 (by kernel_rfl) rfl (by simp [Value.oneCell']) ?_)
  exact bodyPost_ret (v := .tuple #[.agg #[.int .u8 0, .slice none 0 0], .int .i64 50]) (ag rfl _ _ (w.heap.size + 1) 105 _ _ _ _ rfl (setRow_heap _ _ _ _ _ _ HQ.out.1) Tryz.underlying105 rfl (by kernel_rfl) rfl) rfl ⟨(fun h => by rw [HQ.out.2.2] at h; cases h), fun _ => rfl, below_setRow HQ.out.2.1 _ _ (by omega)⟩
 | true =>
  obtain ⟨hr1, hr7, _, _⟩ := (Rec.right_iff r).1 hr
  obtain ⟨k, hk⟩ := Int.eq_ofNat_of_zero_le (show 0 ≤ r.k by omega)
  have HQ := hid (And.intro hrb (And.intro hfb (And.intro hB1 (And.intro hr hk))))
  have b1 : w1.cell? ⟨w.heap.size, 1, none⟩ = some (.int .u64 r.t) := by rw [cell_of_row w1 _ 1 _ _ _ hrb]; rfl
  clear hb1 hrb hfb hB1 hr hk
  have hl1 : w.heap.size + 2 ≤ w1.heap.size := by omega
  have hl2 : w.heap.size < w1.heap.size := by omega
  have hl3 : w.heap.size + 1 < w1.heap.size := by omega
  go_wp2_with fail
  obtain ⟨W3, hW3⟩ : ∃ W3, W3 = w1.alloc (.cells #[.slice none 0 0] 192) := ⟨_, rfl⟩
  obtain ⟨wb, hwb⟩ : ∃ wb, wb = w1.heap.size := ⟨_, rfl⟩
  have hw3 : Wr 192 5 W3 wb (.slice none 0 0) [] := by rw [hW3, hwb]; exact ⟨heap_alloc_new _ _, World.ownsRow_nil _ _ _ _⟩
  have hz3 : W3.heap.size = wb + 1 := by rw [hW3, hwb]; simp
  have hb3 : Below w1.heap.size w1 W3 := by rw [hW3]; exact br.alloc nl _
  rw [← hW3, ← hwb]
  have hB3 : Below w.heap.size w W3 := HQ.out.2.2.1.trans (hb3.mono (by omega))
  have hrb3 : W3.heap[w.heap.size]? = some (.cells #[.int .i64 r.k, .int .u64 r.t, .int .u64 r.x, .int .u64 r.w, .int .u64 r.n, .int .u64 r.v, .int .i64 k0, .int .u64 k1, .int .u64 k2, .slice k3 k4 k5, .slice k6 n6 k7] 73 (0, 0)) := (hb3.block _ (by omega)).trans HQ.out.1
  have hfb3 : W3.heap[w.heap.size + 1]? = some (.cells #[.int .u8 0, .slice none 0 0] 105 (0, 0)) := (hb3.block _ (by omega)).trans HQ.out.2.1
  have hb4 : Below W3.heap.size W3 (W3.alloc (.cells #[.int .u64 (r.t : Nat)] 57)) := br.alloc nl _
  have hp3 : PrZ W3 w.heap.size wb (.slice none 0 0) (.slice none 0 0) [] #[.int .i64 r.k, .int .u64 r.t, .int .u64 r.x, .int .u64 r.w, .int .u64 r.n, .int .u64 r.v, .int .i64 k0, .int .u64 k1, .int .u64 k2, .slice k3 k4 k5, .slice k6 n6 k7] 73 W3 := ⟨hw3, Wrote.refl _ _ _, ⟨by omega, by omega, by omega, by simp [Value.ownBlock]⟩, hrb3⟩
  have he3 : ax W3 (fun b => b < wb) own r.p (.agg #[.int .i64 k0, .int .u64 k1, .int .u64 k2, .slice k3 k4 k5]) := ax.keep (w := w) (S := S) (S' := fun b => b < wb) (Below.keeps hB3 nl S) (fun b hb _ => by omega) HN.out.2.2.1
  have hes3 : eX W3 (fun b => b < wb) own r.es (.slice k6 n6 k7) := eX.keep (w := w) (S := S) (S' := fun b => b < wb) HN.out.2.2.2.1 (Below.keeps hB3 nl S) (fun b hb _ => by omega)
  have HW3 := hid (And.intro hw3 (And.intro he3 (And.intro hes3 (And.intro hfb3 (And.intro hB3 hz3)))))
  have HP4 := hid (hp3.below hb4)
  have ht64 : r.t < 18446744073709551616 := HN.out.2.1.1
  have hlw : w.heap.size + 2 ≤ wb := by omega
  have HWB := hid hwb
  clear b1 hW3 hw3 hb3 hB3 hrb3 hfb3 hp3 he3 hes3 hb4 hwb
  have hsl : Sl (W3.alloc (.cells #[.int .u64 (r.t : Nat)] 57)) (fun b => b ≠ wb ∧ (Value.slice none 0 0).ownBlock ≠ some b) true 1 [r.t].length (nums [r.t]) (.slice (some ⟨W3.heap.size, 0, none⟩) 1 1) := Ed W3 _ #[.int .u64 (r.t : Nat)] 57 1 1 (by simp) (by omega) ⟨by omega, by simp [Value.ownBlock]⟩ (by omega)
  have hns : ∀ n ∈ [r.t], n < 18446744073709551616 := by intro n hn; simp at hn; omega
  rw [hz3] at hsl
  have HN4 := hid (lS true wb (.slice none 0 0) [] [r.t] (.slice (some ⟨wb + 1, 0, none⟩) 1 1) (W3.alloc (.cells #[.int .u64 (r.t : Nat)] 57)) HP4.out.wr hsl hns (by simp))
  clear hsl hns
  refine HN4.out.mono ?_
  rintro e w5 ⟨rfl, sv5, hw5, ht5⟩
  have hp5 := HP4.out.step hw5 ht5
  obtain ⟨L, hL⟩ : ∃ L, L = bC [r.t] := ⟨_, rfl⟩
  have hLl : L.length ≤ 1000 := by have := bA [r.t]; rw [hL]; simp at this ⊢; omega
  obtain ⟨M, hM⟩ : ∃ M, M = r.tailP := ⟨_, rfl⟩
  have hbody : r.body = L ++ M := by rw [hL, hM]; exact yw r
  simp only [List.nil_append] at hp5
  rw [← hL] at hp5
  obtain ⟨k, hk⟩ : ∃ k : Nat, r.k = (k : Int) := ⟨k, HQ.out.2.2.2.2⟩
  have HBD := hid (And.intro hbody (And.intro hM (And.intro hLl hk)))
  have HP5 := hid hp5
  clear hw5 ht5 hp5 hL hM hLl hbody
  have hkk : 1 ≤ k ∧ k ≤ 7 := by omega
  obtain ⟨fid, hf2, hf3, hf1⟩ := HPK.out k hk hkk.1 hkk.2
  clear hk
  have hKI := pX k hkk.2
  have hKA : ∀ W : World, Calls Tryz.prog 60 #[] W fun e w' => e = .returned gJ ∧ Below W.heap.size W w' := fun W => jg W
  obtain ⟨T, hT⟩ : ∃ T, T = gJ := ⟨_, rfl⟩
  rw [← hT] at hKI hKA
  have HKI := hid hKI
  have HKK := hid hKA
  have HFI := hid hf1
  have HF := hid (And.intro hf2 hf3)
  clear hT hKI hKA hf1 hf2 hf3
  go_wp2_with fail
  have hZ0 : PuZ W3 w.heap.size wb (.slice none 0 0) L M #[.int .i64 r.k, .int .u64 r.t, .int .u64 r.x, .int .u64 r.w, .int .u64 r.n, .int .u64 r.v, .int .i64 k0, .int .u64 k1, .int .u64 k2, .slice k3 k4 k5, .slice k6 n6 k7] 73 0 (fun _ => undef) w5.drew := ⟨_, HP5.out.below br.drew⟩
  have HZ0 := hid hZ0
  clear hZ0
  refine aD (w0 := w5) rfl [.eq (T), .eq (.pointer (some ⟨w.heap.size, 0, none⟩)), .eq (.int .i64 r.k), .eq (.agg (aA k)), .eq (.func (.func fid) #[] #[]), .eq (.agg #[.int .i64 r.k, .int .u64 r.t, .int .u64 r.x, .int .u64 r.w, .int .u64 r.n, .int .u64 r.v, .int .i64 k0, .int .u64 k1, .int .u64 k2, .slice k3 k4 k5, .slice k6 n6 k7]), .weq (.tuple #[])] (PuZ W3 w.heap.size wb (.slice none 0 0) L M #[.int .i64 r.k, .int .u64 r.t, .int .u64 r.x, .int .u64 r.w, .int .u64 r.n, .int .u64 r.v, .int .i64 k0, .int .u64 k1, .int .u64 k2, .slice k3 k4 k5, .slice k6 n6 k7] 73) (by kernel_rfl) (⟨fun _ => undef, HZ0.out⟩) ⟨?_, ?_, ?_, ?_, ?_, ?_, ?_, trivial⟩ (fun vs => [(13, T), (14, .pointer (some ⟨w.heap.size, 0, none⟩)), (15, .int .i64 r.k), (16, .agg (aA k)), (17, .func (.func fid) #[] #[]), (18, .agg #[.int .i64 r.k, .int .u64 r.t, .int .u64 r.x, .int .u64 r.w, .int .u64 r.n, .int .u64 r.v, .int .i64 k0, .int .u64 k1, .int .u64 k2, .slice k3 k4 k5, .slice k6 n6 k7]), (19, .tuple #[])]) (fun _ => rfl) 1 (by kernel_rfl) ?_
  ·refine cp fun t vs ac wx K Q hR hZ hK => ?_
   go_simp
   go_at_call 60
   refine (HKK.out _).mono ?_
   rintro e w' ⟨rfl, hbx⟩
   exact hK _ (hZ.below hbx)
  ·refine cp fun t vs ac wx K Q hR hZ hK => ?_
   have t1 : ac.tmps[1]? = some (.pointer (some ⟨w.heap.size, 0, none⟩)) := hR.o 1
   go_simp
   exact hK _ hZ
  ·refine cp fun t vs ac wx K Q hR hZ hK => ?_
   have t14 := hR.q 1
   have y0 := hZ.at 0
   go_simp
   exact hK _ hZ
  ·refine cp fun t vs ac wx K Q hR hZ hK => ?_
   have t13 := hR.q 0
   have t15 := hR.q 2
   have hi := HKI.out wx
   rw [HBD.out.2.2.2] at t15
   go_simp
   exact hK _ hZ
  ·refine cp fun t vs ac wx K Q hR hZ hK => ?_
   have t16 := hR.q 3
   have hi := HFI.out wx
   go_simp
   exact hK _ hZ
  ·refine cp fun t vs ac wx K Q hR hZ hK => ?_
   have t1 : ac.tmps[1]? = some (.pointer (some ⟨w.heap.size, 0, none⟩)) := hR.o 1
   have y0 := hZ.at 0
   have y1 := hZ.at 1
   have y2 := hZ.at 2
   have y3 := hZ.at 3
   have y4 := hZ.at 4
   have y5 := hZ.at 5
   have y6 := hZ.at 6
   have y7 := hZ.at 7
   have y8 := hZ.at 8
   have y9 := hZ.at 9
   have y10 := hZ.at 10
   go_simp
   exact hK _ hZ
  ·refine cw fun vs ac wx K Q hR hZ hK => ?_
   have t17 := hR.q 4
   have t4 : ac.tmps[4]? = some (.pointer (some ⟨wb, 0, none⟩)) := hR.o 4
   have t18 := hR.q 5
   have hcall := HF.out.1
   unfold Enters at hcall
   obtain ⟨svi, hZ1⟩ := hZ
   replace hZ1 : PrZ W3 w.heap.size wb (.slice none 0 0) svi L _ 73 wx := hZ1
   go_simp
   refine (HF.out.2 own r k0 k1 k2 k3 k4 k5 k6 n6 k7 wb svi L wx HN.out.1 HBD.out.2.2.2 hsz (by have := HN.out.1; omega) HN.out.2.1 (HW3.out.2.1.keepPr HW3.out.1 hZ1) (HW3.out.2.2.1.keepPr HW3.out.1 hZ1) hZ1.wr HBD.out.2.2.1).mono ?_
   rintro e w' ⟨rfl, svj, hwj, htj⟩
   rw [← HBD.out.2.1] at hwj
   exact hK _ _ bf ⟨svj, hZ1.step hwj htj⟩
  intro vs W6 hZ
  obtain ⟨svW, hZ6⟩ := hZ
  replace hZ6 : PrZ W3 w.heap.size wb (.slice none 0 0) svW (L ++ M) #[.int .i64 r.k, .int .u64 r.t, .int .u64 r.x, .int .u64 r.w, .int .u64 r.n, .int .u64 r.v, .int .i64 k0, .int .u64 k1, .int .u64 k2, .slice k3 k4 k5, .slice k6 n6 k7] 73 W6 := hZ6
  simp only [aH, List.foldl_cons, List.foldl_nil]
  obtain ⟨LM, hLM⟩ : ∃ LM, LM = L ++ M := ⟨_, rfl⟩
  have hLMl : LM.length ≤ 140737488355328 := by rw [hLM, ← HBD.out.1]; exact Cn r hsz (by have := HN.out.1; omega)
  rw [← hLM] at hZ6
  have hfb6 : W6.heap[w.heap.size + 1]? = some (.cells #[.int .u8 0, .slice none 0 0] 105 (0, 0)) := (hZ6.wt.keep _ (by omega) (by omega) (by simp [Value.ownBlock])).trans HW3.out.2.2.2.1
  have hB6 : Below w.heap.size w W6 := HW3.out.2.2.2.2.1.trans ((hZ6.wt.below HW3.out.1).mono (by omega))
  have b60 : W6.cell? ⟨w.heap.size, 0, none⟩ = some (.int .i64 r.k) := hZ6.cell 0
  have l6 := hZ6.lt.2.1
  have l61 : w.heap.size + 1 < W6.heap.size := (Array.getElem?_eq_some_iff.1 hfb6).1
  have q8 : IntKind.u8.wrap r.k = r.k := by unfold IntKind.wrap; simp [IntKind.signed, IntKind.bits]; omega
  have HQ8 := hid q8
  have HLM := hid (And.intro hLMl hLM)
  have HW6 := hid hZ6.wr
  have HB6 := hid (And.intro hB6 b60)
  have hZ1 : PfZ W6 (w.heap.size + 1) LM r.k 105 0 (fun _ => undef) W6.drew := ⟨Rg.of_below br.drew, l61, fun _ => br.drew, (fun h => by omega), hfb6⟩
  have HZ1 := hid hZ1
  clear hZ6 hfb6 hB6 b60 q8 hLM hLMl hZ1
  go_simp
  go_wp2_with fail
  refine aD (w0 := W6) rfl [.eq (.pointer (some ⟨w.heap.size, 0, none⟩)), .eq (.int .i64 r.k), .eq (.int .u8 r.k), .wr, .fn 3 (fun v => .agg #[.int .u8 r.k, v]), .wr, .eq ((Value.int IntKind.i64 0))] (PfZ W6 (w.heap.size + 1) LM r.k 105) (by kernel_rfl) (⟨fun _ => undef, HZ1.out⟩) ⟨?_, ?_, ?_, ?_, ?_, ?_, ?_, trivial⟩ (fun vs => [(20, .pointer (some ⟨w.heap.size, 0, none⟩)), (21, .int .i64 r.k), (22, .int .u8 r.k), (23, vs 3), (24, .agg #[.int .u8 r.k, vs 3]), (3, (Value.int IntKind.i64 0))]) (fun _ => rfl) 2 (by kernel_rfl) ?_
  ·refine cp fun t vs ac wx K Q hR hZ hK => ?_
   have t1 : ac.tmps[1]? = some (.pointer (some ⟨w.heap.size, 0, none⟩)) := hR.o 1
   go_simp
   exact hK _ hZ
  ·refine cp fun t vs ac wx K Q hR hZ hK => ?_
   have t20 := hR.q 0
   have y0 := hZ.rg.cell HB6.out.2 (by omega)
   go_simp
   exact hK _ hZ
  ·refine cp fun t vs ac wx K Q hR hZ hK => ?_
   have t21 := hR.q 1
   have q8 := HQ8.out
   go_simp
   (try go_ints)
   exact hK _ hZ
  ·refine cw fun vs ac wx K Q hR hZ hK => ?_
   have t4 : ac.tmps[4]? = some (.pointer (some ⟨wb, 0, none⟩)) := hR.o 4
   go_simp
   go_at_call 84
   refine (nJ wb svW LM wx (HW6.out.below (hZ.z0 rfl)) HLM.out.1).mono ?_
   rintro e w' ⟨bv, rfl, hown, hbx⟩
   exact hK _ _ nofun (hZ.bytes hown hbx)
  ·refine cp fun t vs ac wx K Q hR hZ hK => ?_
   have t22 := hR.q 2
   have t23 := hR.w 3
   obtain ⟨_, bad, bcap, ev, _⟩ := (hZ.by1 (by have h : 0 < t := hR.lo 3 .wr rfl rfl (by kernel_rfl); omega)).shape
   have hk := hK wx hZ
   change K (ac.put _ (.agg #[.int .u8 r.k, vs 3])) wx at hk
   rw [ev] at t23 hk
   clear ev
   go_simp
   exact hk
  ·refine cw fun vs ac wx K Q hR hZ hK => ?_
   have t2 : ac.tmps[2]? = some (.pointer (some ⟨w.heap.size + 1, 0, none⟩)) := hR.o 2
   have t24 := hR.fn 4 (by kernel_rfl) rfl rfl
   have hh := hZ.fr
   obtain ⟨_, bad, bcap, ev, _⟩ := (hZ.by1 (by omega)).shape
   rw [ev] at t24
   have f0 : wx.frozen? ⟨w.heap.size + 1, 0, none⟩ = false := by rw [frozen_of_row wx _ 0 _ _ hh]
   have f1 : wx.frozen? ⟨w.heap.size + 1, 1, none⟩ = false := by rw [frozen_of_row wx _ 1 _ _ hh]
   have c0 : wx.cell? ⟨w.heap.size + 1, 0, none⟩ = some (.int .u8 0) := by rw [cell_of_row wx _ 0 _ _ _ hh]; rfl
   have c1 : wx.cell? ⟨w.heap.size + 1, 1, none⟩ = some (.slice none 0 0) := by rw [cell_of_row wx _ 1 _ _ _ hh]; rfl
   have HEV := hid ev
   clear ev
   go_simp
   exact hK undef _ nofun (hZ.store HEV.out)
  ·refine cp fun t vs ac wx K Q hR hZ hK => ?_
   go_simp
   exact hK _ hZ
  intro vs wN hZ
  obtain ⟨_, bad, bcap, ev, _⟩ := (hZ.by1 (by omega)).shape
  have hby := hZ.by1 (by omega)
  have hfr := hZ.fr
  rw [ev] at hby hfr
  have HE := hid (And.intro hby (And.intro hfr ((hZ.rg.below (by omega)))))
  simp only [aH, List.foldl_cons, List.foldl_nil]
  rw [ev]
  clear ev hZ hby hfr
  go_simp
  go_wp2_with fail
  have hlg : w.heap.size ≤ W6.heap.size := HB6.out.1.size
  refine bodyPost_ret (v := .tuple #[.agg #[.int .u8 r.k, .slice bad LM.length bcap], .int .i64 0]) (ag rfl _ _ (w.heap.size + 1) 105 _ _ _ _ rfl HE.out.2.1 Tryz.underlying105 rfl (by kernel_rfl) rfl) rfl ⟨fun _ => ⟨_, rfl, ?_⟩, (fun h => by rw [HQ.out.2.2.2.1] at h; cases h), HB6.out.1.trans (HE.out.2.2.mono (by omega))⟩
  have hbd : r.body = LM := by rw [HBD.out.1, HLM.out.2]
  rw [hbd]
  exact Sl.keep HE.out.1 (by omega) (fun _ _ _ => rfl) (fun b _ hb => by omega)
theorem oh (S : Nat → Prop) (own : Bool) (r : Rec) (h16 : r.k = 1 ∨ r.k = 6) (v : Value) (w : World) (hsz : r.p.size ≤ 900) (hle : r.es.length ≤ 10000) (hv : aI w S own r v) :
  Calls Tryz.prog 43 #[v] w (uV r w) := by
 refine yx S own r (fun k hk _ _ => ?_) v w hsz hle hv
 have hc : k = 1 ∨ k = 6 := by omega
 rcases hc with rfl | rfl
 ·exact ⟨99, (fun _ _ => by kernel_rfl), tu 1 (by omega), fun _ => by kernel_rfl⟩
 ·exact ⟨99, (fun _ _ => by kernel_rfl), tu 6 (by omega), fun _ => by kernel_rfl⟩
end Go.Proofs.YtlpgokcapdjgjaaGreatDoor
