/- Walks. -/
import Derived.Test.YtlpgokcapdjgjaaGreatDoorY23
import Derived.Test.YtlpgokcapdjgjaaGreatDoorY70
import Derived.Test.YtlpgokcapdjgjaaGreatDoorY74
set_option maxHeartbeats 8000000
set_option maxRecDepth 100000
namespace Go.Proofs.YtlpgokcapdjgjaaGreatDoor
open Go.RowKit Go
set_option linter.unusedVariables false
set_option linter.unusedSimpArgs false
def Rec.tailP (r : Rec) : List UInt8 :=
 if r.k = 2 then bO [r.x, r.w, r.n] else if r.k = 3 then bO [r.x, r.v] else if r.k = 4 then bO [r.x]
 else if r.k = 5 then bO [r.p.put.length] ++ (r.p.put ++ (bO [r.es.length] ++ gq r.es)) else []
theorem kr (a : Nat) (b : List Nat) : bO (a :: b) = bO [a] ++ bO b := by simp [bO]
theorem Ap (r : Rec) : r.body = bO [r.t] ++ r.tailP := by
 unfold Rec.body Rec.tailP;split
 ·rw [kr]
 split
 ·rw [kr]
 split
 ·rw [kr]
 split
 ·rw [kr, List.append_assoc]
 ·simp
def Hf (k fid : Nat) : Prop := ∀ (own : Bool) (r : Rec) (k0 : Int) (k1 k2 : Nat) (k3 : Option Addr) (k4 k5 : Nat) (k6 : Option Addr) (n6 k7 wb : Nat) (sv : Value) (l : List UInt8) (w : World), n6 = r.es.length → r.k = (k : Int) → r.p.size ≤ 900 → r.es.length ≤ 10000 → r.nums →
 aT w (fun b => b < wb) own r.p (.agg #[.int .i64 k0, .int .u64 k1, .int .u64 k2, .slice k3 k4 k5]) → fQ w (fun b => b < wb) own r.es (.slice k6 n6 k7) → Wr 192 5 w wb sv l → l.length ≤ 1000 →
 Calls Tryz.prog fid #[.pointer (some ⟨wb, 0, none⟩), .agg #[.int .i64 r.k, .int .u64 r.t, .int .u64 r.x, .int .u64 r.w, .int .u64 r.n, .int .u64 r.v, .int .i64 k0, .int .u64 k1, .int .u64 k2, .slice k3 k4 k5, .slice k6 n6 k7]] w (Wg 192 5 w wb sv (l ++ r.tailP) (.tuple #[]))
theorem vG (k : Nat) (hk : k = 1 ∨ k = 6 ∨ k = 7) : Hf k 99 := by
 intro own r k0 k1 k2 k3 k4 k5 k6 n6 k7 wb sv l w hn6 hk hsz hle hnums he hes hw hl;have hb0 : Below w.1.size w (w.alloc (.cells #[.int .i64 r.k, .int .u64 r.t, .int .u64 r.x, .int .u64 r.w, .int .u64 r.n, .int .u64 r.v, .int .i64 k0, .int .u64 k1, .int .u64 k2, .slice k3 k4 k5, .slice k6 n6 k7] 73)) := br.alloc nl _;have hlt := hw.lt;have ht : r.tailP = [] := by unfold Rec.tailP; rw [if_neg (by omega), if_neg (by omega), if_neg (by omega), if_neg (by omega)]
 rw [ht, List.append_nil];have HW := hid (au (hw.below hb0) (Wrote.of_below (wb := wb) (sv := sv) hb0));clear he hes hw hb0 ht;clear hk hn6
 go_enter Tryz.func99, Tryz.ntmps99
 go_wp2_with fail
 go_end0
 exact ⟨rfl, sv, HW.out.1, HW.out.2⟩
structure PrZ (W : World) (rb wb : Nat) (sv svi : Value) (li : List UInt8) (row : Array Value) (TR : TypeId) (w : World) : Prop where
 wr : Wr 192 5 w wb svi li
 wt : Wrote wb sv svi W w
 lt : wb < W.1.size ∧ rb < w.1.size ∧ rb ≠ wb ∧ svi.ownBlock ≠ some rb
 box : w.1[rb]? = some (.cells row TR (0, 0))
theorem PrZ.below {W w w' : World} {rb wb : Nat} {sv svi : Value} {li : List UInt8} {row : Array Value} {TR : TypeId} (h : PrZ W rb wb sv svi li row TR w) (hb : Below w.1.size w w') : PrZ W rb wb sv svi li row TR w' :=
 ⟨h.wr.below hb, h.wt.trans (Wrote.of_below hb), ⟨h.lt.1, by have := h.lt.2.1; have := hb.size; omega, h.lt.2.2.1, h.lt.2.2.2⟩, (hb.block _ h.lt.2.1).trans h.box⟩
theorem PrZ.step {W w w' : World} {rb wb : Nat} {sv svi svj : Value} {li lj : List UInt8} {row : Array Value} {TR : TypeId} (h : PrZ W rb wb sv svi li row TR w) (hw : Wr 192 5 w' wb svj lj) (ht : Wrote wb svi svj w w') : PrZ W rb wb sv svj lj row TR w' := by
 have hl := h.lt;refine ⟨hw, h.wt.trans ht, ⟨hl.1, by have := ht.size; omega, hl.2.2.1, ?_⟩, (ht.keep _ hl.2.1 hl.2.2.1 hl.2.2.2).trans h.box⟩;rcases ht.row with h2 | ⟨k, h2, h3⟩
 ·rw [h2]; exact hl.2.2.2
 ·intro e; rw [e] at h2; injection h2 with h2; omega
theorem PrZ.cell {W w : World} {rb wb : Nat} {sv svi : Value} {li : List UInt8} {row : Array Value} {TR : TypeId} (h : PrZ W rb wb sv svi li row TR w) (o : Nat) : w.cell? ⟨rb, o, none⟩ = row[o]? := ax w _ o _ _ _ h.box
def xc (r : Rec) (w : World) (e : Ending) (w' : World) : Prop :=
 (r.right = true → ∃ bv, e = .returned (.tuple #[.agg #[.int .u8 r.k, bv], .int .i64 0]) ∧ aO w' (fun b => w.1.size ≤ b) true r.body bv) ∧ (r.right = false → e = .returned (.tuple #[.agg #[.int .u8 0, .slice none 0 0], .int .i64 50])) ∧ Below w.1.size w w'
def PuZ (W : World) (rb wb : Nat) (sv : Value) (l m : List UInt8) (row : Array Value) (TR : TypeId) (t : Nat) (vs : Nat → Value) (w : World) : Prop := ∃ svi, PrZ W rb wb sv svi (if t = 0 then l else l ++ m) row TR w
theorem PuZ.at {W : World} {rb wb : Nat} {sv : Value} {l m : List UInt8} {row : Array Value} {TR : TypeId} {t : Nat} {vs : Nat → Value} {w : World} (h : PuZ W rb wb sv l m row TR t vs w) (o : Nat) : w.cell? ⟨rb, o, none⟩ = row[o]? := by
 obtain ⟨svi, h1⟩ := h;exact h1.cell o
theorem PuZ.below {W : World} {rb wb : Nat} {sv : Value} {l m : List UInt8} {row : Array Value} {TR : TypeId} {t : Nat} {vs : Nat → Value} {w w' : World} (h : PuZ W rb wb sv l m row TR t vs w) (hb : Below w.1.size w w') : PuZ W rb wb sv l m row TR t vs w' := by
 obtain ⟨svi, h1⟩ := h;exact ⟨svi, h1.below hb⟩
theorem aT.keepPr {W w : World} {rb wb : Nat} {sv svi : Value} {li : List UInt8} {row : Array Value} {TR : TypeId} {own : Bool} {e : Ex} {v : Value} (h : aT W (fun b => b < wb) own e v) (hw : Wr 192 5 W wb sv li) {lj : List UInt8} (hp : PrZ W rb wb sv svi lj row TR w) : aT w (fun b => b < wb) own e v :=
 aT.keep (fun b hb _ => (hp.wt.below hw).block b hb) (fun _ _ h => h) h
theorem fQ.keepPr {W w : World} {rb wb : Nat} {sv svi : Value} {li : List UInt8} {row : Array Value} {TR : TypeId} {own : Bool} {es : List Ent} {v : Value} (h : fQ W (fun b => b < wb) own es v) (hw : Wr 192 5 W wb sv li) {lj : List UInt8} (hp : PrZ W rb wb sv svi lj row TR w) : fQ w (fun b => b < wb) own es v :=
 fQ.keep h (fun b hb _ => (hp.wt.below hw).block b hb) (fun _ _ h => h)
structure PfZ (W : World) (fb : Nat) (lm : List UInt8) (k : Int) (TF : TypeId) (t : Nat) (vs : Nat → Value) (w : World) : Prop where
 rg : Rg fb W w
 lt : fb < W.1.size
 z0 : t = 0 → Below W.1.size W w
 by1 : 1 ≤ t → aO w (fun b => W.1.size ≤ b) true lm (vs 3)
 fr : w.1[fb]? = some (.cells (if t ≤ 1 then #[.int .u8 0, .slice none 0 0] else #[.int .u8 k, vs 3]) TF (0, 0))
theorem PfZ.bytes {W : World} {fb : Nat} {lm : List UInt8} {k : Int} {TF TB : TypeId} {vs : Nat → Value} {w w' : World} {bv : Value} (h : PfZ W fb lm k TF 0 vs w) (ho : w'.ownsRow w.1.size TB 1 bv lm.length (bytes lm)) (hb : Below w.1.size w w') : PfZ W fb lm k TF 1 (upd vs 3 bv) w' := by
 have hs := (h.z0 rfl).size;refine ⟨h.rg.trans (Rg.of_below hb), h.lt, (fun h => by omega), fun _ => ?_, (hb.block _ (ak h.fr).1).trans h.fr⟩;rw [upd_self];exact Sl.keep (aO.of_owns ho) (by omega) (fun _ _ _ => rfl) (fun b _ hb => by have := hb.2; omega)
theorem PfZ.store {W : World} {fb : Nat} {lm : List UInt8} {k : Int} {TF : TypeId} {vs : Nat → Value} {w : World} {i : Nat} {u bv : Value} (h : PfZ W fb lm k TF 1 vs w) (hbv : vs 3 = bv) (hi : i ≠ 3 := by omega) : PfZ W fb lm k TF 2 (upd vs i u) ((w.setCell ⟨fb, 0, none⟩ (.int .u8 k)).setCell ⟨fb, 1, none⟩ bv) := by
 refine ⟨(h.rg.setCell _ _).setCell _ _, h.lt, (fun h => by omega), fun _ => ?_, ?_⟩
 ·rw [upd_ne _ _ (fun e => hi e.symm)]
  have hl := h.lt;exact Sl.keep (h.by1 (by omega)) (by omega) (fun b hb _ => (ay _ _ _ _ (by simp; omega)).trans (ay _ _ _ _ (by simp; omega))) (fun _ _ h => h)
 ·rw [if_neg (by omega), upd_ne _ _ (fun e => hi e.symm), hbv]
  exact aM (aM h.fr rfl) rfl
theorem Eh (r : Rec) (hsz : r.p.size ≤ 900) (hle : r.es.length ≤ 10000) : r.body.length ≤ 140737488355328 := by
 have h1 := bI [r.t, r.x, r.w, r.n];have h2 := bI [r.t, r.x, r.v];have h3 := bI [r.t, r.x];have h4 := bI [r.t, r.p.put.length];have h5 := bI [r.es.length];have h6 := kR r.es;have h7 := bI [r.t];have hpl : r.p.put.length ≤ 992 := by
  by_cases h : r.p.right = true
  ·exact uw h
  ·simp [Ex.put, h]
 unfold Rec.body
 repeat' split
 all_goals simp only [aI, aJ, List.length_nil] at *
 all_goals omega
theorem Aq (S : Nat → Prop) (own : Bool) (r : Rec) (hPK : ∀ k : Nat, r.k = (k : Int) → 1 ≤ k → k ≤ 7 → ∃ fid, Enters fid ∧ Hf k fid ∧ ∀ w, (Instr.field 150 (.agg (aV k)) 2).run Tryz.prog w = .ok (.func (.func fid) #[] #[]) w) (v : Value) (w : World) (hsz : r.p.size ≤ 900) (hle : r.es.length ≤ 10000) (hv : bL w S own r v) :
  Calls Tryz.prog 43 #[v] w (xc r w) := by
 obtain ⟨k0, k1, k2, k3, k4, k5, k6, k7, rfl, hk1, hk2, hnums, he, hes⟩ := hv.conc;obtain ⟨n6, hn6⟩ : ∃ n6, n6 = r.es.length := ⟨_, rfl⟩;have HPK := hid hPK;clear hPK;rw [← hn6] at hes hv hle ⊢;have hbA : Below w.1.size w ((w.alloc (.cells #[.int .i64 r.k, .int .u64 r.t, .int .u64 r.x, .int .u64 r.w, .int .u64 r.n, .int .u64 r.v, .int .i64 k0, .int .u64 k1, .int .u64 k2, .slice k3 k4 k5, .slice k6 n6 k7] 73)).alloc (.cells #[.int .u8 0, .slice none 0 0] 105)) := (br.alloc nl _).alloc (by simp) _;have HN := hid (au hn6 (au hnums (au he (au hes hv))));have HBA := hid hbA;clear hn6 hnums he hes hv hbA
 go_enter Tryz.func43, Tryz.ntmps43
 go_wp2_with fail;refine (wY S own r _ _ hsz (HN.out.2.2.2.2.below HBA.out nl)).mono ?_;rintro e w1 ⟨rfl, hb1⟩;have hz1 := hb1.size;simp only [aD] at hz1;have hrb : w1.1[w.1.size]? = some (.cells #[.int .i64 r.k, .int .u64 r.t, .int .u64 r.x, .int .u64 r.w, .int .u64 r.n, .int .u64 r.v, .int .i64 k0, .int .u64 k1, .int .u64 k2, .slice k3 k4 k5, .slice k6 n6 k7] 73 (0, 0)) := (hb1.block _ (by simp; omega)).trans (heap_alloc2_old _ _ _);have hfb : w1.1[w.1.size + 1]? = some (.cells #[.int .u8 0, .slice none 0 0] 105 (0, 0)) := (hb1.block _ (by simp)).trans (aK _ _ _ (by simp));have hB1 : Below w.1.size w w1 := HBA.out.trans (hb1.mono (by simp; omega));cases hr : r.right with
 | false =>
  have HQ := hid (au hfb (au hB1 hr));clear hb1 hrb hfb hB1 hr
  go_wp2_with (refine wpList_store_row rfl 105 (.tmp 2) (.tmp 8) rfl rfl (w.1.size + 1) rfl _ rfl 105 _ HQ.out.1 (by kernel_rfl) rfl (by simp [Value.oneCell']) ?_)
  exact aC (v := .tuple #[.agg #[.int .u8 0, .slice none 0 0], .int .i64 50]) (aN rfl _ _ (w.1.size + 1) 105 _ _ _ _ rfl (aB _ _ _ _ _ _ HQ.out.1) Tryz.underlying105 rfl (by kernel_rfl) rfl) rfl ⟨(fun h => by rw [HQ.out.2.2] at h; cases h), fun _ => rfl, below_setRow HQ.out.2.1 _ _ (by omega)⟩
 | true =>
  obtain ⟨hr1, hr7, _, _⟩ := (Rec.right_iff r).1 hr;obtain ⟨k, hk⟩ := Int.eq_ofNat_of_zero_le (show 0 ≤ r.k by omega);have HQ := hid (au hrb (au hfb (au hB1 (au hr hk))));have b1 : w1.cell? ⟨w.1.size, 1, none⟩ = some (.int .u64 r.t) := by rw [ax w1 _ 1 _ _ _ hrb]; rfl
  clear hb1 hrb hfb hB1 hr hk;have hl1 : w.1.size + 2 ≤ w1.1.size := by omega
  have hl2 : w.1.size < w1.1.size := by omega
  have hl3 : w.1.size + 1 < w1.1.size := by omega
  go_wp2_with fail;obtain ⟨W3, hW3⟩ : ∃ W3, W3 = w1.alloc (.cells #[.slice none 0 0] 192) := ⟨_, rfl⟩;obtain ⟨wb, hwb⟩ : ∃ wb, wb = w1.1.size := ⟨_, rfl⟩;have hw3 : Wr 192 5 W3 wb (.slice none 0 0) [] := by rw [hW3, hwb]; exact ⟨heap_alloc_new _ _, World.ownsRow_nil _ _ _ _⟩
  have hz3 : W3.1.size = wb + 1 := by rw [hW3, hwb]; simp
  have hb3 : Below w1.1.size w1 W3 := by rw [hW3]; exact br.alloc nl _
  rw [← hW3, ← hwb];have hB3 : Below w.1.size w W3 := HQ.out.2.2.1.trans (hb3.mono (by omega));have hrb3 : W3.1[w.1.size]? = some (.cells #[.int .i64 r.k, .int .u64 r.t, .int .u64 r.x, .int .u64 r.w, .int .u64 r.n, .int .u64 r.v, .int .i64 k0, .int .u64 k1, .int .u64 k2, .slice k3 k4 k5, .slice k6 n6 k7] 73 (0, 0)) := (hb3.block _ (by omega)).trans HQ.out.1;have hfb3 : W3.1[w.1.size + 1]? = some (.cells #[.int .u8 0, .slice none 0 0] 105 (0, 0)) := (hb3.block _ (by omega)).trans HQ.out.2.1;have hb4 : Below W3.1.size W3 (W3.alloc (.cells #[.int .u64 (r.t : Nat)] 57)) := br.alloc nl _;have hp3 : PrZ W3 w.1.size wb (.slice none 0 0) (.slice none 0 0) [] #[.int .i64 r.k, .int .u64 r.t, .int .u64 r.x, .int .u64 r.w, .int .u64 r.n, .int .u64 r.v, .int .i64 k0, .int .u64 k1, .int .u64 k2, .slice k3 k4 k5, .slice k6 n6 k7] 73 W3 := ⟨hw3, Wrote.refl _ _ _, ⟨by omega, by omega, by omega, by simp [Value.ownBlock]⟩, hrb3⟩;have he3 : aT W3 (fun b => b < wb) own r.p (.agg #[.int .i64 k0, .int .u64 k1, .int .u64 k2, .slice k3 k4 k5]) := aT.keep (w := w) (S := S) (S' := fun b => b < wb) (Below.keeps hB3 nl S) (fun b hb _ => by omega) HN.out.2.2.1;have hes3 : fQ W3 (fun b => b < wb) own r.es (.slice k6 n6 k7) := fQ.keep (w := w) (S := S) (S' := fun b => b < wb) HN.out.2.2.2.1 (Below.keeps hB3 nl S) (fun b hb _ => by omega);have HW3 := hid (au hw3 (au he3 (au hes3 (au hfb3 (au hB3 hz3)))));have HP4 := hid (hp3.below hb4);have ht64 : r.t < 18446744073709551616 := HN.out.2.1.1;have hlw : w.1.size + 2 ≤ wb := by omega
  have HWB := hid hwb;clear b1 hW3 hw3 hb3 hB3 hrb3 hfb3 hp3 he3 hes3 hb4 hwb;have hsl : Sl (W3.alloc (.cells #[.int .u64 (r.t : Nat)] 57)) (fun b => b ≠ wb ∧ (Value.slice none 0 0).ownBlock ≠ some b) true 1 [r.t].length (nums [r.t]) (.slice (some ⟨W3.1.size, 0, none⟩) 1 1) := Gs W3 _ #[.int .u64 (r.t : Nat)] 57 1 1 (by simp) (by omega) ⟨by omega, by simp [Value.ownBlock]⟩ (by omega);have hns : ∀ n ∈ [r.t], n < 18446744073709551616 := by intro n hn; simp at hn; omega
  rw [hz3] at hsl;have HN4 := hid (nI true wb (.slice none 0 0) [] [r.t] (.slice (some ⟨wb + 1, 0, none⟩) 1 1) (W3.alloc (.cells #[.int .u64 (r.t : Nat)] 57)) HP4.out.wr hsl hns (by simp));clear hsl hns;refine HN4.out.mono ?_;rintro e w5 ⟨rfl, sv5, hw5, ht5⟩;have hp5 := HP4.out.step hw5 ht5;obtain ⟨L, hL⟩ : ∃ L, L = bO [r.t] := ⟨_, rfl⟩;have hLl : L.length ≤ 1000 := by have := bI [r.t]; rw [hL]; simp at this ⊢; omega
  obtain ⟨M, hM⟩ : ∃ M, M = r.tailP := ⟨_, rfl⟩;have hbody : r.body = L ++ M := by rw [hL, hM]; exact Ap r
  simp only [List.nil_append] at hp5;rw [← hL] at hp5;obtain ⟨k, hk⟩ : ∃ k : Nat, r.k = (k : Int) := ⟨k, HQ.out.2.2.2.2⟩;have HBD := hid (au hbody (au hM (au hLl hk)));have HP5 := hid hp5;clear hw5 ht5 hp5 hL hM hLl hbody;have hkk : 1 ≤ k ∧ k ≤ 7 := by omega
  obtain ⟨fid, hf2, hf3, hf1⟩ := HPK.out k hk hkk.1 hkk.2;clear hk;have hKI := rJ k hkk.2;have hKA : ∀ W : World, Calls Tryz.prog 60 #[] W fun e w' => e = .returned ig ∧ Below W.1.size W w' := fun W => jW W
  obtain ⟨T, hT⟩ : ∃ T, T = ig := ⟨_, rfl⟩;rw [← hT] at hKI hKA;have HKI := hid hKI;have HKK := hid hKA;have HFI := hid hf1;have HF := hid (au hf2 hf3);clear hT hKI hKA hf1 hf2 hf3;go_wp2_with fail;have hZ0 : PuZ W3 w.1.size wb (.slice none 0 0) L M #[.int .i64 r.k, .int .u64 r.t, .int .u64 r.x, .int .u64 r.w, .int .u64 r.n, .int .u64 r.v, .int .i64 k0, .int .u64 k1, .int .u64 k2, .slice k3 k4 k5, .slice k6 n6 k7] 73 0 (fun _ => undef) w5.drew := ⟨_, HP5.out.below br.drew⟩;have HZ0 := hid hZ0;clear hZ0;refine dC (w0 := w5) rfl [.eq (T), .eq (.pointer (some ⟨w.1.size, 0, none⟩)), .eq (.int .i64 r.k), .eq (.agg (aV k)), .eq (.func (.func fid) #[] #[]), .eq (.agg #[.int .i64 r.k, .int .u64 r.t, .int .u64 r.x, .int .u64 r.w, .int .u64 r.n, .int .u64 r.v, .int .i64 k0, .int .u64 k1, .int .u64 k2, .slice k3 k4 k5, .slice k6 n6 k7]), .weq (.tuple #[])] (PuZ W3 w.1.size wb (.slice none 0 0) L M #[.int .i64 r.k, .int .u64 r.t, .int .u64 r.x, .int .u64 r.w, .int .u64 r.n, .int .u64 r.v, .int .i64 k0, .int .u64 k1, .int .u64 k2, .slice k3 k4 k5, .slice k6 n6 k7] 73) (by kernel_rfl) (⟨fun _ => undef, HZ0.out⟩) ⟨?_, ?_, ?_, ?_, ?_, ?_, ?_, trivial⟩ (fun vs => [(13, T), (14, .pointer (some ⟨w.1.size, 0, none⟩)), (15, .int .i64 r.k), (16, .agg (aV k)), (17, .func (.func fid) #[] #[]), (18, .agg #[.int .i64 r.k, .int .u64 r.t, .int .u64 r.x, .int .u64 r.w, .int .u64 r.n, .int .u64 r.v, .int .i64 k0, .int .u64 k1, .int .u64 k2, .slice k3 k4 k5, .slice k6 n6 k7]), (19, .tuple #[])]) (fun _ => rfl) 1 (by kernel_rfl) ?_
  ·refine pZ fun t vs ac wx K Q hR hZ hK => ?_
   go_simp
   go_at_call 60
   refine (HKK.out _).mono ?_;rintro e w' ⟨rfl, hbx⟩;exact hK _ (hZ.below hbx)
  ·refine pZ fun t vs ac wx K Q hR hZ hK => ?_
   have t1 : ac.tmps[1]? = some (.pointer (some ⟨w.1.size, 0, none⟩)) := hR.o 1;go_simp;exact hK _ hZ
  ·refine pZ fun t vs ac wx K Q hR hZ hK => ?_
   have t14 := hR.q 1;have y0 := hZ.at 0;go_simp;exact hK _ hZ
  ·refine pZ fun t vs ac wx K Q hR hZ hK => ?_
   have t13 := hR.q 0;have t15 := hR.q 2;have hi := HKI.out wx;rw [HBD.out.2.2.2] at t15;go_simp;exact hK _ hZ
  ·refine pZ fun t vs ac wx K Q hR hZ hK => ?_
   have t16 := hR.q 3;have hi := HFI.out wx;go_simp;exact hK _ hZ
  ·refine pZ fun t vs ac wx K Q hR hZ hK => ?_
   have t1 : ac.tmps[1]? = some (.pointer (some ⟨w.1.size, 0, none⟩)) := hR.o 1;have y0 := hZ.at 0;have y1 := hZ.at 1;have y2 := hZ.at 2;have y3 := hZ.at 3;have y4 := hZ.at 4;have y5 := hZ.at 5;have y6 := hZ.at 6;have y7 := hZ.at 7;have y8 := hZ.at 8;have y9 := hZ.at 9;have y10 := hZ.at 10;go_simp;exact hK _ hZ
  ·refine wZ fun vs ac wx K Q hR hZ hK => ?_
   have t17 := hR.q 4;have t4 : ac.tmps[4]? = some (.pointer (some ⟨wb, 0, none⟩)) := hR.o 4;have t18 := hR.q 5;have hcall := HF.out.1;unfold Enters at hcall;obtain ⟨svi, hZ1⟩ := hZ;replace hZ1 : PrZ W3 w.1.size wb (.slice none 0 0) svi L _ 73 wx := hZ1;go_simp;refine (HF.out.2 own r k0 k1 k2 k3 k4 k5 k6 n6 k7 wb svi L wx HN.out.1 HBD.out.2.2.2 hsz (by have := HN.out.1; omega) HN.out.2.1 (HW3.out.2.1.keepPr HW3.out.1 hZ1) (HW3.out.2.2.1.keepPr HW3.out.1 hZ1) hZ1.wr HBD.out.2.2.1).mono ?_;rintro e w' ⟨rfl, svj, hwj, htj⟩;rw [← HBD.out.2.1] at hwj;exact hK _ _ gz ⟨svj, hZ1.step hwj htj⟩
  intro vs W6 hZ;obtain ⟨svW, hZ6⟩ := hZ;replace hZ6 : PrZ W3 w.1.size wb (.slice none 0 0) svW (L ++ M) #[.int .i64 r.k, .int .u64 r.t, .int .u64 r.x, .int .u64 r.w, .int .u64 r.n, .int .u64 r.v, .int .i64 k0, .int .u64 k1, .int .u64 k2, .slice k3 k4 k5, .slice k6 n6 k7] 73 W6 := hZ6;simp only [bS, List.foldl_cons, List.foldl_nil];obtain ⟨LM, hLM⟩ : ∃ LM, LM = L ++ M := ⟨_, rfl⟩;have hLMl : LM.length ≤ 140737488355328 := by rw [hLM, ← HBD.out.1]; exact Eh r hsz (by have := HN.out.1; omega)
  rw [← hLM] at hZ6;have hfb6 : W6.1[w.1.size + 1]? = some (.cells #[.int .u8 0, .slice none 0 0] 105 (0, 0)) := (hZ6.wt.keep _ (by omega) (by omega) (by simp [Value.ownBlock])).trans HW3.out.2.2.2.1;have hB6 : Below w.1.size w W6 := HW3.out.2.2.2.2.1.trans ((hZ6.wt.below HW3.out.1).mono (by omega));have b60 : W6.cell? ⟨w.1.size, 0, none⟩ = some (.int .i64 r.k) := hZ6.cell 0;have l6 := hZ6.lt.2.1;have l61 : w.1.size + 1 < W6.1.size := (ak hfb6).1;have q8 : IntKind.u8.wrap r.k = r.k := by unfold IntKind.wrap; simp [IntKind.signed, IntKind.bits]; omega
  have HQ8 := hid q8;have HLM := hid (au hLMl hLM);have HW6 := hid hZ6.wr;have HB6 := hid (au hB6 b60);have hZ1 : PfZ W6 (w.1.size + 1) LM r.k 105 0 (fun _ => undef) W6.drew := ⟨Rg.of_below br.drew, l61, fun _ => br.drew, (fun h => by omega), hfb6⟩;have HZ1 := hid hZ1;clear hZ6 hfb6 hB6 b60 q8 hLM hLMl hZ1;go_simp;go_wp2_with fail;refine dC (w0 := W6) rfl [.eq (.pointer (some ⟨w.1.size, 0, none⟩)), .eq (.int .i64 r.k), .eq (.int .u8 r.k), .wr, .fn 3 (fun v => .agg #[.int .u8 r.k, v]), .wr, .eq ((Value.int IntKind.i64 0))] (PfZ W6 (w.1.size + 1) LM r.k 105) (by kernel_rfl) (⟨fun _ => undef, HZ1.out⟩) ⟨?_, ?_, ?_, ?_, ?_, ?_, ?_, trivial⟩ (fun vs => [(20, .pointer (some ⟨w.1.size, 0, none⟩)), (21, .int .i64 r.k), (22, .int .u8 r.k), (23, vs 3), (24, .agg #[.int .u8 r.k, vs 3]), (3, (Value.int IntKind.i64 0))]) (fun _ => rfl) 2 (by kernel_rfl) ?_
  ·refine pZ fun t vs ac wx K Q hR hZ hK => ?_
   have t1 : ac.tmps[1]? = some (.pointer (some ⟨w.1.size, 0, none⟩)) := hR.o 1;go_simp;exact hK _ hZ
  ·refine pZ fun t vs ac wx K Q hR hZ hK => ?_
   have t20 := hR.q 0;have y0 := hZ.rg.cell HB6.out.2 (by omega);go_simp;exact hK _ hZ
  ·refine pZ fun t vs ac wx K Q hR hZ hK => ?_
   have t21 := hR.q 1;have q8 := HQ8.out;go_simp
   (try go_ints)
   exact hK _ hZ
  ·refine wZ fun vs ac wx K Q hR hZ hK => ?_
   have t4 : ac.tmps[4]? = some (.pointer (some ⟨wb, 0, none⟩)) := hR.o 4;go_simp
   go_at_call 84
   refine (pY wb svW LM wx (HW6.out.below (hZ.z0 rfl)) HLM.out.1).mono ?_;rintro e w' ⟨bv, rfl, hown, hbx⟩;exact hK _ _ nofun (hZ.bytes hown hbx)
  ·refine pZ fun t vs ac wx K Q hR hZ hK => ?_
   have t22 := hR.q 2;have t23 := hR.w 3;obtain ⟨_, bad, bcap, ev, _⟩ := (hZ.by1 (by have h : 0 < t := hR.lo 3 .wr rfl rfl (by kernel_rfl); omega)).shape;have hk := hK wx hZ;change K (ac.put _ (.agg #[.int .u8 r.k, vs 3])) wx at hk;rw [ev] at t23 hk;clear ev;go_simp;exact hk
  ·refine wZ fun vs ac wx K Q hR hZ hK => ?_
   have t2 : ac.tmps[2]? = some (.pointer (some ⟨w.1.size + 1, 0, none⟩)) := hR.o 2;have t24 := hR.fn 4 (by kernel_rfl) rfl rfl;have hh := hZ.fr;obtain ⟨_, bad, bcap, ev, _⟩ := (hZ.by1 (by omega)).shape;rw [ev] at t24;have f0 : wx.frozen? ⟨w.1.size + 1, 0, none⟩ = false := (by rw [aA wx _ 0 _ _ hh]);have f1 : wx.frozen? ⟨w.1.size + 1, 1, none⟩ = false := (by rw [aA wx _ 1 _ _ hh]);have c0 : wx.cell? ⟨w.1.size + 1, 0, none⟩ = some (.int .u8 0) := (by rw [ax wx _ 0 _ _ _ hh]; rfl);have c1 : wx.cell? ⟨w.1.size + 1, 1, none⟩ = some (.slice none 0 0) := (by rw [ax wx _ 1 _ _ _ hh]; rfl);have HEV := hid ev;clear ev;go_simp;exact hK undef _ nofun (hZ.store HEV.out)
  ·refine pZ fun t vs ac wx K Q hR hZ hK => ?_
   go_simp;exact hK _ hZ
  intro vs wN hZ;obtain ⟨_, bad, bcap, ev, _⟩ := (hZ.by1 (by omega)).shape;have hby := hZ.by1 (by omega);have hfr := hZ.fr;rw [ev] at hby hfr;have HE := hid (au hby (au hfr ((hZ.rg.below (by omega)))));simp only [bS, List.foldl_cons, List.foldl_nil];rw [ev];clear ev hZ hby hfr;go_simp;go_wp2_with fail;have hlg : w.1.size ≤ W6.1.size := HB6.out.1.size;refine aC (v := .tuple #[.agg #[.int .u8 r.k, .slice bad LM.length bcap], .int .i64 0]) (aN rfl _ _ (w.1.size + 1) 105 _ _ _ _ rfl HE.out.2.1 Tryz.underlying105 rfl (by kernel_rfl) rfl) rfl ⟨fun _ => ⟨_, rfl, ?_⟩, (fun h => by rw [HQ.out.2.2.2.1] at h; cases h), HB6.out.1.trans (HE.out.2.2.mono (by omega))⟩;have hbd : r.body = LM := by rw [HBD.out.1, HLM.out.2]
  rw [hbd];exact Sl.keep HE.out.1 (by omega) (fun _ _ _ => rfl) (fun b _ hb => by omega)
theorem qo (S : Nat → Prop) (own : Bool) (r : Rec) (h16 : r.k = 1 ∨ r.k = 6) (v : Value) (w : World) (hsz : r.p.size ≤ 900) (hle : r.es.length ≤ 10000) (hv : bL w S own r v) :
  Calls Tryz.prog 43 #[v] w (xc r w) := by
 refine Aq S own r (fun k hk _ _ => ?_) v w hsz hle hv;have hc : k = 1 ∨ k = 6 := by omega
 rcases hc with rfl | rfl
 ·exact ⟨99, (fun _ _ => by kernel_rfl), vG 1 (by omega), fun _ => by kernel_rfl⟩
 ·exact ⟨99, (fun _ _ => by kernel_rfl), vG 6 (by omega), fun _ => by kernel_rfl⟩
structure Fx where
 k : Nat
 pay : List UInt8
def frI : Item Fx where
 k := 2
 P w S x cs := ∃ pv, cs = [.int .u8 (x.k : Nat), pv] ∧ aO w S false x.pay pv
 len h := by obtain ⟨pv, rfl, _⟩ := h; rfl
 one h := by
  obtain ⟨pv, rfl, hr⟩ := h;obtain ⟨_, ad, cap, rfl, _⟩ := hr.shape;simp [Value.oneCell']
 keep h hk hS := by
  obtain ⟨pv, e, hr⟩ := h;exact ⟨pv, e, Sl.keep hr (by omega) hk hS⟩
def lD (fs : List Fx) : List UInt8 := fs.flatMap fun x => bW x.k x.pay
theorem CJ (a : List Fx) (x : Fx) : lD (a ++ [x]) = lD a ++ bW x.k x.pay := by simp [lD]
theorem yH : ∀ (fs : List Fx), (∀ x ∈ fs, x.pay.length ≤ 800000) → (lD fs).length ≤ fs.length * 800015
 | [], _ => by simp [lD]
 | x :: fs, h => by
  have h1 := yH fs (fun y hy => h y (List.mem_cons_of_mem _ hy));have h2 := Ag x.k x.pay;have h3 := h x List.mem_cons_self;have e : lD (x :: fs) = bW x.k x.pay ++ lD fs := by simp [lD]
  rw [e, aI, aJ, Nat.add_mul];omega
theorem Ar (fs : List Fx) (v : Value) (w : World) (hn : fs.length ≤ 70000) (hf : ∀ x ∈ fs, x.k < 256 ∧ x.pay.length ≤ 800000) (hv : oh frI w (fun b => b < w.1.size) fs v) :
  Calls Tryz.prog 44 #[v] w (jN 5 w (lD fs)) := by
 obtain ⟨i0, hi0, hz0, hz1, hz2⟩ := info_parts lZ;obtain ⟨hl0, fa, fc, rfl, hcp0⟩ := hv.shape;have HV := hid (au hv hf);clear hv hf
 go_enter Tryz.func44, Tryz.ntmps44
 go_wp2_with fail
 go_loopw [3, 10] (fun sv i wr => ∃ j : Nat, j ≤ fs.length ∧ i = .int .i64 (j : Nat) ∧ wr.ownsRow w.1.size 5 1 sv (lD (fs.take j)).length (bytes (lD (fs.take j))) ∧ Below w.1.size w wr) (fun _ i _ => fs.length - (intOf i).toNat)
 case atStart => exact ⟨0, by omega, rfl, World.ownsRow_nil _ _ _ _, br⟩
 case round =>
  obtain ⟨j, hj, rfl, hown, hbel⟩ := hrel;have hsz0 := hbel.size;by_cases hlt : j < fs.length
  ·obtain ⟨bl, off, cs, rfl, hbs, ⟨pv, rfl, hpv⟩, hcc⟩ := oh.at (I := frI) (by decide) HV.out.1 j hlt
   obtain ⟨k, hk⟩ : ∃ k, k = fs[j].k := ⟨_, rfl⟩;obtain ⟨l, hl⟩ : ∃ l, l = fs[j].pay := ⟨_, rfl⟩;rw [← hk] at hcc;rw [← hl] at hpv;have hfj := HV.out.2 fs[j] (List.getElem_mem _);rw [← hk, ← hl] at hfj;have htk : lD (fs.take (j + 1)) = lD (fs.take j) ++ bW k l := (by rw [List.take_succ_eq_append_getElem hlt, CJ, hk, hl]);have hk256 := hfj.1;have hll := hfj.2;obtain ⟨_, ad, cp, rfl, hcp'⟩ := hpv.shape;have hE := yH (fs.take j) (fun x hx => (HV.out.2 x (List.mem_of_mem_take hx)).2);rw [List.length_take, Nat.min_eq_left hj] at hE;have c0 : wr.cell? ⟨bl, off + j * 2, none⟩ = some (.int .u8 (k : Nat)) := (hbel.cell (p := ⟨bl, off + j * 2, none⟩) hbs).trans (hcc 0 (by decide));have c1 : wr.cell? ⟨bl, off + j * 2 + 1, none⟩ = some (.slice ad l.length cp) := (hbel.cell (p := ⟨bl, off + j * 2 + 1, none⟩) hbs).trans (hcc 1 (by decide));obtain ⟨E0, hE0⟩ : ∃ E0, E0 = lD (fs.take j) := ⟨_, rfl⟩;rw [← hE0] at hown hE htk;have HOW := hid hown;have hob := hown.lt;have HTK := hid (au htk (au hbel hlt));have HVJ := hid hpv;have q9 : E0.length ≤ 56001050000 := by
    refine Nat.le_trans hE (Nat.le_trans (Nat.mul_le_mul_right 800015 (show j ≤ 70000 by omega)) (by decide))
   have i0' : (0 : Int) ≤ (j : Int) := (by omega);have i1' : (j : Int) < (fs.length : Int) := (by omega);obtain ⟨sva, svc, rfl⟩ := aQ hown;have hlw : w.1.size ≤ wr.1.size := hsz0;clear hown htk hk hl hfj hcc hE hpv hbel hE0
   go_upto_region 6 with fail
   have hb1 : Below wr.1.size wr (wr.alloc (.cells #[.int .u8 k, .slice ad l.length cp] 105)) := br.alloc nl _;have hb2 : Below wr.1.size wr ((wr.alloc (.cells #[.int .u8 k, .slice ad l.length cp] 105)).alloc (.cells #[.slice none 0 0] 192)) := hb1.alloc (by simp) _;have g0 : ((wr.alloc (.cells #[.int .u8 k, .slice ad l.length cp] 105)).alloc (.cells #[.slice none 0 0] 192)).1[wr.1.size]? = some (.cells #[.int .u8 k, .slice ad l.length cp] 105 (0, 0)) :=
    (az _ _ _ (by simp)).trans (heap_alloc_new wr _)
   have g1 : Wr 192 5 ((wr.alloc (.cells #[.int .u8 k, .slice ad l.length cp] 105)).alloc (.cells #[.slice none 0 0] 192)) (wr.1.size + 1) (.slice none 0 0) [] :=
    ⟨by have := heap_alloc_new (wr.alloc (.cells #[.int .u8 k, .slice ad l.length cp] 105)) (.cells #[.slice none 0 0] 192); rw [aD] at this; exact this, World.ownsRow_nil _ _ _ _⟩
   have g2 : ((wr.alloc (.cells #[.int .u8 k, .slice ad l.length cp] 105)).alloc (.cells #[.slice none 0 0] 192)).1.size = wr.1.size + 2 := (by rw [aD, aD]);generalize (wr.alloc (.cells #[.int .u8 k, .slice ad l.length cp] 105)).alloc (.cells #[.slice none 0 0] 192) = X at hb2 g0 g1 g2 ⊢;clear hb1;have d0 : X.cell? ⟨wr.1.size, 0, none⟩ = some (.int .u8 k) := (by unfold World.cell?; rw [g0]; rfl);have d1 : X.cell? ⟨wr.1.size, 1, none⟩ = some (.slice ad l.length cp) := (by unfold World.cell?; rw [g0]; rfl);have hbA : Below X.1.size X (X.alloc (.cells #[.int .u8 k] 5)) := br.alloc nl _;have HRAW := hid (uQ (fun _ => True) true (wr.1.size + 1) (.slice none 0 0) [] [k.toUInt8] (.slice (some ⟨X.1.size, 0, none⟩) 1 1) _ (g1.below hbA) (vz X k hk256 5) (by simp));have HX := hid (au hb2 (au (g1.below hbA) (au g2 (au hbA d1))));clear g0 g1 g2 hb2 hbA d1;go_wp2_with fail;refine HRAW.out.mono ?_;rintro e w1 ⟨rfl, sv1, hw1, ht1⟩;obtain ⟨hb2, g1, g2, hbA, d1⟩ := HX.out;have hB1 : Below (wr.1.size + 1) X w1 := (hbA.mono (by omega)).trans (ht1.below g1);have d2 : w1.cell? ⟨wr.1.size, 1, none⟩ = some (.slice ad l.length cp) := (hB1.cell (p := ⟨wr.1.size, 1, none⟩) (by simp)).trans d1;have hBw1 : Below wr.1.size wr w1 := hb2.trans (hB1.mono (by omega));have hlt1 := hw1.lt;have hrep1 : aO w1 (fun b => b ≠ wr.1.size + 1 ∧ sv1.ownBlock ≠ some b) false l (.slice ad l.length cp) :=
    Sl.keep (aO.below HVJ.out (HTK.out.2.1.trans (hBw1.mono hlw)) nl) (by omega) (fun b _ _ => rfl) (fun b _ hb => ⟨(by have hb : b < w.1.size := hb; omega), fun e => (by have hb : b < w.1.size := hb; have := (hlt1.2 b e).1; omega)⟩)
   have HT := hid (yo false (wr.1.size + 1) sv1 ([] ++ [k.toUInt8]) l _ w1 hw1 hrep1 (by simp; omega));have HW1 := hid (au hw1 hBw1);clear hw1 ht1 hB1 hb2 g1 g2 hbA d1 hBw1 hrep1 hlt1 d0;go_wp2_with fail;refine HT.out.mono ?_;rintro e w2 ⟨rfl, sv2, hw2, ht2⟩;obtain ⟨hw1, hBw1⟩ := HW1.out;have hBw2 : Below wr.1.size wr w2 := hBw1.trans ((ht2.below hw1).mono (by omega));have hH : [] ++ [k.toUInt8] ++ (bO [l.length] ++ l) = bA k l := rfl;rw [hH] at hw2;have hHl : (bA k l).length ≤ 800011 := (by have := bI [l.length]; unfold bA; simp at this ⊢; omega);have HBY := hid (pY (wr.1.size + 1) sv2 (bA k l) w2 hw2 (by omega));have HW2 := hid hBw2;clear hw1 hBw1 hw2 ht2 hBw2 d2 hH;go_wp2_with fail;refine HBY.out.mono ?_;rintro e w3 ⟨v3, rfl, hown3, hb3⟩;have hsw := HW2.out.size;have hb3s := hb3.size;have HB3 := hid (HW2.out.trans (hb3.mono hsw));have HS3 := hid (Sl.of_owns hown3 (by omega));have hlt3 := hown3.lt;have H3 := hid hown3;have hr3 := ownsRow_below HOW.out HB3.out nl;obtain ⟨va3, vc3, rfl⟩ := aQ hown3;have q8 : w.1.size ≤ w3.1.size := (by omega);clear hown3 hb3
   go_wp2_with (at_builtin; go_loud (refine bg _ rfl (.tmp 22) (.tmp 23) _ rfl w.1.size 5 i0 _ 1 1 Tryz.underlying32 hi0 hz0 hz1 hz2 rfl (by omega) _ E0.length (bytes E0) rfl hr3 _ _ (bA k l).length (bytes (bA k l)) _ rfl HS3.out (eF _) (by unfold maxLen; omega) (by omega) q8 ?_); intro v4 w4 hown4 hgrow4 hat4)
   have hsz4 := hgrow4.size;have hrep4 : aO w4 (fun b => b < w4.1.size) false (bA k l) (.slice va3 (bA k l).length vc3) := Sl.keep (Sl.unown HS3.out) (by omega) (pW hgrow4 (fun b hb e => by have h1 := (hob b e.symm).2; have h2 := hb.2; omega)) (fun b hb _ => by omega);have HO4 := hid (au hown4 hgrow4);have HCK := hid (vw (bA k l) _ w4 (by omega) hrep4);clear hown4 hgrow4 hat4 hrep4 hr3;refine HCK.out.mono ?_;rintro e w5 ⟨v5, rfl, hown5, hb5⟩;have hsz5 := hb5.size;have HO5 := hid (au hown5 hb5);have q10 : w.1.size ≤ w5.1.size := (by omega);clear hown5 hb5
   go_wp2_with (at_builtin; go_loud (refine bg _ rfl (.tmp 24) (.tmp 26) _ rfl w.1.size 5 i0 _ 1 1 Tryz.underlying32 hi0 hz0 hz1 hz2 rfl (by omega) _ _ _ rfl (ownsRow_below HO4.out.1 HO5.out.2 nl) _ _ _ _ _ rfl (Sl.of_owns HO5.out.1 (by omega)) (eF _) (by unfold maxLen kD; rw [jF]; omega) (by unfold kD; rw [jF]; omega) q10 ?_); intro v6 w6 hown6 hgrow6 hat6)
   have HO6 := hid (au hown6 hgrow6);clear hown6 hgrow6 hat6;go_wp2_with fail;go_roundw
   case rel =>
    refine ⟨j + 1, HTK.out.2.2, by go_num, ?_, ?_⟩
    ·have h := HO6.out.1
     have e1 : (bytes E0 ++ bytes (bA k l)) ++ bytes (kD (Crc.gL (bA k l))) = bytes (lD (fs.take (j + 1))) := (by rw [HTK.out.1]; unfold bW; simp [bytes]);have e2 : (E0.length + (bA k l).length) + (kD (Crc.gL (bA k l))).length = (lD (fs.take (j + 1))).length := (by rw [HTK.out.1]; unfold bW; simp; omega);rw [e1, e2] at h;exact h
    ·have hlo := HO4.out.1.lt
     exact (((HTK.out.2.1.trans (HB3.out.mono hlw)).grown HO4.out.2 q8 (fun k hk => (hob k hk).1)).trans (HO5.out.2.mono (by omega))).grown HO6.out.2 q10 (fun k hk => (hlo k hk).1)
   case measure => have := HTK.out.2.2; simp [intOf]; omega
  ·obtain rfl : j = fs.length := by omega
   rw [List.take_length] at hown;have HOWN := hid (au hown hbel);clear hown hbel;go_wp2_with fail;go_ret
   exact ⟨_, rfl, HOWN.out.1, HOWN.out.2⟩
def frR (r : Rec) : Fx := ⟨r.k.toNat, r.body⟩
def encR (rs : List Rec) : List UInt8 := lD (rs.map frR)
def uE (rs : List Rec) : Int := if 65536 < rs.length then 3 else if rs.all Rec.right then 0 else 50
def FD (T : TypeId) (rs : List Rec) (w : World) (e : Ending) (w' : World) : Prop :=
 (uE rs = 0 → ∃ bv, e = .returned (.tuple #[bv, .int .i64 0]) ∧ w'.ownsRow w.1.size T 1 bv (encR rs).length (bytes (encR rs))) ∧ (uE rs ≠ 0 → e = .returned (.tuple #[.slice none 0 0, .int .i64 (uE rs)])) ∧ Below w.1.size w w'
theorem FE : (Tryz.prog.info? 105).map (fun i => (i.zero, i.size, i.bytes)) = some (some (.agg #[.int .u8 0, .slice none 0 0]), 2, 32) := by kernel_rfl
theorem FH {rs : List Rec} {j : Nat} (h : j < rs.length) (hb : rs[j].right = false) : rs.all Rec.right = false := by
 rw [List.all_eq_false];exact ⟨rs[j], List.getElem_mem _, by simp [hb]⟩
theorem Ei {rs : List Rec} {j : Nat} (h : j < rs.length) (hb : rs[j].right = true) (ha : (rs.take j).all Rec.right = true) : (rs.take (j + 1)).all Rec.right = true := by
 rw [List.take_succ_eq_append_getElem h, List.all_append, ha];simp [hb]
theorem vH {cs : List Value} {c : Array Value} (h : Value.agg cs.toArray = .agg c) : cs = c.toList := by
 have h1 := congrArg Array.toList (Value.agg.inj h);simpa using h1
theorem sN (rs : List Rec) (hPut : ∀ q ∈ rs, ∀ (S : Nat → Prop) (v : Value) (w : World), bL w S false q v → Calls Tryz.prog 43 #[v] w (xc q w)) (S : Nat → Prop) (v : Value) (w : World) (hn : rs.length ≤ 70000) (hq : ∀ q ∈ rs, q.body.length ≤ 800000) (hv : oh Ea w S rs v) :
  Calls Tryz.prog 22 #[v] w (FD 5 rs w) := by
 obtain ⟨i0, hi0, hz0, hz1, hz2⟩ := info_parts FE;have HPT := hid hPut;clear hPut;obtain ⟨hl0, ra, rc, rfl, hcp0⟩ := hv.shape;have HV := hid (au (hv.keep (I := Ea) (by decide) (fun _ _ _ => rfl) (S' := fun b => b < w.1.size) (fun b hb _ => hb)) hq);clear hv hq;by_cases hlim : 65536 < rs.length
 ·have HM : Hid (uE rs = 3) := hid (by unfold uE; rw [if_pos hlim])
  have t1 : (65536 : Int) < (rs.length : Int) := by omega
  clear hlim
  go_enter Tryz.func22, Tryz.ntmps22
  go_wp2_with fail
  go_ret2
  refine ⟨fun h => ?_, fun _ => ?_, br⟩
  ·rw [HM.out] at h; cases h
  ·rw [HM.out]; rfl
 have t1 : ¬ (65536 : Int) < (rs.length : Int) := by omega
 have HM : Hid (uE rs = if rs.all Rec.right then 0 else 50) := hid (by unfold uE; rw [if_neg hlim]);clear hlim
 go_enter Tryz.func22, Tryz.ntmps22
 go_wp2_with fail
 go_loopw [4, 14] (fun sv i wr => ∃ j : Nat, j ≤ rs.length ∧ i = .int .i64 (j : Nat) ∧ (rs.take j).all Rec.right = true ∧ aS frI wr w.1.size 105 sv ((rs.take j).map frR) ∧ Below w.1.size w wr) (fun _ i _ => rs.length - (intOf i).toNat)
 case atStart => exact ⟨0, by omega, rfl, rfl, aS.nil _ _ _ nl, br⟩
 case round =>
  obtain ⟨j, hj, rfl, hall, hmk, hbel⟩ := hrel;have hsz0 := hbel.size;by_cases hlt : j < rs.length
  ·obtain ⟨bl, off, cs, rfl, hbs, hpr, hcc⟩ := oh.at (I := Ea) (by decide) HV.out.1 j hlt
   obtain ⟨r, hr⟩ : ∃ r, r = rs[j] := ⟨_, rfl⟩;rw [← hr] at hpr;have hpr : bL w (fun b => b < w.1.size) false r (.agg cs.toArray) := hpr;obtain ⟨k0, k1, k2, k3, k4, k5, k6, k7, ek, _⟩ := hpr.conc;obtain rfl := vH ek;have hpr : bL w (fun b => b < w.1.size) false r (.agg #[.int .i64 r.k, .int .u64 (r.t : Nat), .int .u64 (r.x : Nat), .int .u64 (r.w : Nat), .int .u64 (r.n : Nat), .int .u64 (r.v : Nat), .int .i64 k0, .int .u64 (k1 : Nat), .int .u64 (k2 : Nat), .slice k3 k4 k5, .slice k6 r.es.length k7]) := hpr;have hcc : ∀ k, k < 11 → wr.cell? ⟨bl, off + j * 11 + k, none⟩ = [.int .i64 r.k, .int .u64 (r.t : Nat), .int .u64 (r.x : Nat), .int .u64 (r.w : Nat), .int .u64 (r.n : Nat), .int .u64 (r.v : Nat), .int .i64 k0, .int .u64 (k1 : Nat), .int .u64 (k2 : Nat), .slice k3 k4 k5, .slice k6 r.es.length k7][k]? := fun k hk => (hbel.cell (p := ⟨bl, off + j * 11 + k, none⟩) hbs).trans (hcc k hk)
   have c0 := hcc 0 (by omega);have c1 := hcc 1 (by omega);have c2 := hcc 2 (by omega);have c3 := hcc 3 (by omega);have c4 := hcc 4 (by omega);have c5 := hcc 5 (by omega);have c6 := hcc 6 (by omega);have c7 := hcc 7 (by omega);have c8 := hcc 8 (by omega);have c9 := hcc 9 (by omega);have c10 := hcc 10 (by omega);simp only [Nat.add_zero, List.getElem?_cons_zero, List.getElem?_cons_succ] at c0 c1 c2 c3 c4 c5 c6 c7 c8 c9 c10;have hqj := HPT.out rs[j] (List.getElem_mem _);rw [← hr] at hqj;obtain ⟨sa, sc, hsv⟩ := aS.form (.inr hmk);rw [List.length_map, List.length_take, Nat.min_eq_left hj] at hsv;subst hsv;have i0' : (0 : Int) ≤ (j : Int) := (by omega);have i1' : (j : Int) < (rs.length : Int) := (by omega);have hb1 : Below wr.1.size wr (wr.alloc (.cells #[.int .i64 r.k, .int .u64 (r.t : Nat), .int .u64 (r.x : Nat), .int .u64 (r.w : Nat), .int .u64 (r.n : Nat), .int .u64 (r.v : Nat), .int .i64 k0, .int .u64 (k1 : Nat), .int .u64 (k2 : Nat), .slice k3 k4 k5, .slice k6 r.es.length k7] 73)) := br.alloc nl _;have HPUT := hid (hqj _ _ (wr.alloc (.cells #[.int .i64 r.k, .int .u64 (r.t : Nat), .int .u64 (r.x : Nat), .int .u64 (r.w : Nat), .int .u64 (r.n : Nat), .int .u64 (r.v : Nat), .int .i64 k0, .int .u64 (k1 : Nat), .int .u64 (k2 : Nat), .slice k3 k4 k5, .slice k6 r.es.length k7] 73)) (bL.below hpr (hbel.trans (hb1.mono hsz0)) nl));have HH := hid (au hall (au hmk (au hbel (au hlt (au hr hb1)))));clear hall hmk hbel hr hb1 hpr hcc ek hqj;go_wp2_with fail;refine HPUT.out.mono ?_;rintro e w2 ⟨hgo, hno, hb2⟩;have hs2 := hb2.size;rw [aD] at hs2;have hbw2 : Below w.1.size w w2 := HH.out.2.2.1.trans ((HH.out.2.2.2.2.2.trans (hb2.mono (by simp))).mono hsz0);cases hrt : r.right with
   | false =>
    obtain rfl := hno hrt;have HE : Hid (uE rs = 50) := hid (by rw [HM.out, FH HH.out.2.2.2.1 (by rw [← HH.out.2.2.2.2.1]; exact hrt)]; rfl);have HB := hid hbw2;clear hgo hno hb2 hbw2 hrt c0 c1 c2 c3 c4 c5 c6 c7 c8 c9 c10;go_wp2_with fail
    go_ret2
    refine ⟨fun h => ?_, fun _ => ?_, HB.out.alloc (by omega) _⟩
    ·rw [HE.out] at h; cases h
    ·rw [HE.out]; rfl
   | true =>
    obtain ⟨bv, rfl, hbv⟩ := hgo hrt;have hrk : ∃ kk : Nat, r.k = (kk : Int) ∧ kk = r.k.toNat := by
     have h1 := ((Rec.right_iff r).1 hrt).1;exact ⟨r.k.toNat, by omega, rfl⟩
    obtain ⟨kk, hkk, hkn⟩ := hrk;rw [hkk];obtain ⟨hbl, ad, cp, rfl, _⟩ := hbv.shape;obtain ⟨ys, hi, hh, hown, hrg⟩ := HH.out.2.1;have hml : ((rs.take j).map frR).length = j := (by rw [List.length_map, List.length_take, Nat.min_eq_left hj]);rw [hml] at hown;have hob := hown.lt;have hown' := ownsRow_below hown (HH.out.2.2.2.2.2.trans (hb2.mono (by simp))) nl;have HX := hid (au hh (au hown (au hrg (au hml (au hkn (au hbv (au hrt (au hb2 hbw2))))))));have q7 : w.1.size ≤ w2.1.size := (by omega);have q65 : j + 1 ≤ 70000 := (by omega);clear hgo hno hb2 hbw2 hrt hh hown hrg hml hkn hbv hkk c0 c1 c2 c3 c4 c5 c6 c7 c8 c9 c10
    go_wp2_with (at_builtin; go_loud (refine wpList_append_lies _ rfl (.tmp 26) (.tmp 28) 116 rfl w.1.size 105 i0 _ 2 32 Tryz.underlying116 hi0 hz0 hz1 hz2 rfl (by omega) (.slice sa j sc) j ys rfl ((hown'.alloc _).alloc _) ⟨w2.1.size + 1, 0, none⟩ 1 1 [.int .u8 (kk : Nat), .slice ad r.body.length cp] rfl rfl (World.news_of_block (cs := #[.int .u8 (kk : Nat), .slice ad r.body.length cp]) (t := 105) (fr := (0, 0)) (aK _ _ _ (by simp))) (by simp [Value.oneCell']) (by omega) (by unfold maxLen; omega) (by omega) (by rw [aD, aD]; omega) (w2.1.size + 1 + 1) (by simp) ?_); intro gg gcap w4 hown2 hgrow hat hlt2)
    have HG := hid (au hown2 (au hgrow hat));clear hown2 hgrow hat hown';go_wp2_with fail;go_roundw
    case rel =>
     obtain ⟨hh, hown, hrg, hml, hkn, hbv, hrt, hb2, hbw2⟩ := HX.out;have hrr : rs[j]'HH.out.2.2.2.1 = r := HH.out.2.2.2.2.1.symm;refine ⟨j + 1, HH.out.2.2.2.1, by go_num, Ei HH.out.2.2.2.1 (by rw [hrr]; exact hrt) HH.out.1, ?_, ?_⟩
     ·have hmm : (rs.take (j + 1)).map frR = (rs.take j).map frR ++ [⟨kk, r.body⟩] := by
       rw [List.take_succ_eq_append_getElem HH.out.2.2.2.1, List.map_append, hrr, hkn];rfl
      rw [hmm];have hp := aS.push (I := frI) (q := ⟨kk, r.body⟩) (cs := [.int .u8 (kk : Nat), .slice ad r.body.length cp]) hh (by rw [hml]; exact hown) hrg (HH.out.2.2.2.2.2.trans (hb2.mono (by simp))) nl ⟨_, rfl, Sl.keep (Sl.unown hbv) (by omega) (fun _ _ _ => rfl) (fun b hl hb => by have hb : (wr.alloc _).1.size ≤ b := hb; rw [aD] at hb; omega)⟩ ((br.alloc nl _).alloc (by simp) _) HG.out.2.1 (by rw [hml]; exact HG.out.1) (HG.out.2.2.imp id (by omega));rw [hml] at hp;exact hp
     ·exact ((hbw2.alloc q7 _).alloc (by simp; omega) _).grown HG.out.2.1 (by simp; omega) (fun k hk => (hob k hk).1)
    case measure => have := HH.out.2.2.2.1; simp [intOf]; omega
  ·obtain rfl : j = rs.length := by omega
   rw [List.take_length] at hall hmk;have HE : Hid (uE rs = 0) := hid (by rw [HM.out, hall]; rfl);have hrl := hmk.pK (I := frI) (by decide);have hrl2 := hrl.keep (I := frI) (S' := fun b => b < wr.1.size) (by decide) (fun _ _ _ => rfl) (fun b hb _ => hb);have HF := hid (Ar (rs.map frR) _ wr (by rw [List.length_map]; exact hn) (fun x hx => by
    obtain ⟨q, hq, rfl⟩ := List.mem_map.1 hx;have h1 := (Rec.right_iff q).1 (List.all_eq_true.1 hall q hq);refine ⟨?_, HV.out.2 q hq⟩;have h2 := h1.1;have h3 := h1.2.1;show q.k.toNat < 256;omega) hrl2)
   have HB := hid hbel;clear hall hmk hbel hrl hrl2;go_wp2_with fail;refine HF.out.mono ?_;rintro e w2 ⟨bv, rfl, hown, hb2⟩;have HO := hid (au hown hb2);clear hown hb2;go_wp2_with fail
   go_ret2
   exact ⟨fun _ => ⟨bv, rfl, ko HO.out.1 hsz0⟩, fun h => absurd HE.out h, HB.out.trans (HO.out.2.mono hsz0)⟩
end Go.Proofs.YtlpgokcapdjgjaaGreatDoor
