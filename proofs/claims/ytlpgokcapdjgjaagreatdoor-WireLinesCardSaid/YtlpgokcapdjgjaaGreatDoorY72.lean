/- Walks. -/
import Derived.Test.YtlpgokcapdjgjaaGreatDoorY70
import Derived.Test.YtlpgokcapdjgjaaGreatDoorYW46
import Derived.Lib.ConvBytes
import Derived.Lib.Strings
import Derived.Lib.AtoiErrMem
import Derived.Laws.IdiomStrings
set_option maxHeartbeats 2000000
set_option maxRecDepth 100000
namespace Go.Proofs.YtlpgokcapdjgjaaGreatDoor
open Go.RowKit Go
set_option linter.unusedVariables false
set_option linter.unusedSimpArgs false
section
variable {P : Program} (w : World)
end
structure Frm where
 rule : Int
 kind : Nat
 pay : List UInt8
 len : Nat
def Frm.no (r : Int) : Frm := ⟨r, 0, [], 0⟩
def bg (l : List UInt8) : Frm := match l with
 | [] => .no 1
 | k :: r => if fO r = 10 then .no 2 else match bB r with
  | none => .no 1
  | some x => if x.2.length < x.1 + 4 then .no 1 else
   if l.take (dY k.toNat (x.2.take x.1)).length = dY k.toNat (x.2.take x.1) then ⟨0, k.toNat, x.2.take x.1, (dY k.toNat (x.2.take x.1)).length⟩ else .no 3
theorem Ct : bg [] = .no 1 := rfl
theorem Cu {k : UInt8} {r : List UInt8} (h : fO r = 10) : bg (k :: r) = .no 2 := by unfold bg; simp only [if_pos h]
theorem AO {k : UInt8} {r : List UInt8} (h : fO r ≠ 10) (h2 : bB r = none) : bg (k :: r) = .no 1 := by unfold bg; simp only [if_neg h, h2]
theorem yE {k : UInt8} {r s : List UInt8} {n : Nat} (h2 : bB r = some (n, s)) (h3 : s.length < n + 4) : bg (k :: r) = .no 1 := by
 have h : fO r ≠ 10 := fun e => by have := (ib r).2 (by rw [h2]; rfl); omega
 unfold bg; simp only [if_neg h, h2, if_pos h3]
theorem qK {k : UInt8} {r s : List UInt8} {n : Nat} (h2 : bB r = some (n, s)) (h3 : n + 4 ≤ s.length) : (k :: r).take (1 + (r.length - s.length) + n) = bF k.toNat (s.take n) ∧ (bF k.toNat (s.take n)).length = 1 + (r.length - s.length) + n := by
 obtain ⟨e, hn⟩ := bi h2
 have hl : (s.take n).length = n := by simp; omega
 have hp : r.length - s.length = (dA n).length := by rw [e]; simp
 have hh : bF k.toNat (s.take n) = k :: (dA n ++ s.take n) := by
  unfold bF
  rw [hl]
  simp [bC]
 rw [hp, hh]
 refine ⟨?_, by simp; omega⟩
 rw [e, show 1 + (dA n).length + n = ((dA n).length + n) + 1 from by omega, List.take_succ_cons, List.take_append]
 simp
 exact List.take_of_length_le (by omega)
theorem AP (k : Nat) (p : List UInt8) : (mD (Crc.jh (bF k p))).length = 4 := by unfold mD; rw [jT]
theorem yF {k : UInt8} {r s : List UInt8} {n : Nat} (h2 : bB r = some (n, s)) (h3 : n + 4 ≤ s.length) :
  bg (k :: r) = if mD (Crc.jh (bF k.toNat (s.take n))) = (s.drop n).take 4 then ⟨0, k.toNat, s.take n, 1 + (r.length - s.length) + n + 4⟩ else .no 3 := by
 have h : fO r ≠ 10 := fun e => by have := (ib r).2 (by rw [h2]; rfl); omega
 obtain ⟨g1, g2⟩ := qK (k := k) h2 h3
 have g3 := AP k.toNat (s.take n)
 have hb : (dY k.toNat (s.take n)).length = 1 + (r.length - s.length) + n + 4 := by unfold dY; rw [List.length_append, g2, g3]
 obtain ⟨e, hn⟩ := bi h2
 have hd : (k :: r).drop (1 + (r.length - s.length) + n) = s.drop n := by
  have hp : r.length - s.length = (dA n).length := by rw [e]; simp
  rw [hp, e, show 1 + (dA n).length + n = ((dA n).length + n) + 1 from by omega, List.drop_succ_cons, List.drop_append]
  simp
 have ht : (k :: r).take (1 + (r.length - s.length) + n + 4) = bF k.toNat (s.take n) ++ (s.drop n).take 4 := by rw [List.take_add, g1, hd]
 unfold bg
 simp only [if_neg h, h2, if_neg (show ¬ s.length < n + 4 from by omega)]
 rw [hb, ht]
 unfold dY
 by_cases hc : mD (Crc.jh (bF k.toNat (s.take n))) = (s.drop n).take 4
 ·rw [if_pos hc, if_pos (by rw [hc])]
 ·rw [if_neg hc, if_neg (fun e => hc (List.append_cancel_left e).symm)]
theorem tF (S : Nat → Prop) (own : Bool) (l : List UInt8) (v : Value) (w : World) (h : aF w S own l v) : (convert 32 9 v).run Tryz.prog w = .ok (.string ⟨l.toArray⟩) w := by
 obtain ⟨_, ad, cap, rfl, _⟩ := h.shape
 cases l with
 | nil =>
  cases ad with
  | none => rw [show ([] : List UInt8).length = 0 from rfl, run_convert_bytes_string (P := Tryz.prog) w 32 9 5 none 0 cap Tryz.underlying32 Tryz.underlying5 Tryz.underlying9]; rfl
  | some a => exact run_convert_bytes_back (P := Tryz.prog) w 32 9 5 a cap [] Tryz.underlying32 Tryz.underlying5 Tryz.underlying9 (fun j hj => by simp at hj)
 | cons c l =>
  obtain ⟨bl, off, rfl, _, hc⟩ := h.cell (by simp)
  exact run_convert_bytes_back (P := Tryz.prog) w 32 9 5 ⟨bl, off, none⟩ cap (c :: l) Tryz.underlying32 Tryz.underlying5 Tryz.underlying9 (fun j hj => by rw [Addr.add_lit]; exact (hc j hj).1)
theorem qL (S S' : Nat → Prop) (own own' : Bool) (l l' : List UInt8) (v v' : Value) (w : World) (h : aF w S own l v) (h' : aF w S' own' l' v') :
  Calls Tryz.prog 179 #[v, v'] w fun e w' => e = .returned (.bool (decide (l = l'))) ∧ w' = w := by
 have q1 := tF S own l v w h
 have q2 := tF S' own' l' v' w h'
 obtain ⟨A, hA⟩ : ∃ A : ByteArray, A = ⟨l.toArray⟩ := ⟨_, rfl⟩
 obtain ⟨B, hB⟩ : ∃ B : ByteArray, B = ⟨l'.toArray⟩ := ⟨_, rfl⟩
 rw [← hA] at q1
 rw [← hB] at q2
 have hd : (A.toList == B.toList) = decide (l = l') := by
  rw [hA, hB, ByteArray.toList_eq, ByteArray.toList_eq, Bool.eq_iff_iff]
  simp
 have HD := hid hd
 obtain ⟨_, ad, cap, rfl, _⟩ := h.shape
 obtain ⟨_, ad', cap', rfl, _⟩ := h'.shape
 clear h h' hA hB hd
 go_enter Tryz.func179, Tryz.ntmps179
 go_wp2_with fail
 go_ret
 refine ⟨ah ?_, rfl⟩
 rw [← HD.out]
structure Plc where
 q : Rec
 fr : Nat
 tp : Nat
structure FPl where
 kind : Nat
 pay : List UInt8
 fr : Nat
 tp : Nat
theorem iY {l : List UInt8} (h : (bg l).rule = 0) : 0 < (bg l).len ∧ (bg l).len ≤ l.length ∧ (bg l).kind < 256 ∧ (bg l).pay.length ≤ l.length ∧ l.take (bg l).len = dY (bg l).kind (bg l).pay := by
 unfold bg at h ⊢
 split at h
 ·exact absurd h (by decide)
 ·rename_i k r
  split at h
  ·exact absurd h (by decide)
  ·rename_i h10
   rw [if_neg h10]
   split at h
   ·exact absurd h (by decide)
   ·rename_i x hx
    split at h
    ·exact absurd h (by decide)
    ·rename_i hlt
     split at h
     ·rename_i ht
      simp only [if_neg hlt, if_pos ht]
      have h1 : (dY k.toNat (x.2.take x.1)).length ≤ (k :: r).length := by
       have h2 := congrArg List.length ht
       rw [List.length_take] at h2
       omega
      obtain ⟨e, hn⟩ := bi hx
      have h3 : x.2.length ≤ r.length := by have h4 := congrArg List.length e; rw [List.length_append] at h4; omega
      refine ⟨?_, h1, k.toNat_lt, by simp only [List.length_take, List.length_cons]; omega, ht⟩
      unfold dY bF
      simp only [List.length_append, List.length_cons]
      omega
     ·exact absurd h (by decide)
def rQ (b : List UInt8) : Nat → Nat → List Plc × Nat × Int
 | 0, p => ([], p, 0)
 | f + 1, p => if b.length ≤ p then ([], p, 0) else
   if (bg (b.drop p)).rule = 0 then
    match bW (bg (b.drop p)).kind (bg (b.drop p)).pay with
    | some q => (⟨q, p, p + (bg (b.drop p)).len⟩ :: (rQ b f (p + (bg (b.drop p)).len)).1, (rQ b f (p + (bg (b.drop p)).len)).2)
    | none => ([], p, eQ (bg (b.drop p)).kind (bg (b.drop p)).pay)
   else ([], p, (bg (b.drop p)).rule)
def qM (b : List UInt8) : List Plc × Nat × Int := rQ b b.length 0
inductive iM (b : List UInt8) : List Plc → Nat → Prop
 | nil : iM b [] 0
 | snoc {a : List Plc} {p : Nat} {q : Rec} (h : iM b a p) (hp : p < b.length) (hr : (bg (b.drop p)).rule = 0) (hq : bW (bg (b.drop p)).kind (bg (b.drop p)).pay = some q) : iM b (a ++ [⟨q, p, p + (bg (b.drop p)).len⟩]) (p + (bg (b.drop p)).len)
theorem iM.le {b : List UInt8} {a : List Plc} {p : Nat} (h : iM b a p) : p ≤ b.length ∧ a.length ≤ p := by
 induction h with
 | nil => simp
 | snoc h hp hr hq ih =>
  obtain ⟨h1, h2, _⟩ := iY hr
  simp only [List.length_append, List.length_cons, List.length_nil, List.length_drop] at h2 ⊢
  omega
theorem iM.rest {b : List UInt8} {a : List Plc} {p : Nat} (h : iM b a p) : ∃ f, b.length ≤ p + f ∧ qM b = (a ++ (rQ b f p).1, (rQ b f p).2) := by
 induction h with
 | nil => exact ⟨b.length, by omega, by simp [qM]⟩
 | snoc h hp hr hq ih =>
  rename_i a p q
  obtain ⟨f, hf, e⟩ := ih
  obtain ⟨f', rfl⟩ : ∃ f', f = f' + 1 := ⟨f - 1, by omega⟩
  have hg := iY hr
  refine ⟨f', by omega, ?_⟩
  rw [e, rQ, if_neg (by omega), if_pos hr, hq]
  simp
theorem iM.done {b : List UInt8} {a : List Plc} {p : Nat} (h : iM b a p) (hp : ¬ p < b.length) : qM b = (a, b.length, 0) := by
 have hl := h.le.1
 obtain rfl : p = b.length := by omega
 obtain ⟨f, _, e⟩ := h.rest
 rw [e]
 cases f with
 | zero => simp [rQ]
 | succ f => rw [rQ, if_pos (by omega)]; simp
theorem iM.cut {b : List UInt8} {a : List Plc} {p : Nat} (h : iM b a p) (hp : p < b.length) (hr : (bg (b.drop p)).rule ≠ 0) : qM b = (a, p, (bg (b.drop p)).rule) := by
 obtain ⟨f, hf, e⟩ := h.rest
 obtain ⟨f', rfl⟩ : ∃ f', f = f' + 1 := ⟨f - 1, by omega⟩
 rw [e, rQ, if_neg (by omega), if_neg hr]
 simp
theorem iM.bad {b : List UInt8} {a : List Plc} {p : Nat} (h : iM b a p) (hp : p < b.length) (hr : (bg (b.drop p)).rule = 0) (hq : bW (bg (b.drop p)).kind (bg (b.drop p)).pay = none) :
  qM b = (a, p, eQ (bg (b.drop p)).kind (bg (b.drop p)).pay) := by
 obtain ⟨f, hf, e⟩ := h.rest
 obtain ⟨f', rfl⟩ : ∃ f', f = f' + 1 := ⟨f - 1, by omega⟩
 rw [e, rQ, if_neg (by omega), if_pos hr, hq]
 simp
theorem rR {P : Program} {o : Oper} {a : Act} {w : World} {K : Act → World → Prop} {Q : Exit → Act → World → Prop} (ty : TypeId) (x y : Operand) (ho : o.op = .store ty x y)
  (g : Nat) (hx : a.eval x = .pointer (some ⟨g, 0, none⟩)) (cs : Array Value) (hy : a.eval y = .agg cs) (t : TypeId) (cur : Array Value) (hg : w.heap[g]? = some (.cells cur t (0, 0)))
  (hi : (P.info? ty).map (·.size) = some cs.size) (hsz : cs.size = cur.size) (h1 : ∀ v ∈ cs.toList, v.oneCell' = true)
  (h : K (a.put o.dst undef) (w.setRow g cs)) : Oper.wp P o a w K Q := by
 unfold Oper.wp execOp
 simp only [ho, hx, hy, Instr.storeAt, Instr.sureAddr, Sem.run_bind, Sem.run_pure, Result.andThen_ok, run_storeVar_row w g t ty cur cs hg hi hsz h1]
 exact h
theorem rT {S : Nat → Prop} {w : World} {g : Nat} {cs : Array Value} (h : ¬ S g) : dz S w (w.setRow g cs) := fun b hb _ => setRow_other _ _ _ _ (fun e => h (e ▸ hb))
def AQ (k : Nat) (l : List UInt8) (S : Nat → Prop) (v : Value) (w : World) : Prop := ∃ pv, v = .agg #[.int .u8 (k : Nat), pv] ∧ aF w S true l pv
theorem tH (k : Nat) (l : List UInt8) : iO (AQ k l) := fun S S' v w w' hk hs hS h => by
 obtain ⟨pv, h1, h2⟩ := h
 exact ⟨pv, h1, Sl.keep (w := w) h2 (by omega) hk hS⟩
def qN (w : World) (a : Nat) (f : Frm) (e : Ending) (w' : World) : Prop := ∃ pv, e = .returned (.tuple #[.agg #[.int .u8 (f.kind : Nat), pv], .int .i64 (if f.rule = 0 then ((a + f.len : Nat) : Int) else 0), .int .i64 f.rule]) ∧ aF w' (fun b => w.heap.size ≤ b) true f.pay pv ∧ Below w.heap.size w w'
theorem iy {w w' : World} {a : Nat} {r : Int} (h0 : r ≠ 0) (hb : Below w.heap.size w w') : qN w a (.no r) (.returned (.tuple #[.agg #[.int .u8 0, .slice none 0 0], .int .i64 0, .int .i64 r])) w' :=
 ⟨_, by unfold Frm.no; simp only [if_neg h0]; rfl, aF.none, hb⟩
theorem AR (S : Nat → Prop) (own : Bool) (b : List UInt8) (v : Value) (p0 : Nat) (w : World) (hr : aF w S own b v) (ha : p0 ≤ b.length) (hb : b.length ≤ 100000) :
  Calls Tryz.prog 114 #[v, .int .i64 p0] w (qN w p0 (bg (b.drop p0))) := by
 obtain ⟨_, ad, cap, rfl, hc⟩ := hr.shape
 have g0 := heap_alloc_new w (.cells #[.int .u8 0, .slice none 0 0] 105)
 have hb0 : Below w.heap.size w (w.alloc (.cells #[.int .u8 0, .slice none 0 0] 105)) := br.alloc nl _
 have hs0 : (w.alloc (.cells #[.int .u8 0, .slice none 0 0] 105)).heap.size = w.heap.size + 1 := World.size_alloc _ _
 have HR := hid (hr.below hb0 nl)
 have HB := hid hb0
 clear hr hb0
 by_cases he : p0 < b.length
 ·obtain ⟨k, r, hkr⟩ : ∃ k r, b.drop p0 = k :: r := by
   cases h : b.drop p0 with
   | nil => have := congrArg List.length h; simp at this; omega
   | cons k r => exact ⟨k, r, rfl⟩
  have hrd : r = b.drop (p0 + 1) := by rw [← List.drop_drop, hkr]; rfl
  have hrl : r.length = b.length - (p0 + 1) := by rw [hrd]; simp
  have HG := hid (qH S own b _ (p0 + 1) _ HR.out (by omega) (by omega))
  rw [← hrd] at HG
  have HKR := hid (And.intro hkr hrd)
  rw [hkr]
  clear hkr hrd
  go_enter Tryz.func114, Tryz.ntmps114
  go_wp2_with fail
  refine HG.out.mono ?_
  rintro e w1 ⟨rfl, hb1⟩
  unfold yA
  have g1 : w1.heap[w.heap.size]? = some (.cells #[.int .u8 0, .slice none 0 0] 105 (0, 0)) := (hb1.block _ (by omega)).trans g0
  have HB1 := hid (HB.out.trans (hb1.mono (by omega)))
  have HR1 := hid (HR.out.below hb1 nl)
  have hs1 := hb1.size
  clear hb1 g0
  by_cases h10 : fO r = 10
  ·have t1 : (fO r == 10) = true := by simp [h10]
   have HE := hid (Cu (k := k) h10)
   clear h10
   go_wp2_with (refine wpList_store_row rfl 105 (.tmp 4) (.tmp 31) rfl rfl w.heap.size rfl _ rfl 105 _ g1 (by kernel_rfl) rfl (by simp [Value.oneCell']) ?_)
   exact bodyPost_ret (v := .tuple #[.agg #[.int .u8 0, .slice none 0 0], .int .i64 0, .int .i64 2]) (aC rfl _ _ w.heap.size 105 _ _ _ _ _ rfl (setRow_heap _ _ _ _ _ _ g1) Tryz.underlying105 rfl (by kernel_rfl) rfl rfl) rfl (by rw [HE.out]; exact iy (r := 2) (by decide) (below_setRow HB1.out _ _ nl))
  ·have t1 : (fO r == 10) = false := by simp [h10]
   cases hv : bB r with
   | none =>
    have hc0 : (fO r != 0) = true := by
     have : ¬ fO r = 0 := fun e => by have := (ib r).1 e; rw [hv] at this; cases this
     simpa using this
    have HE := hid (AO (k := k) h10 hv)
    clear h10 hv
    go_wp2_with (refine wpList_store_row rfl 105 (.tmp 4) (.tmp 52) rfl rfl w.heap.size rfl _ rfl 105 _ g1 (by kernel_rfl) rfl (by simp [Value.oneCell']) ?_)
    exact bodyPost_ret (v := .tuple #[.agg #[.int .u8 0, .slice none 0 0], .int .i64 0, .int .i64 1]) (aC rfl _ _ w.heap.size 105 _ _ _ _ _ rfl (setRow_heap _ _ _ _ _ _ g1) Tryz.underlying105 rfl (by kernel_rfl) rfl rfl) rfl (by rw [HE.out]; exact iy (r := 1) (by decide) (below_setRow HB1.out _ _ nl))
   | some x =>
    obtain ⟨n, s⟩ := x
    have hc0 : (fO r != 0) = false := by
     have : fO r = 0 := (ib r).2 (by rw [hv]; rfl)
     simp [this]
    have hsl := pF hv
    have hgn : uj r = n := by unfold uj; rw [hv]
    have hga : iQ (p0 + 1) r = p0 + 1 + (r.length - s.length) := by unfold iQ; rw [hv]
    have hn64 := ui hv
    rw [hgn, hga]
    obtain ⟨f0, hf0⟩ : ∃ f0, f0 = p0 + 1 + (r.length - s.length) := ⟨_, rfl⟩
    rw [← hf0]
    have HF0 := hid (And.intro hf0 hrl)
    obtain ⟨sl, hsl0⟩ : ∃ sl, sl = s.length := ⟨_, rfl⟩
    have hfl : f0 + sl = b.length := by omega
    have hfa : p0 + 1 ≤ f0 := by omega
    have HV := hid hv
    have HSL := hid hsl0
    clear h10 hgn hga hv hf0 hrl hsl hsl0
    by_cases h4 : sl < n + 4
    ·have HE := hid (yE (k := k) HV.out (by have := HSL.out; omega))
     by_cases h5 : sl < 4
     ·go_wp2_with (refine wpList_store_row rfl 105 (.tmp 4) (.tmp 52) rfl rfl w.heap.size rfl _ rfl 105 _ g1 (by kernel_rfl) rfl (by simp [Value.oneCell']) ?_)
      exact bodyPost_ret (v := .tuple #[.agg #[.int .u8 0, .slice none 0 0], .int .i64 0, .int .i64 1]) (aC rfl _ _ w.heap.size 105 _ _ _ _ _ rfl (setRow_heap _ _ _ _ _ _ g1) Tryz.underlying105 rfl (by kernel_rfl) rfl rfl) rfl (by rw [HE.out]; exact iy (r := 1) (by decide) (below_setRow HB1.out _ _ nl))
     ·go_wp2_with (refine wpList_store_row rfl 105 (.tmp 4) (.tmp 52) rfl rfl w.heap.size rfl _ rfl 105 _ g1 (by kernel_rfl) rfl (by simp [Value.oneCell']) ?_)
      exact bodyPost_ret (v := .tuple #[.agg #[.int .u8 0, .slice none 0 0], .int .i64 0, .int .i64 1]) (aC rfl _ _ w.heap.size 105 _ _ _ _ _ rfl (setRow_heap _ _ _ _ _ _ g1) Tryz.underlying105 rfl (by kernel_rfl) rfl rfl) rfl (by rw [HE.out]; exact iy (r := 1) (by decide) (below_setRow HB1.out _ _ nl))
    ·have h4' : n + 4 ≤ s.length := by have := HSL.out; omega
     have hn4 : n + 4 ≤ sl := by omega
     obtain ⟨E, hE0⟩ : ∃ E, E = f0 + n := ⟨_, rfl⟩
     have hE : (f0 : Int) + (n : Int) = (E : Int) := by omega
     have i1 : (0 : Int) ≤ (p0 : Int) := by omega
     have i2 : (p0 : Int) ≤ (E : Int) := by omega
     have i3 : (E : Int) ≤ (cap : Int) := by omega
     have i4 : (0 : Int) ≤ (E : Int) := by omega
     have i5 : (E : Int) ≤ (E : Int) + 4 := by omega
     have i6 : (E : Int) + 4 ≤ (cap : Int) := by omega
     have i7 : (0 : Int) ≤ (E : Int) + 4 := by omega
     have i8 : ((E : Int) + 4).toNat = E + 4 := by omega
     have i9 : IntKind.i64.wrap ((E : Int) + 4) = (E : Int) + 4 := by rw [IntKind.wrap_i64]; omega
     have n1 : p0 ≤ E := by omega
     have n2 : E ≤ cap := by omega
     have n4 : E + 4 ≤ cap := by omega
     have n5 : E + 4 - E = 4 := by omega
     have HE := hid (And.intro hE0 hn4)
     clear hE0
     go_upto_region 9 with fail
     have hcc := yF (k := k) HV.out h4'
     obtain ⟨fh1, fh2⟩ := qK (k := k) HV.out h4'
     have hcut : 1 + (r.length - s.length) + n = E - p0 := by have := HF0.out.1; have := HE.out.1; omega
     rw [hcut] at fh1 fh2
     have hdr : (s.drop n).take 4 = (b.drop E).take 4 := by
      have e2 : s = b.drop f0 := by
       have := nC HV.out
       rw [this, HKR.out.2, List.drop_drop]
       congr 1
       rw [← HKR.out.2]; have := HF0.out.1; omega
      rw [e2, List.drop_drop, HE.out.1]
     have HH : Hid (∀ w', Below w1.heap.size w1 w' → aF w' (fun k => k < w'.heap.size) false (bF k.toNat (s.take n)) (.slice (ad.map fun x => x.add p0) (E - p0) (cap - p0))) := hid (fun w' hb' => by
      have h := (aF.cut HR1.out p0 (E - p0) (cap - p0) (by have := HE.out.1; omega) (by omega)).below hb' nl
      rw [HKR.out.1, fh1] at h
      exact Sl.unown (Sl.keep h (by omega) (fun _ _ _ => rfl) (fun b hb _ => hb)))
     have HS : Hid (∀ w', Below w1.heap.size w1 w' → aF w' S own ((s.drop n).take 4) (.slice (ad.map fun x => x.add E) 4 (cap - E))) := hid (fun w' hb' => by
      have h := (aF.cut HR1.out E 4 (cap - E) (by have := HE.out.2; omega) (by omega)).below hb' nl
      rw [hdr]; exact h)
     have HL := hid (show (bF k.toNat (s.take n)).length ≤ 1000000 by rw [fh2]; have := HE.out.1; omega)
     have HCC := hid hcc
     clear hcc fh1 fh2 hdr hcut h4 h4'
     have y1 : (p0 == cap) = false := by have := HE.out.1; simp; omega
     have y2 : ¬ p0 = cap := by have := HE.out.1; omega
     have y3 : ¬ cap = p0 := by have := HE.out.1; omega
     have z1 : (E == cap) = false := by have := HE.out.2; simp; omega
     have z2 : ¬ E = cap := by have := HE.out.2; omega
     have z3 : ¬ cap = E := by have := HE.out.2; omega
     obtain ⟨qd, hqd⟩ : ∃ qd, qd = decide (mD (Crc.jh (bF k.toNat (s.take n))) = (s.drop n).take 4) := ⟨_, rfl⟩
     have HQD := hid hqd
     clear hqd
     have hbW : Below w1.heap.size w1 w1 := br
     go_region_held3 (fun w' => True)
      (first
       | exact trivial
       | go_keep)
      (first
       | (go_at_call 87; go_fit (sP (bF k.toNat (s.take n)) _ _ HL.out (HH.out _ (by first | exact hbW | exact hbW.drew))); rintro e w2 ⟨cv, rfl, hown2, hbx⟩; have HCV := hid (aF.of_owns hown2); obtain ⟨sa2, sc2, rfl⟩ := au hown2; replace hbW := (by first | exact hbW.trans (hbx.mono hbW.size) | exact hbW.drew.trans (hbx.mono hbW.size)); clear hbx)
       | (go_at_call 179; go_fit (qL _ _ _ _ (mD (Crc.jh (bF k.toNat (s.take n)))) ((s.drop n).take 4) _ _ _ (by first | exact HCV.out | exact aF.of_owns hown2) (HS.out _ (by first | exact hbW | exact hbW.drew))); rintro e w3 ⟨rfl, rfl⟩; rw [← HQD.out])
       | fail)
     have hsz3 := hbW.size
     have g3 := (hbW.block _ (by omega)).trans g1
     have HB3 := hid (HB1.out.trans (hbW.mono (by omega)))
     have HR3 := hid (HR1.out.below hbW nl)
     cases qd with
     | true =>
      have hq := of_decide_eq_true HQD.out.symm
      have HF : Hid (bg (k :: r) = ⟨0, k.toNat, s.take n, E + 4 - p0⟩) := hid (by rw [HCC.out, if_pos hq]; have := HF0.out.1; have := HE.out.1; congr 1; omega)
      obtain ⟨bl, off, rfl, _, q0⟩ := aF.at8 HR3.out he
      have hk8 : at8 b p0 = k.toNat := by
       have := kZ b p0 he
       rw [this]
       have h2 : (b.drop p0)[0]? = some k := by rw [HKR.out.1]; rfl
       rw [List.getElem?_drop, Nat.add_zero, List.getElem?_eq_getElem he] at h2
       injection h2 with h2
       rw [h2]
      rw [hk8] at q0
      have hbl := World.block_lt_of_cell? _ ⟨bl, off + p0, none⟩ q0
      have HP := hid (fun w' (hb' : Below w3.heap.size w3 w') => show aF w' S own (s.take n) (.slice (some ⟨bl, off + f0, none⟩) n (cap - f0)) from by
       have h := (aF.cut HR3.out f0 n (cap - f0) (by have := HE.out.1; omega) (by have := HE.out.1; omega)).below hb' nl
       have e2 : s = b.drop f0 := by
        have := nC HV.out
        rw [this, HKR.out.2, List.drop_drop]
        congr 1
        rw [← HKR.out.2]; have := HF0.out.1; omega
       rw [← e2] at h
       simp only [Option.map_some, Addr.add_lit] at h
       exact h)
      obtain ⟨pl, hpe⟩ : ∃ pl, pl = s.take n := ⟨_, rfl⟩
      have HPL := hid (And.intro hpe (show pl.length = n by rw [hpe]; have := HSL.out; simp; omega))
      rw [← hpe] at HF HP
      clear hpe
      have j1 : (0 : Int) ≤ (f0 : Int) := by omega
      have j2 : (f0 : Int) ≤ (E : Int) := by have := HE.out.1; omega
      have j3 : f0 ≤ E := by have := HE.out.1; omega
      have j4 : E - f0 = n := by have := HE.out.1; omega
      have j5 : (f0 == cap) = false := by have := HE.out.1; simp; omega
      have j6 : ¬ f0 = cap := by have := HE.out.1; omega
      have j7 : ¬ cap = f0 := by have := HE.out.1; omega
      have j8 : (p0 : Int) < (b.length : Int) := by omega
      have hbV : Below w3.heap.size w3 w3 := br
      clear hq hbW g1 HH HS
      go_upto_region 11 with fail
      refine qf (w0 := w3) rfl [.eq (.slice (some ⟨bl, off, none⟩) b.length cap), .eq (.int .i64 (p0 : Nat)), .eq (.pointer (some ⟨bl, off + p0, none⟩)), .eq (.int .u8 (k.toNat : Nat)), .eq (.slice (some ⟨bl, off, none⟩) b.length cap), .eq (.int .i64 (f0 : Nat)), .eq (.int .i64 (E : Nat)), .eq (.slice (some ⟨bl, off + f0, none⟩) n (cap - f0)), .of (Cj pl), .of (AQ k.toNat pl), .eq (.int .i64 (E : Nat)), .eq (.int .i64 ((E : Int) + 4)), .tail, .eq (.int .i64 ((E : Int) + 4)), .eq ((Value.int IntKind.i64 0))] 12 [] [10, 11, 13, 14] (by kernel_rfl) ⟨?_, ?_, ?_, ?_, ?_, ?_, ?_, ?_, ?_, ?_, ?_, ?_, ?_, ?_, ?_, ?_, trivial⟩ ⟨?_, ?_, ?_, ?_, trivial⟩ [fun vs w' => ∃ wx pv, vs 9 = .agg #[.int .u8 (k.toNat : Nat), pv] ∧ Below w3.heap.size w3 wx ∧ aF wx (fun b => w3.heap.size ≤ b) true pl pv ∧ w' = wx.setRow w.heap.size #[.int .u8 (k.toNat : Nat), pv]] ⟨?_, trivial⟩ (fun vs => [(70, (.slice (some ⟨bl, off, none⟩) b.length cap)), (71, (.int .i64 (p0 : Nat))), (72, (.pointer (some ⟨bl, off + p0, none⟩))), (73, (.int .u8 (k.toNat : Nat))), (74, (.slice (some ⟨bl, off, none⟩) b.length cap)), (75, (.int .i64 (f0 : Nat))), (76, (.int .i64 (E : Nat))), (77, (.slice (some ⟨bl, off + f0, none⟩) n (cap - f0))), (78, vs 8), (79, vs 9), (80, (.int .i64 (E : Nat))), (81, (.int .i64 ((E : Int) + 4))), (5, (.int .i64 ((E : Int) + 4))), (6, ((Value.int IntKind.i64 0)))]) (fun _ => rfl) ?_
      ·refine rs fun S a wx K Q hR hK => ?_
       have t0 : a.tmps[0]? = some (.slice (some ⟨bl, off, none⟩) b.length cap) := hR.o 0
       go_simp
       exact hK _ _ br rfl
      ·refine rs fun S a wx K Q hR hK => ?_
       have t1 : a.tmps[1]? = some (.int .i64 (p0 : Nat)) := hR.o 1
       go_simp
       exact hK _ _ br rfl
      ·refine rs fun S a wx K Q hR hK => ?_
       have t70 := hR.q 0
       have t71 := hR.q 1
       go_simp
       exact hK _ _ br rfl
      ·refine rs fun S a wx K Q hR hK => ?_
       have t72 := hR.q 2
       have y0 := (hR.bel.cell (p := ⟨bl, off + p0, none⟩) hbl).trans q0
       go_simp
       exact hK _ _ br rfl
      ·refine rs fun S a wx K Q hR hK => ?_
       have t0 : a.tmps[0]? = some (.slice (some ⟨bl, off, none⟩) b.length cap) := hR.o 0
       go_simp
       exact hK _ _ br rfl
      ·refine rs fun S a wx K Q hR hK => ?_
       have t8 : a.tmps[8]? = some (.int .i64 (f0 : Nat)) := hR.o 8
       go_simp
       exact hK _ _ br rfl
      ·refine rs fun S a wx K Q hR hK => ?_
       have t10 : a.tmps[10]? = some (.int .i64 (E : Nat)) := hR.o 10
       go_simp
       exact hK _ _ br rfl
      ·refine rs fun S a wx K Q hR hK => ?_
       have t74 := hR.q 4
       have t75 := hR.q 5
       have t76 := hR.q 6
       go_simp
       exact hK _ _ br rfl
      ·exact wH _
      ·refine rs fun S a wx K Q hR hK => ?_
       have t77 := hR.q 7
       go_simp
       go_at_call 65
       go_fit (fI _ _ pl _ _ (HP.out _ hR.bel) (by have := HPL.out.2; omega))
       rintro e w' ⟨pv, rfl, hown4, hbx⟩
       exact hK _ _ hbx (Sl.keep (aF.of_owns hown4) (by omega) (fun _ _ _ => rfl) (fun b _ hb => hR.new b hb.2))
      ·exact tH _ _
      ·refine rs fun S a wx K Q hR hK => ?_
       have t73 := hR.q 3
       obtain ⟨u78, t78, f78⟩ := hR.f 8
       obtain ⟨_, a78, c78, rfl, _⟩ := aF.shape (show aF wx S true pl u78 from f78)
       go_simp
       exact hK _ _ br ⟨_, rfl, f78⟩
      ·refine fT.step rfl (fT.mk rfl rfl (fun a wx K Q hR hK => ?_))
       have t10 : a.tmps[10]? = some (.int .i64 (E : Nat)) := hR.o 10
       go_simp
       exact hK
      ·refine fT.step rfl (fT.mk rfl rfl (fun a wx K Q hR hK => ?_))
       have t80 := hR.eq 10 _ 80 (by kernel_rfl) rfl rfl
       go_simp
       exact hK
      ·refine fT.step rfl (fT.mk rfl rfl (fun a wx K Q hR hK => ?_))
       have t81 := hR.eq 11 _ 81 (by kernel_rfl) rfl rfl
       go_simp
       exact hK
      ·refine fT.step rfl (fT.mk rfl rfl (fun a wx K Q hR hK => ?_))
       go_simp
       exact hK
      ·refine fT.mk rfl rfl (fun a wx K Q hR hK => ?_)
       have t10 : a.tmps[10]? = some (.int .i64 (E : Nat)) := hR.o 10
       go_simp
       exact hK
      ·refine fT.mk rfl rfl (fun a wx K Q hR hK => ?_)
       have t80 := hR.eq 10 _ 80 (by kernel_rfl) rfl rfl
       go_simp
       exact hK
      ·refine fT.mk rfl rfl (fun a wx K Q hR hK => ?_)
       have t81 := hR.eq 11 _ 81 (by kernel_rfl) rfl rfl
       go_simp
       exact hK
      ·refine fT.mk rfl rfl (fun a wx K Q hR hK => ?_)
       go_simp
       exact hK
      ·refine ts fun vs a wx K Q hR hZ hK => ?_
       have t4 : a.tmps[4]? = some (.pointer (some ⟨w.heap.size, 0, none⟩)) := hR.o 4
       have t79 := hR.d 9 79
       obtain ⟨hbel2, S2, hlow, hof⟩ := hZ
       obtain ⟨pv, ev, hpv⟩ : AQ k.toNat pl S2 (vs 9) wx := hof 9 _ rfl
       rw [ev] at t79
       have hg : wx.heap[w.heap.size]? = some (.cells #[.int .u8 0, .slice none 0 0] 105 (0, 0)) := (hbel2.block _ (by omega)).trans g3
       obtain ⟨_, qd, qc, rfl, _⟩ := aF.shape hpv
       refine rR 105 (.tmp 4) (.tmp 79) rfl w.heap.size (fo t4) #[.int .u8 (k.toNat : Nat), .slice qd pl.length qc] (fo t79) 105 _ hg (by kernel_rfl) rfl (by simp [Value.oneCell']) ?_
       exact hK undef _ ⟨wx, _, (upd_ne _ _ (by omega)).trans ev, hbel2, Sl.keep hpv (by omega) (fun _ _ _ => rfl) (fun b _ hb => hlow b hb), rfl⟩
      intro vs wN hE hZ
      obtain ⟨wx, pv, ev, hbel2, hpv, rfl⟩ := hZ
      obtain ⟨_, qd, qc, rfl, _⟩ := aF.shape hpv
      have hg : wx.heap[w.heap.size]? = some (.cells #[.int .u8 0, .slice none 0 0] 105 (0, 0)) := (hbel2.block _ (by omega)).trans g3
      have HZ : Hid (qN w p0 (bg (k :: r)) (.returned (.tuple #[.agg #[.int .u8 (k.toNat : Nat), .slice qd pl.length qc], .int .i64 ((E : Int) + 4), .int .i64 0])) (wx.setRow w.heap.size #[.int .u8 (k.toNat : Nat), .slice qd pl.length qc])) := hid (by
       rw [HF.out]
       refine ⟨_, ?_, Sl.keep hpv (by omega) (rT (fun h => by have h : w3.heap.size ≤ w.heap.size := h; omega)) (fun b _ hb => by have hb : w3.heap.size ≤ b := hb; show _ ≤ b; omega), below_setRow (HB3.out.trans (hbel2.mono (by omega))) _ _ nl⟩
       have he4 : ((p0 + (E + 4 - p0) : Nat) : Int) = (E : Int) + 4 := by omega
       simp only [if_true, he4])
      simp only [ev, aH, List.foldl_cons, List.foldl_nil]
      clear hE ev hbel2 hpv
      generalize vs 8 = v8
      go_simp
      (try (go_wp2_with fail))
      exact bodyPost_ret (v := .tuple #[.agg #[.int .u8 (k.toNat : Nat), .slice qd pl.length qc], .int .i64 ((E : Int) + 4), .int .i64 0]) (aC rfl _ _ w.heap.size 105 _ _ _ _ _ rfl (setRow_heap _ _ _ _ _ _ hg) Tryz.underlying105 rfl (by kernel_rfl) rfl rfl) rfl HZ.out
     | false =>
      have hq := of_decide_eq_false HQD.out.symm
      have HF : Hid (bg (k :: r) = .no 3) := hid (by rw [HCC.out, if_neg hq])
      clear hq hbW
      go_wp2_with (refine wpList_store_row rfl 105 (.tmp 4) (.tmp 69) rfl rfl w.heap.size rfl _ rfl 105 _ g3 (by kernel_rfl) rfl (by simp [Value.oneCell']) ?_)
      exact bodyPost_ret (v := .tuple #[.agg #[.int .u8 0, .slice none 0 0], .int .i64 0, .int .i64 3]) (aC rfl _ _ w.heap.size 105 _ _ _ _ _ rfl (setRow_heap _ _ _ _ _ _ g3) Tryz.underlying105 rfl (by kernel_rfl) rfl rfl) rfl (by rw [HF.out]; exact iy (r := 3) (by decide) (below_setRow HB3.out _ _ nl))
 ·have hn : b.drop p0 = [] := List.drop_of_length_le (by omega)
  rw [hn]
  have HE := hid Ct
  have hab : p0 = b.length := by omega
  go_enter Tryz.func114, Tryz.ntmps114
  go_wp2_with (refine wpList_store_row rfl 105 (.tmp 4) (.tmp 19) rfl rfl w.heap.size rfl _ rfl 105 _ g0 (by kernel_rfl) rfl (by simp [Value.oneCell']) ?_)
  exact bodyPost_ret (v := .tuple #[.agg #[.int .u8 0, .slice none 0 0], .int .i64 0, .int .i64 1]) (aC rfl _ _ w.heap.size 105 _ _ _ _ _ rfl (setRow_heap _ _ _ _ _ _ g0) Tryz.underlying105 rfl (by kernel_rfl) rfl rfl) rfl (by rw [HE.out]; exact iy (r := 1) (by decide) (below_setRow HB.out _ _ nl))
end Go.Proofs.YtlpgokcapdjgjaaGreatDoor
