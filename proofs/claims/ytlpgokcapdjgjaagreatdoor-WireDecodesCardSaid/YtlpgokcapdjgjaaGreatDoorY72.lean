/- What bytes are decoded to, up to an offence. -/
import Derived.Test.YtlpgokcapdjgjaaGreatDoorY70
import Derived.Test.YtlpgokcapdjgjaaGreatDoorYW46
import Derived.Lib.ConvBytes
import Derived.Lib.Strings
import Derived.Lib.AtoiErrMem
import Derived.Laws.IdiomStrings
set_option maxHeartbeats 2000000
set_option maxRecDepth 100000
namespace Go.Proofs.YtlpgokcapdjgjaaGreatDoor
open Go.RowKit Go
set_option linter.unusedVariables false
set_option linter.unusedSimpArgs false
theorem vJ : (Tryz.prog.info? 4).map (fun i => (i.zero, i.size, i.bytes)) = some (some (.bool false), 1, 1) := by kernel_rfl
def bools (l : List Bool) : List Value := l.map Value.bool
theorem BN : ∀ (n c k : Nat), k < n → (Crc.jE n c)[k]? = some ((c / 2 ^ k) % 2 == 1)
 | 0, c, k, h => by omega
 | n + 1, c, 0, _ => by rw [Crc.lY]; simp
 | n + 1, c, k + 1, h => by
  rw [Crc.lY, List.getElem?_cons_succ, BN n (c / 2) k (by omega), Nat.div_div_eq_div_mul, Nat.pow_succ, Nat.mul_comm]
theorem CR (n c k : Nat) (h : k < n) : (Crc.jE n c).take (k + 1) = (Crc.jE n c).take k ++ [((c / 2 ^ k) % 2 == 1)] := by
 rw [List.take_add_one, BN n c k h]; rfl
theorem xn (l : List UInt8) (j : Nat) (h : j < l.length) : Crc.aW (l.take (j + 1)) = Crc.aW (l.take j) ++ Crc.jE 8 (l[j]).toNat := by
 rw [List.take_succ_eq_append_getElem h];have : ∀ (a : List UInt8) (c : UInt8), Crc.aW (a ++ [c]) = Crc.aW a ++ Crc.jE 8 c.toNat := by
  intro a
  induction a with
  | nil => intro c; show Crc.jE 8 c.toNat ++ [] = _; rw [List.append_nil]; rfl
  | cons x a ih => intro c; show Crc.jE 8 x.toNat ++ Crc.aW (a ++ [c]) = _; rw [ih, ← List.append_assoc]; rfl
 exact this _ _
theorem AC (l : List UInt8) (v : Value) (w : World) (hl : l.length ≤ 1000000) (hv : aO w (fun k => k < w.1.size) false l v) :
  Calls Tryz.prog 121 #[v] w fun e w' => ∃ v', e = .returned v' ∧ w'.ownsRow w.1.size 4 1 v' (Crc.aW l).length (bools (Crc.aW l)) ∧ Below w.1.size w w' := by
 obtain ⟨i0, hi0, hz0, hz1, hz2⟩ := info_parts vJ;obtain ⟨hl1, ad, cap, rfl, hcap⟩ := hv.shape;have HV := hid hv;clear hv
 go_enter Tryz.func121, Tryz.ntmps121
 go_wp2_with fail
 go_loopw [3, 4] (fun sv i wr => ∃ j : Nat, j ≤ l.length ∧ i = .int .i64 j ∧ wr.ownsRow w.1.size 4 1 sv (8 * j) (bools (Crc.aW (l.take j))) ∧ Below w.1.size w wr) (fun _ i _ => l.length - (intOf i).toNat)
 case atStart => exact ⟨0, Nat.zero_le _, rfl, World.ownsRow_nil _ _ _ _, br⟩
 case round =>
  obtain ⟨j, hj, rfl, hown, hbel⟩ := hrel;by_cases hlt : j < l.length
  ·obtain ⟨bl, off, rfl, hbl, hcell⟩ := HV.out.cell (by omega)
   have hc := (hbel.cell (p := ⟨bl, off + j, none⟩) hbl).trans (hcell j hlt).1;have hc8 := (l[j]).toNat_lt;have HJ := hid (xn l j hlt);generalize l[j] = c at hc hc8 HJ;have HOWN := hid hown;have HB := hid hbel;clear hown hbel hcell;go_wp2_with fail
   go_loopw [3, 5, 6] (fun sv x i wx => ∃ k : Nat, k ≤ 8 ∧ i = .int .i64 k ∧ x = .int .u8 ((c.toNat / 2 ^ k : Nat) : Int) ∧ wx.ownsRow w.1.size 4 1 sv (8 * j + k) (bools (Crc.aW (l.take j) ++ (Crc.jE 8 c.toNat).take k)) ∧ Below w.1.size w wx) (fun _ _ i _ => 8 - (intOf i).toNat)
   case atStart => exact ⟨0, by omega, rfl, by simp, by simpa using HOWN.out, HB.out⟩
   case round =>
    obtain ⟨k, hk, rfl, rfl, hown, hbel⟩ := hrel;have hsz := hbel.size;have hob := hown.lt;have HO := hid hown;clear hown;by_cases h8 : k < 8
    ·have hX : c.toNat / 2 ^ k < 256 := Nat.lt_of_le_of_lt (Nat.div_le_self _ _) hc8
     have HK := hid (CR 8 c.toNat k h8);have HD : Hid (c.toNat / 2 ^ (k + 1) = (c.toNat / 2 ^ k) / 2) := hid (by rw [Nat.pow_succ, Nat.div_div_eq_div_mul]);generalize c.toNat / 2 ^ k = X at hX HK HD ⊢;have hb1 : bools (Crc.aW (l.take j) ++ (Crc.jE 8 c.toNat).take k) ++ [Value.bool ((X : Int) % 2 == 1)] = bools (Crc.aW (l.take j) ++ (Crc.jE 8 c.toNat).take (k + 1)) := by
      have e : ((X : Int) % 2 == 1) = (X % 2 == 1) := (by rw [Bool.eq_iff_iff]; simp; omega);rw [HK.out, e]; simp [bools]
     have HB1 := hid hb1;clear hb1
     go_wp2_with (at_builtin; go_loud (refine bg _ rfl (.tmp 21) (.tmp 25) _ rfl w.1.size 4 i0 _ 1 1 Tryz.underlying230 hi0 hz0 hz1 hz2 rfl (by omega) _ (8 * j + k) _ rfl (HO.out.alloc _) _ _ 1 [.bool ((X : Int) % 2 == 1)] _ rfl (Sl.of_owns (jX wr 0 #[.bool ((X : Int) % 2 == 1)] 4 (Nat.zero_le _) (by simp)) (by omega)) (by simp [Value.oneCell']) (by unfold maxLen; omega) (by omega) (by simp; omega) ?_); intro v' w2 hown2 hgrow hat)
     have HO2 := hid (au hown2 hgrow);clear hown2 hgrow hat;go_wp2_with fail;go_roundw
     case rel =>
      have h := HO2.out.1;rw [HB1.out] at h;exact ⟨k + 1, by omega, by go_num, by rw [HD.out]; simp, h, (hbel.alloc (by omega) _).grown HO2.out.2 (by simp; omega) (fun k hk => (hob k hk).1)⟩
     case measure => simp [intOf]; omega
    ·have : k = 8 := by omega
     subst this;go_wp2_with fail;go_roundw
     case rel =>
      refine ⟨j + 1, hlt, by go_num, ?_, hbel⟩;rw [HJ.out];have h := HO.out;rw [show (Crc.jE 8 c.toNat).take 8 = Crc.jE 8 c.toNat from ah (by rw [Crc.rP]; exact Nat.le_refl _)] at h;exact h
     case measure => simp [intOf]; omega
  ·have hj2 : j = l.length := by omega
   subst hj2;have HOWN := hid hown;clear hown;go_wp2_with fail;go_ret
   refine ⟨_, rfl, ?_, hbel⟩;have h := HOWN.out;rw [ah nl] at h;rw [Crc.fK];exact h
section
variable {P : Program} (w : World)
theorem ib (z : Value) (m : Nat) : Builtin.zeroCells #[z] m = (List.replicate m z).toArray := by
 apply Array.ext';unfold Builtin.zeroCells;apply List.ext_getElem?;intro i;simp [List.getElem?_replicate];by_cases h : i < m
 ·simp [h, Nat.mod_one]
 ·simp [h]
theorem pJ (base : Nat) (t tx ty e : TypeId) (i : TypeInfo) (z : Value) (bytes : Nat) (k : IntKind) (ht : P.underlying t = some (.slice e)) (htx : P.underlying tx = some (.int k)) (hi : P.info? e = some i) (hz : i.zero = some z)
  (hsize : i.size = 1) (hby : i.bytes = bytes) (hzc : z.cells = #[z]) (hz1 : z.oneCell' = true)
  (v : Value) (n : Nat) (xs : List Value) (hown : w.ownsRow base e 1 v n xs) (m : Nat) (h63 : n + m ≤ maxLen) (hbytes : (n + m) * bytes ≤ 140737488355328) (hbase : base ≤ w.1.size) (hm : 0 < m) :
  ∃ v' w', (Builtin.append_ #[t, tx] ty #[v, .int .i64 (m : Int)]).run P w = .ok v' w' ∧ w'.ownsRow base e 1 v' (n + m) (xs ++ List.replicate m z) ∧ w.grownBy w' v.ownBlock ∧
   (v'.ownBlock = v.ownBlock ∨ v'.ownBlock = some w.1.size) := by
 subst hby;have hsmall : n + m ≤ 9223372036854775807 := by simp only [maxLen] at h63; omega
 have hlen : (xs ++ List.replicate m z).length = (n + m) * 1 := by rw [aI, hown.1, List.length_replicate]; omega
 have hwr : IntKind.i64.wrap (m : Int) = (m : Int) := by simp only [IntKind.wrap, IntKind.signed, IntKind.bits]; simp; omega
 have hneg : ¬ ((m : Int) < 0) := by omega
 have hbig : ¬ (281474976710656 < (m : Int) * (i.bytes : Int)) := by
  have h0 : m * i.bytes ≤ (n + m) * i.bytes := Nat.mul_le_mul_right _ (by omega);have : ((m * i.bytes : Nat) : Int) = (m : Int) * (i.bytes : Int) := by simp
  omega
 have grown : ∀ (old : Nat), old < n + m → ∀ (row : Option Nat),
   (w.drew.alloc (.cells (xs.toArray ++ (List.replicate m z).toArray ++ Builtin.zeroCells z.cells (grownCap w (n + m) old e - (n + m))) e)).ownsRow base e 1
    (.slice (some ⟨w.1.size, 0, none⟩) (n + m) (grownCap w (n + m) old e)) (n + m) (xs ++ List.replicate m z) ∧
   w.grownBy (w.drew.alloc (.cells (xs.toArray ++ (List.replicate m z).toArray ++ Builtin.zeroCells z.cells (grownCap w (n + m) old e - (n + m))) e)) row := by
  intro old ho row;have hge := grownCap_ge w (n + m) old e;have hcm : grownCap w (n + m) old e ≤ maxLen := grownCap_le_maxLen w (n + m) old e h63;refine ⟨⟨hlen, .inr ⟨w.1.size, _, _, rfl, hbase, heap_alloc_new w.drew _, hge, hcm, ?_, ?_⟩⟩, ⟨rfl, rfl, rfl, by simp, fun k hk _ => az w.drew _ k hk⟩⟩
  ·rw [hzc, ib]
   have := hown.1;simp;omega
  ·simp only [Array.toList_append, List.append_assoc]
   rw [← List.append_assoc, ← hlen];exact List.take_left
 have hz0 : ¬ (m = 0) := by omega
 have hcn : m = 0 → False := hz0;rcases hown.2 with ⟨rfl, rfl⟩ | ⟨g, cap, cur, rfl, hbg, hg, hnc, hcm, hcs, htake⟩
 ·have hx : xs = [] := List.eq_nil_of_length_eq_zero (by simpa using hown.1)
  subst hx;have hgr := grown 0 (by omega) (Value.ownBlock (.slice none 0 0));simp only [Nat.zero_add, List.nil_append, Array.empty_append] at hgr ⊢;have hfit := growslice_fits (old := 0) (by omega) hbytes;have h63' : ¬ (9223372036854775807 < (m : Int)) := by omega
  have h48' : ¬ (281474976710656 < Builtin.nextslicecap m 0 * i.bytes) := by simp only [Nat.zero_add] at hfit; omega
  refine ⟨_, _, ?_, hgr.1, hgr.2, Or.inr rfl⟩;simp [Builtin.append_, run_underlying ht, run_underlying htx, sizeOf, typeInfo, zeroValue, hi, hz, hsize, asInt, asIntOf, hwr, hneg, hbig, hz0, h63', h48', Question.forced, newRow, grownCap, Builtin.firstCells, hzc, ib]
 ·have h1 : ¬ (9223372036854775807 < ((n : Int) + (m : Int))) := by omega
  by_cases hroom : n + m ≤ cap
  ·have hfit : n + (List.replicate m z).length ≤ cur.size := by rw [hcs, List.length_replicate]; omega
   have hst := run_storeCells_at P g n e (List.replicate m z) 0 cur w hg (by simpa using hfit) (fun u hu => by rw [List.eq_of_mem_replicate hu]; exact hz1);simp only [Nat.add_zero] at hst;refine ⟨.slice (some ⟨g, 0, none⟩) (n + m) cap, _, ?_, ⟨hlen, .inr ⟨g, cap, _, rfl, hbg, aB w g cur (cur.toList.take n ++ List.replicate m z ++ cur.toList.drop (n + (List.replicate m z).length)).toArray e _ hg, hroom, hcm, ?_, ?_⟩⟩, ⟨rfl, rfl, rfl, by simp, fun k _ hk => setRow_other w g k _ (fun e => hk (by simp [Value.ownBlock, e]))⟩, .inl rfl⟩
   ·simp [Builtin.append_, run_underlying ht, run_underlying htx, sizeOf, typeInfo, zeroValue, hi, hz, hsize, asInt, asIntOf, hwr, hneg, hbig, hz0, hroom, Question.forced, hzc, ib, Addr.add_lit, hst]
   ·simp only [List.size_toArray, aI, List.length_take, List.length_drop, Array.length_toList, List.length_replicate]
    omega
   ·rw [Nat.mul_one] at htake
    rw [htake, ← hlen];exact List.take_left
  ·have hfit := growslice_fits (old := cap) (need := n + m) (by omega) hbytes
   have h48' : ¬ (281474976710656 < Builtin.nextslicecap (n + m) cap * i.bytes) := (by omega);have hold : (Builtin.firstCells 1 n (.slice (some ⟨g, 0, none⟩) n cap)).run P w.drew = .ok xs.toArray w.drew := by
    have holds : ∀ j u, xs[j]? = some u → w.cell? ((⟨g, 0, none⟩ : Addr).add j) = some u := hown.cells (g := g) rfl;exact run_firstCells_some (P := P) w.drew 1 n ⟨g, 0, none⟩ n cap xs hown.1 (fun j u hu => holds j u hu)
   have hgr := grown cap (by omega) (Value.ownBlock (.slice (some ⟨g, 0, none⟩) n cap));refine ⟨_, _, ?_, hgr.1, hgr.2, Or.inr rfl⟩;simp [Builtin.append_, run_underlying ht, run_underlying htx, sizeOf, typeInfo, zeroValue, hi, hz, hsize, asInt, asIntOf, hwr, hneg, hbig, hz0, hroom, h1, h48', Question.forced, newRow, grownCap, hold, hzc, ib]
theorem mh {ops : Array Oper} {rest : List Oper} {o : Oper} {a : Act} {Q : Exit → Act → World → Prop} (hgd : o.guard = none) (s x : Operand) (t tx : TypeId)
  (ho : o.op = .call { callee := .builtin .append, args := #[s, x], argTypes := #[t, tx] })
  (base : Nat) (e : TypeId) (i : TypeInfo) (z : Value) (bytes : Nat) (k : IntKind) (ht : P.underlying t = some (.slice e)) (htx : P.underlying tx = some (.int k)) (hi : P.info? e = some i) (hz : i.zero = some z)
  (hsize : i.size = 1) (hby : i.bytes = bytes) (hzc : z.cells = #[z]) (hz1 : z.oneCell' = true)
  (v : Value) (n : Nat) (xs : List Value) (hs : a.eval s = v) (hown : w.ownsRow base e 1 v n xs) (m : Nat) (hx : a.eval x = .int .i64 (m : Int)) (h63 : n + m ≤ maxLen) (hbytes : (n + m) * bytes ≤ 140737488355328) (hbase : base ≤ w.1.size) (hm : 0 < m)
  (h : ∀ v' w', w'.ownsRow base e 1 v' (n + m) (xs ++ List.replicate m z) → w.grownBy w' v.ownBlock → (v'.ownBlock = v.ownBlock ∨ v'.ownBlock = some w.1.size) → wpList P ops Q rest (a.put o.dst v') w') : wpList P ops Q (o :: rest) a w := by
 refine wpList_plain hgd fun K hK => ?_
 obtain ⟨v', w', hr, h2, h3, h5⟩ := pJ (P := P) w base t tx o.type e i z bytes k ht htx hi hz hsize hby hzc hz1 v n xs hown m h63 hbytes hbase hm;unfold Oper.wp execOp;simp only [ho, resolve, invoke, builtin, Sem.run_bind, Sem.run_pure, Result.andThen_ok, List.map_toArray, List.map_cons, List.map_nil, hs, hx, hr];exact hK _ _ (h v' w' h2 h3 h5)
end
def pK {α : Type} (M : Nat) (f : Nat → α) : List α := (List.range M).map f
theorem FT {α : Type} (M : Nat) (f : Nat → α) (i : Nat) (h : i < M) : (pK M f)[i]? = some (f i) := by simp [pK, h]
theorem Eo {α : Type} (M : Nat) (f : Nat → α) (i : Nat) (b : α) : (pK M f).set i b = pK M (fun p => if p = i then b else f p) := by
 apply List.ext_getElem?;intro p;rw [List.getElem?_set];unfold pK;by_cases h : i = p
 ·subst h
  by_cases hp : i < M <;> simp [hp]
 ·rw [if_neg h]
  by_cases hp : p < M
  ·simp [hp]
   intro e;exact absurd e.symm h
  ·simp [hp]
theorem jg {α : Type} (M : Nat) (f g : Nat → α) (h : ∀ p, p < M → f p = g p) : pK M f = pK M g := by
 unfold pK;exact List.map_congr_left fun p hp => h p (List.mem_range.1 hp)
theorem sW {w : World} {base : Nat} {e : TypeId} {g n cap : Nat} {xs : List Value} (i : Nat) (v : Value) (h : w.ownsRow base e 1 (.slice (some ⟨g, 0, none⟩) n cap) n xs) :
  (w.setCell ⟨g, i, none⟩ v).ownsRow base e 1 (.slice (some ⟨g, 0, none⟩) n cap) n (xs.set i v) := by
 obtain ⟨hl, h⟩ := h;rcases h with ⟨h, _⟩ | ⟨g', cap', cur, hv, hb, hg, hn, hm, hs, ht⟩
 ·cases h
 ·simp only [Value.slice.injEq, Option.some.injEq, Addr.mk.injEq, and_true, true_and] at hv
  obtain ⟨rfl, rfl⟩ := hv;refine ⟨by simpa using hl, .inr ⟨g, cap, cur.setIfInBounds i v, rfl, hb, aM hg rfl, hn, hm, by simpa using hs, ?_⟩⟩;rw [Array.toList_setIfInBounds, List.take_set, ht]
def iw (M : Nat) (f : Nat → Bool) : List Value := bools (pK M f)
theorem sZ (M : Nat) (f : Nat → Bool) (i : Nat) (b : Bool) : (iw M f).set i (.bool b) = iw M (fun p => if p = i then b else f p) := by
 unfold iw bools;rw [← Eo, List.map_set]
theorem ma {w : World} {base g M cap : Nat} {T : TypeId} {f : Nat → Bool} (h : w.ownsRow base T 1 (.slice (some ⟨g, 0, none⟩) M cap) M (iw M f)) (i : Nat) (hi : i < M) : w.cell? ⟨g, i, none⟩ = some (.bool (f i)) ∧ w.frozen? ⟨g, i, none⟩ = false := by
 obtain ⟨hl, h⟩ := h;rcases h with ⟨h, _⟩ | ⟨g', cap', cur, hv, hb, hg, hn, hm, hs, ht⟩
 ·cases h
 ·simp only [Value.slice.injEq, Option.some.injEq, Addr.mk.injEq, and_true, true_and] at hv
  obtain ⟨rfl, rfl⟩ := hv;refine ⟨?_, aA w g i _ _ hg⟩;rw [ax w g i _ _ _ hg, ← Array.getElem?_toList];have : (cur.toList.take (M * 1))[i]? = (iw M f)[i]? := by rw [ht]
  rw [List.getElem?_take, if_pos (by omega)] at this;rw [this];unfold iw bools;rw [List.getElem?_map, FT M f i hi]; rfl
def xq (D : List Bool) (j p : Nat) : Bool := (D.getD p false) ^^ decide (p < j)
theorem CU (D : List Bool) : bools D ++ List.replicate 32 (Value.bool false) = iw (D.length + 32) (xq D 0) := by
 apply List.ext_getElem?;intro p;unfold iw bools pK xq;by_cases h : p < D.length
 ·rw [List.getElem?_append_left (by simpa using h)]
  simp [h, show p < D.length + 32 by omega]
 ·rw [List.getElem?_append_right (by simp; omega)]
  by_cases h2 : p < D.length + 32
  ·rw [List.getElem?_replicate, if_pos (by simp; omega)]
   simp [h2, List.getElem?_eq_none (show D.length ≤ p by omega)]
  ·rw [List.getElem?_replicate, if_neg (by simp; omega)]
   simp [h2]
theorem CV (D : List Bool) (j M : Nat) : iw M (fun p => if p = j then !(xq D j j) else xq D j p) = iw M (xq D (j + 1)) := by
 unfold iw
 congr 1
 refine jg _ _ _ fun p _ => ?_
 by_cases h : p = j
 ·subst h; simp [xq]
 ·rw [if_neg h]
  unfold xq
  congr 1
  exact decide_eq_decide.2 (by omega)
def pw : List Nat := [26, 23, 22, 16, 12, 11, 10, 8, 7, 5, 4, 2, 1, 0]
def pwC : Array Value := #[.int .i64 26, .int .i64 23, .int .i64 22, .int .i64 16, .int .i64 12, .int .i64 11, .int .i64 10, .int .i64 8, .int .i64 7, .int .i64 5, .int .i64 4, .int .i64 2, .int .i64 1, .int .i64 0]
theorem Ep : ∀ k, k < 14 → pwC[k]? = some (.int .i64 ((pw.getD k 0 : Nat) : Int)) ∧ pw.getD k 0 ≤ 26 ∧ (pw.take k).all (fun q => q != pw.getD k 0) = true ∧ pw.take (k + 1) = pw.take k ++ [pw.getD k 0] := by
 intro k hk
 match k, hk with
 | 0, _ => exact ⟨rfl, by decide, by decide, rfl⟩
 | 1, _ => exact ⟨rfl, by decide, by decide, rfl⟩
 | 2, _ => exact ⟨rfl, by decide, by decide, rfl⟩
 | 3, _ => exact ⟨rfl, by decide, by decide, rfl⟩
 | 4, _ => exact ⟨rfl, by decide, by decide, rfl⟩
 | 5, _ => exact ⟨rfl, by decide, by decide, rfl⟩
 | 6, _ => exact ⟨rfl, by decide, by decide, rfl⟩
 | 7, _ => exact ⟨rfl, by decide, by decide, rfl⟩
 | 8, _ => exact ⟨rfl, by decide, by decide, rfl⟩
 | 9, _ => exact ⟨rfl, by decide, by decide, rfl⟩
 | 10, _ => exact ⟨rfl, by decide, by decide, rfl⟩
 | 11, _ => exact ⟨rfl, by decide, by decide, rfl⟩
 | 12, _ => exact ⟨rfl, by decide, by decide, rfl⟩
 | 13, _ => exact ⟨rfl, by decide, by decide, rfl⟩
def mI (base : Nat → Bool) (i k p : Nat) : Bool := if p = i then false else (base p ^^ (pw.take k).any (fun q => p == i + 32 - q))
theorem Er : ∀ q ∈ pw, q ≤ 26 := by decide
theorem CW (base : Nat → Bool) (i k M : Nat) (hk : k < 14) : iw M (fun p => if p = i + 32 - pw.getD k 0 then !(mI base i k (i + 32 - pw.getD k 0)) else mI base i k p) = iw M (mI base i (k + 1)) := by
 obtain ⟨_, h26, hd, ht⟩ := Ep k hk;unfold iw
 congr 1
 refine jg _ _ _ fun p _ => ?_
 unfold mI;rw [ht];simp only [List.any_append, List.any_cons, List.any_nil, Bool.or_false];by_cases h : p = i + 32 - pw.getD k 0
 ·have hne : ¬ (i + 32 - pw.getD k 0 = i) := by omega
  have hf : (pw.take k).any (fun q => i + 32 - pw.getD k 0 == i + 32 - q) = false := by
   rw [List.any_eq_false];intro q hq e;have h1 := List.all_eq_true.1 hd q hq;have h2 := Er q (List.mem_of_mem_take hq);simp at h1 e;omega
  rw [if_pos h, h, if_neg hne, if_neg hne, hf];cases base (i + 32 - pw.getD k 0) <;> simp
 ·rw [if_neg h]
  have : (p == i + 32 - pw.getD k 0) = false := beq_eq_false_iff_ne.2 h;rw [this, Bool.or_false]
theorem tq : ∀ (l : List Nat) (f g : Nat → Bool), (∀ q ∈ l, f q = g q) → l.any f = l.any g
 | [], _, _, _ => rfl
 | x :: l, f, g, h => by simp only [List.any_cons]; rw [h x (by simp), tq l f g (fun q hq => h q (by simp [hq]))]
theorem Es (d : Nat) : Crc.turns d = pw.any (fun q => d == 32 - q) := by
 unfold Crc.turns pw;simp only [List.contains_cons, List.contains_nil, List.any_cons, List.any_nil]
theorem Et (base : Nat → Bool) (i M : Nat) (hb : base i = true) : iw M (mI base i 14) = iw M (Crc.yl base i) := by
 unfold iw
 congr 1
 refine jg _ _ _ fun p _ => ?_
 unfold mI Crc.yl;by_cases h : p = i
 ·rw [if_pos h, if_pos h]
 ·rw [if_neg h, if_neg h]
  have ht : pw.take 14 = pw := rfl;rw [ht];by_cases hp : i < p
  ·rw [if_pos ⟨hb, hp⟩]
   congr 1
   rw [tq pw _ (fun q => p - i == 32 - q) (fun q hq => by
    have := Er q hq;rw [Bool.eq_iff_iff, beq_iff_eq, beq_iff_eq];omega)]
   exact (Es (p - i)).symm
  ·rw [if_neg (fun e => hp e.2)]
   have : pw.any (fun q => p == i + 32 - q) = false := by
    rw [List.any_eq_false];intro q hq e;have h2 := Er q hq;simp at e;omega
   rw [this, Bool.xor_false]
theorem Eu (base : Nat → Bool) (i M : Nat) (hb : base i = false) : iw M base = iw M (Crc.yl base i) := by
 unfold iw
 congr 1
 refine jg _ _ _ fun p _ => ?_
 unfold Crc.yl;by_cases h : p = i
 ·rw [if_pos h, h, hb]
 ·rw [if_neg h, if_neg (fun e => by rw [hb] at e; cases e.1)]
theorem AJ (base : Nat → Bool) (i M : Nat) : iw M (fun p => if p = i then false else base p) = iw M (mI base i 0) := by
 unfold iw
 congr 1
 refine jg _ _ _ fun p _ => ?_
 unfold mI;simp
theorem AL (w : World) : Calls Tryz.prog 122 #[] w fun e w' => e = .returned (.slice (some ⟨w.1.size, 0, none⟩) 14 14) ∧ w' = w.alloc (.cells pwC 3) := by
 go_enter Tryz.func122, Tryz.ntmps122
 go_wp2_with fail;go_ret
 exact ⟨rfl, rfl⟩
theorem BO : ∀ (f : Nat → Bool) (k : Nat), Crc.kU f k < 2 ^ k
 | _, 0 => by show 0 < 1; omega
 | f, k + 1 => by
  have := BO (fun i => f (i + 1)) k;show 2 * Crc.kU (fun i => f (i + 1)) k + (if f 0 = true then 1 else 0) < 2 ^ (k + 1);rw [Nat.pow_succ];split <;> omega
theorem Ev (F : Nat → Bool) (t : Nat) (h : t < 32) : Crc.kU (fun q => F (t + q)) (32 - t) = 2 * Crc.kU (fun q => F (t + 1 + q)) (32 - (t + 1)) + (if F t = true then 1 else 0) := by
 have e : 32 - t = (32 - (t + 1)) + 1 := by omega
 rw [e];show 2 * Crc.kU (fun i => F (t + (i + 1))) _ + (if F (t + 0) = true then 1 else 0) = _;have e2 : (fun i => F (t + (i + 1))) = fun q => F (t + 1 + q) := by funext q; congr 1; omega
 rw [e2, Nat.add_zero];rfl
theorem AO (l : List UInt8) (v : Value) (w : World) (hl : l.length ≤ 1000000) (hv : aO w (fun k => k < w.1.size) false l v) :
  Calls Tryz.prog 79 #[v] w fun e w' => e = .returned (.int .u32 (Crc.gL l : Nat)) ∧ Below w.1.size w w' := by
 obtain ⟨i0, hi0, hz0, hz1, hz2⟩ := info_parts vJ;have HD := hid (AC l v w hl hv);have hdl : (Crc.aW l).length = 8 * l.length := Crc.fK l;obtain ⟨hl1, ad, cap, rfl, hcap⟩ := hv.shape;clear hv
 go_enter Tryz.func79, Tryz.ntmps79
 go_wp2_with fail;refine HD.out.mono ?_;rintro e w1 ⟨v1, rfl, hown1, hb1⟩;have hs1 := hb1.size;have hlt1 := hown1.lt;have HO1 := hid (au hown1 hb1);clear hown1 hb1
 go_wp2_with (at_builtin; go_loud (refine mh _ rfl (.tmp 12) (.const (.int .i64 32)) _ _ rfl w.1.size 4 i0 _ 1 .i64 Tryz.underlying230 Tryz.underlying3 hi0 hz0 hz1 hz2 rfl rfl _ (Crc.aW l).length _ rfl HO1.out.1 32 rfl (by unfold maxLen; omega) (by omega) (by omega) (by omega) ?_); intro v2 w2 hown2 hgrow2 hat2)
 have hb2 : Below w.1.size w w2 := HO1.out.2.grown hgrow2 hs1 (fun k hk => (hlt1 k hk).1);rw [CU] at hown2;generalize hM : (Crc.aW l).length + 32 = M at hown2;have hg : ∃ g cp, v2 = .slice (some ⟨g, 0, none⟩) M cp ∧ w.1.size ≤ g := by
  rcases hown2.2 with ⟨_, h0⟩ | ⟨g, cp, cur, rfl, hb, _⟩
  ·omega
  ·exact ⟨g, cp, rfl, hb⟩
 obtain ⟨g, cp, rfl, hgb⟩ := hg;have HO2 := hid (au hown2 hb2);clear hown2 hgrow2 hat2 hb2 hlt1;go_wp2_with fail
 go_loopw [4] (fun i wr => ∃ j : Nat, j ≤ 32 ∧ i = .int .i64 j ∧ wr.ownsRow w.1.size 4 1 (.slice (some ⟨g, 0, none⟩) M cp) M (iw M (xq (Crc.aW l) j)) ∧ Below w.1.size w wr) (fun i _ => 32 - (intOf i).toNat)
 case atStart => exact ⟨0, by omega, rfl, HO2.out.1, HO2.out.2⟩
 case round =>
  obtain ⟨j, hj, rfl, hown, hbel⟩ := hrel;by_cases h32 : j < 32
  ·obtain ⟨c0, f0⟩ := ma hown j (by omega)
   have HO := hid (au hown hbel);clear hown hbel;go_wp2_with fail;go_roundw
   case rel =>
    have h := sW j (.bool (!(xq (Crc.aW l) j j))) HO.out.1;rw [sZ, CV] at h;exact ⟨j + 1, by omega, by go_num, h, HO.out.2.setCell hgb _⟩
   case measure => simp [intOf]; omega
  ·have : j = 32 := by omega
   subst this;have HO := hid (au hown hbel);clear hown hbel;go_wp2_with fail;have hbw := HO.out.2.size;refine (AL wr).mono ?_;rintro e w3 ⟨rfl, rfl⟩;have HP : Hid ((wr.alloc (.cells pwC 3)).1[wr.1.size]? = some (.cells pwC 3 (0, 0))) := hid (heap_alloc_new wr _);have HO3 := hid (au (HO.out.1.alloc (.cells pwC 3)) (HO.out.2.alloc hbw (.cells pwC 3)));have hpg : wr.1.size ≠ g := by
    have := HO.out.1.lt g rfl;omega
   generalize wr.1.size = pb at HP hpg hbw ⊢;generalize wr.alloc (.cells pwC 3) = X at HP HO3 ⊢;clear HO;go_wp2_with fail
   go_loopw [7] (fun i wx => ∃ j : Nat, j ≤ (Crc.aW l).length ∧ i = .int .i64 j ∧ wx.ownsRow w.1.size 4 1 (.slice (some ⟨g, 0, none⟩) M cp) M (iw M (Crc.divN (Crc.row0 (Crc.aW l)) j)) ∧ wx.1[pb]? = some (.cells pwC 3 (0, 0)) ∧ Below w.1.size w wx) (fun i _ => (Crc.aW l).length - (intOf i).toNat)
   case atStart => exact ⟨0, by omega, rfl, HO3.out.1, HP.out, HO3.out.2⟩
   case round =>
    obtain ⟨j, hj, rfl, hown, hpw, hbel⟩ := hrel;by_cases hlt : j < (Crc.aW l).length
    ·obtain ⟨c0, f0⟩ := ma hown j (by omega)
     obtain ⟨base, hbase⟩ : ∃ b, b = Crc.divN (Crc.row0 (Crc.aW l)) j := ⟨_, rfl⟩;have HBS : Hid (Crc.divN (Crc.row0 (Crc.aW l)) (j + 1) = Crc.yl base j) := hid (by rw [hbase]; rfl);rw [← hbase] at hown c0;clear hbase;have HO4 := hid (au hown (au hpw hbel));clear hown hpw hbel;cases hb : base j with
     | false =>
      rw [hb] at c0;go_wp2_with fail;go_roundw
      case rel =>
       have h := HO4.out.1;rw [Eu base j M hb] at h;exact ⟨j + 1, hlt, by go_num, by rw [HBS.out]; exact h, HO4.out.2.1, HO4.out.2.2⟩
      case measure => simp [intOf]; omega
     | true =>
      rw [hb] at c0;go_wp2_with fail
      go_loopw [8] (fun i wy => ∃ k : Nat, k ≤ 14 ∧ i = .int .i64 k ∧ wy.ownsRow w.1.size 4 1 (.slice (some ⟨g, 0, none⟩) M cp) M (iw M (mI base j k)) ∧ wy.1[pb]? = some (.cells pwC 3 (0, 0)) ∧ Below w.1.size w wy) (fun i _ => 14 - (intOf i).toNat)
      case atStart =>
       have h := sW j (.bool false) HO4.out.1;rw [sZ, AJ] at h;exact ⟨0, by omega, rfl, h, (heap_setCell_other _ _ _ _ hpg).trans HO4.out.2.1, HO4.out.2.2.setCell hgb _⟩
      case round =>
       obtain ⟨k, hk, rfl, hown, hpw, hbel⟩ := hrel;by_cases h14 : k < 14
       ·obtain ⟨q1, q2, _, _⟩ := Ep k h14
        have HFS := hid (CW base j k M h14);generalize pw.getD k 0 = q at q1 q2 HFS;obtain ⟨c1, f1⟩ := ma hown (j + 32 - q) (by omega);have c2 := (ax _ pb k _ _ _ hpw).trans q1;have HO5 := hid (au hown (au hpw hbel));clear hown hpw hbel;have hidx : ((j : Int) + 32 - (q : Int)) = ((j + 32 - q : Nat) : Int) := (by omega);have hltM : j + 32 - q < M := (by omega);generalize j + 32 - q = p0 at hidx hltM c1 f1 HFS;go_wp2_with fail
        go_region
        all_goals go_wp2_with fail
        go_roundw
        case rel =>
         have h := sW p0 (.bool (!(mI base j k p0))) HO5.out.1;rw [sZ, HFS.out] at h;exact ⟨k + 1, by omega, by go_num, h, (heap_setCell_other _ _ _ _ hpg).trans HO5.out.2.1, (HO5.out.2.2.setCell (p := ⟨g, p0, none⟩) hgb _).drew⟩
        case measure => simp [intOf]; omega
       ·have : k = 14 := by omega
        subst this;have HO5 := hid (au hown (au hpw hbel));clear hown hpw hbel;go_wp2_with fail;go_roundw
        case rel =>
         have h := HO5.out.1;rw [Et base j M hb] at h;exact ⟨j + 1, hlt, by go_num, by rw [HBS.out]; exact h, HO5.out.2.1, HO5.out.2.2⟩
        case measure => simp [intOf]; omega
    ·have hj2 : j = (Crc.aW l).length := by omega
     have HO4 := hid (au hown (au hpw hbel));clear hown hpw hbel;subst hj2;generalize hF : Crc.divN (Crc.row0 (Crc.aW l)) (Crc.aW l).length = f at HO4;go_wp2_with fail
     go_loop [9, 10] (fun sm i => ∃ t : Nat, t ≤ 32 ∧ i = .int .i64 ((t : Int) - 1) ∧ sm = .int .u32 ((Crc.kU (fun q => !(f ((Crc.aW l).length + (t + q)))) (32 - t) : Nat) : Int)) (fun _ i => (intOf i + 1).toNat)
     case atStart => exact ⟨32, by omega, rfl, rfl⟩
     case round =>
      obtain ⟨t, ht, rfl, rfl⟩ := hrel;cases t with
      | zero =>
       go_wp2_with fail;go_ret
       refine ⟨?_, HO4.out.2.2⟩;have h := Crc.Gz l;have hF' : Crc.divN (Crc.row0 (Crc.aW l)) (8 * l.length) = f := (by rw [← hdl]; exact hF);rw [hF'] at h;rw [← h];simp
      | succ t =>
       obtain ⟨c0, f0⟩ := ma HO4.out.1 ((Crc.aW l).length + t) (by omega);have hst : Crc.kU (fun q => !(f ((Crc.aW l).length + (t + q)))) (32 - t) = 2 * Crc.kU (fun q => !(f ((Crc.aW l).length + (t + 1 + q)))) (32 - (t + 1)) + (if (!(f ((Crc.aW l).length + t))) = true then 1 else 0) := Ev (fun q => !(f ((Crc.aW l).length + q))) t (by omega);have hlt2 := BO (fun q => !(f ((Crc.aW l).length + (t + 1 + q)))) (32 - (t + 1));have hp2 : 2 ^ (32 - (t + 1)) ≤ 2 ^ 31 := Nat.pow_le_pow_right (by omega) (by omega);have HST := hid hst;clear hst;generalize Crc.kU (fun q => !(f ((Crc.aW l).length + (t + 1 + q)))) (32 - (t + 1)) = S at hlt2 HST ⊢;have hS : S < 2147483648 := (by omega);clear hlt2 hp2;have hidx : ((M : Int) - 32) + (((t + 1 : Nat) : Int) - 1) = (((Crc.aW l).length + t : Nat) : Int) := (by omega);have hi2 : ((t + 1 : Nat) : Int) - 1 = (t : Int) := (by omega);rw [hi2] at hidx ⊢;clear hi2;have hlM : (Crc.aW l).length + t < M := (by omega);generalize hp0 : (Crc.aW l).length + t = p0 at hidx hlM c0 f0 HST;cases hb : f p0 with
       | false =>
        rw [hb] at c0;go_wp2_with fail
        go_round
        case rel => exact ⟨t, by omega, by go_num, by rw [HST.out, hb]; simp; omega⟩
        case measure => simp [intOf]
       | true =>
        rw [hb] at c0;go_wp2_with fail
        go_round
        case rel => exact ⟨t, by omega, by go_num, by rw [HST.out, hb]; simp; omega⟩
        case measure => simp [intOf]
theorem qz (S S' : Nat → Prop) (own own' : Bool) (l m : List UInt8) (v v' : Value) (w : World) (hr : aO w S own l v) (hr' : aO w S' own' m v') (h1 : l.length + m.length ≤ 2000000) :
  Calls Tryz.prog 77 #[v, v'] w (jN 5 w (l ++ m)) := by
 obtain ⟨i0, hi0, hz0, hz1, hz2⟩ := info_parts lZ;obtain ⟨hl, ad, cap, rfl, hc⟩ := hr.shape;obtain ⟨hm, ad', cap', rfl, hc'⟩ := hr'.shape;have hbl : ∀ x : List UInt8, (bytes x).length = x.length := bytes_length;have HR := hid (au hr hr');clear hr hr'
 go_enter Tryz.func77, Tryz.ntmps77
 go_upto_region 3 with (at_builtin; go_loud (refine bg _ rfl (.tmp 6) (.tmp 7) _ rfl w.1.size 5 i0 _ 1 1 Tryz.underlying32 hi0 hz0 hz1 hz2 rfl (by omega) _ 0 [] rfl (World.ownsRow_nil _ _ _ _) _ _ l.length (bytes l) _ rfl HR.out.1 (eF _) (by unfold maxLen; omega) (by omega) (by omega) ?_); intro v1 w1 hown1 hgrow1 hat1)
 have hsz1 := hgrow1.size;have hrm : aO w1 (fun _ => True) false m (.slice ad' m.length cap') := (Sl.keep (Sl.unown HR.out.2) (by omega) (pW hgrow1 (fun b hb e => by cases e)) (fun b hb _ => trivial));have H1 := hid (au hown1 (au hgrow1 hrm));clear hown1 hgrow1 hat1 hrm
 go_wp2_with (at_builtin; go_loud (refine bg _ rfl (.tmp 9) (.tmp 10) _ rfl w.1.size 5 i0 _ 1 1 Tryz.underlying32 hi0 hz0 hz1 hz2 rfl (by omega) _ _ _ rfl H1.out.1 _ _ m.length (bytes m) _ rfl H1.out.2.2 (eF _) (by unfold maxLen; omega) (by omega) (by omega) ?_); intro v2 w2 hown2 hgrow2 hat2)
 go_ret
 have hlo := H1.out.1.lt;refine ⟨v2, rfl, ?_, ((Below.refl w.1.size w).grown H1.out.2.1 nl (fun k hk => by cases hk)).grown hgrow2 hsz1 (fun k hk => (hlo k hk).1)⟩;have e : [] ++ bytes l ++ bytes m = bytes (l ++ m) := by simp [bytes]
 rw [e] at hown2;have e2 : 0 + l.length + m.length = (l ++ m).length := by simp
 rw [e2] at hown2;exact hown2
theorem GK {w : World} {S : Nat → Prop} {T : TypeId} {k : Nat} (hk : k < 256) (hS : S w.1.size) : aO (w.alloc (.cells #[.int .u8 (k : Int)] T)) S true [k.toUInt8] (.slice (some ⟨w.1.size, 0, none⟩) 1 1) := by
 have h := wM w S #[.int .u8 (k : Int)] T 1 1 (by simp) (by omega) hS (by omega);unfold aO;simpa [bytes, fU hk] using h
theorem FU (l : List UInt8) : Crc.gL l < 4294967296 := by
 unfold Crc.gL;exact Nat.xor_lt_two_pow (n := 32) (by decide) (Crc.nU l (by decide))
theorem AP (w : World) (T : TypeId) (s : ByteArray) (hs : s.size ≤ 900000) : aO (Lib.bytesWorld w T s) (fun b => w.1.size ≤ b) false s.data.toList (.slice (some ⟨w.1.size, 0, none⟩) s.size (grownCap w s.size 0 T)) := by
 have hl : s.data.toList.length = s.size := (Lib.size_eq s).symm;refine ⟨by simp, by omega, _, _, by rw [hl], by rw [hl]; exact grownCap_ge _ _ _ _, fun _ => ⟨w.1.size, 0, rfl, Nat.le_refl _, fun j hj => ⟨?_, fun h => by cases h⟩⟩⟩;have hj' : j < s.size := by rw [bytes_length, hl] at hj; exact hj
 rw [Nat.zero_add, Lib.bytesWorld_cell w T s j hj'];have hjl : j < s.data.toList.length := by omega
 simp [bytes, List.getD, af hjl]
theorem yR (k : Nat) (s : ByteArray) (w : World) (hk : k < 256) (hs : s.size ≤ 800000) :
  Calls Tryz.prog 41 #[.agg #[.int .u8 k, .string s]] w (jN 5 w (bW k s.data.toList)) := by
 obtain ⟨i0, hi0, hz0, hz1, hz2⟩ := info_parts lZ;have g0 := heap_alloc_new w (.cells #[.int .u8 k, .string s] 96)
 go_enter Tryz.func41, Tryz.ntmps41
 go_upto_region 1 with fail
 have hW : Below w.1.size w (w.alloc (.cells #[.int .u8 k, .string s] 96)) := br.alloc nl _;have hz : w.1.size < (w.alloc (.cells #[.int .u8 k, .string s] 96)).1.size := by rw [aD]; omega
 have d0 : (w.alloc (.cells #[.int .u8 k, .string s] 96)).cell? ⟨w.1.size, 0, none⟩ = some (.int .u8 k) := by unfold World.cell?; rw [g0]; rfl
 have d1 : (w.alloc (.cells #[.int .u8 k, .string s] 96)).cell? ⟨w.1.size, 1, none⟩ = some (.string s) := by unfold World.cell?; rw [g0]; rfl
 generalize w.alloc (.cells #[.int .u8 k, .string s] 96) = X at hW hz d0 d1 ⊢;have hsl : s.data.toList.length = s.size := (Lib.size_eq s).symm;generalize hfb : w.1.size = fb at hz d0 d1 ⊢;clear g0;have hp : s.size < 128 ^ (9 + 1) := by omega
 have h64 : s.size < 18446744073709551616 := by omega
 have hpv := cB s.size;refine dK (w0 := X) rfl [.eq (.pointer (some ⟨fb, 0, none⟩)), .eq (.int .u8 k), .of (pu [k.toUInt8]), .eq (.pointer (some ⟨fb, 1, none⟩)), .eq (.string s), .eq (.int .i64 (s.size : Nat)), .eq (.int .u64 (s.size : Nat)), .of (pu (dw s.size)), .of (pu ((k.toUInt8) :: dw s.size)), .of (pu ((k.toUInt8) :: dw s.size))] (by kernel_rfl) ⟨?_, ?_, ?_, ?_, ?_, ?_, ?_, ?_, ?_, ?_, ?_, ?_, ?_, ?_, trivial⟩ (fun vs => [(5, (.pointer (some ⟨fb, 0, none⟩))), (6, (.int .u8 k)), (7, vs 2), (8, (.pointer (some ⟨fb, 1, none⟩))), (9, (.string s)), (10, (.int .i64 (s.size : Nat))), (11, (.int .u64 (s.size : Nat))), (12, vs 7), (13, vs 8), (3, vs 9)]) (fun _ => rfl) ?_
 ·refine rZ fun S a wx K Q hR hK => ?_
  have t1 : a.tmps[1]? = some (.pointer (some ⟨fb, 0, none⟩)) := hR.o 1;go_simp;exact hK _ _ br rfl
 ·refine rZ fun S a wx K Q hR hK => ?_
  have t5 := hR.q 0;have y0 := (hR.bel.cell (p := ⟨fb, 0, none⟩) hz).trans d0;go_simp;exact hK _ _ br rfl
 ·exact il _
 ·refine rZ fun S a wx K Q hR hK => ?_
  have t6 := hR.q 1;go_simp;have hq := vz wx k hk 5;refine hK _ _ (br.alloc nl _) ?_;exact GK hk (hR.new _ nl)
 ·refine rZ fun S a wx K Q hR hK => ?_
  have t1 : a.tmps[1]? = some (.pointer (some ⟨fb, 0, none⟩)) := hR.o 1;go_simp;exact hK _ _ br rfl
 ·refine rZ fun S a wx K Q hR hK => ?_
  have t8 := hR.q 3;have y0 := (hR.bel.cell (p := ⟨fb, 1, none⟩) hz).trans d1;go_simp;exact hK _ _ br rfl
 ·refine rZ fun S a wx K Q hR hK => ?_
  have t9 := hR.q 4;go_simp;exact hK _ _ br rfl
 ·refine rZ fun S a wx K Q hR hK => ?_
  have t10 := hR.q 5;go_simp
  (try go_ints)
  exact hK _ _ br rfl
 ·exact il _
 ·refine rZ fun S a wx K Q hR hK => ?_
  have t11 := hR.q 6;go_simp
  go_at_call 78
  refine (pX 9 s.size _ hp h64).mono ?_;rintro e w' ⟨v1, rfl, hown1, hb1⟩;exact hK _ _ hb1 (Sl.keep (aO.of_owns hown1) (by omega) (fun _ _ _ => rfl) (fun b _ hb => hR.new b hb.2))
 ·exact il _
 ·refine rZ fun S a wx K Q hR hK => ?_
  obtain ⟨u7, t7, f7⟩ := hR.f 2;obtain ⟨u12, t12, f12⟩ := hR.f 7;go_simp
  go_at_call 77
  refine (qz _ _ _ _ _ _ _ _ _ f7 f12 (by simp; omega)).mono ?_;rintro e w' ⟨v1, rfl, hown1, hb1⟩;exact hK _ _ hb1 (Sl.keep (aO.of_owns hown1) (by omega) (fun _ _ _ => rfl) (fun b _ hb => hR.new b hb.2))
 ·exact il _
 ·refine rZ fun S a wx K Q hR hK => ?_
  obtain ⟨u13, t13, f13⟩ := hR.f 8;go_simp;exact hK _ _ br f13
 intro S13 vs wd hD;have r3 : aO wd S13 true (k.toUInt8 :: dw s.size) (vs 9) := hD.ofs 9 _ rfl;have HB := hid (hW.trans (hD.bel.mono (by have := hW.size; omega)));have HX := hid (au ((hD.bel.cell (p := ⟨fb, 1, none⟩) hz).trans d1) (show fb < wd.1.size by have := hD.bel.size; omega));simp only [bS, List.foldl_cons, List.foldl_nil];clear hD hW hz d0 d1;generalize hv3 : vs 9 = v3 at r3 ⊢;generalize vs 2 = v7;generalize vs 7 = v12;generalize vs 8 = v13;have hF : ∀ l : List UInt8, l = s.data.toList → (k.toUInt8 :: dw s.size) ++ l = bA k l := by intro l hl; subst hl; unfold bA bO; simp
 have HR3 := hid r3;clear r3;obtain ⟨e1, h1⟩ := HX.out;have HRP := hid (AP wd 5 s (by omega));have HRQ := hid ((HR3.out).below (Lib.bytesWorld_below wd 5 s) nl);go_simp
 go_wp2_with (first | rw [Lib.run_convert_string_bytes (P := Tryz.prog) _ 9 32 5 s Tryz.underlying9 Tryz.underlying32 Tryz.underlying5] | fail)
 refine (qz _ _ _ _ _ _ _ _ _ HRQ.out HRP.out (by simp; omega)).mono ?_;rintro e w1 ⟨v1, rfl, hown1, hb1⟩;rw [hF _ rfl] at hown1;have hfl : (bA k s.data.toList).length ≤ 800011 := by have := bI [s.data.toList.length]; unfold bA; simp at this ⊢; omega
 have HS1 := hid (aO.of_owns hown1);have HB1 := hid (HB.out.trans ((Lib.bytesWorld_below wd 5 s).trans (hb1.mono (Lib.bytesWorld_below wd 5 s).size) |>.mono HB.out.size));have H1 := hid (iD hown1 (base' := w.1.size) (by have := HB.out.size; have := (Lib.bytesWorld_below wd 5 s).size; omega));obtain ⟨va1, vc1, rfl⟩ := aQ hown1;have HQ1 := hid (AO (bA k s.data.toList) _ w1 (by omega) (Sl.keep (Sl.unown HS1.out) (by omega) (fun _ _ _ => rfl) (fun b hl _ => hl)));clear hown1 hb1 HR3 HRP HRQ;go_wp2_with fail;refine HQ1.out.mono ?_;rintro e w2 ⟨rfl, hb2⟩;have HB2 := hid (HB1.out.trans (hb2.mono HB1.out.size));have H2 := hid (ownsRow_below H1.out hb2 nl);have hcl := FU (bA k s.data.toList);generalize hcr : Crc.gL (bA k s.data.toList) = c at hcl ⊢;clear hb2 HQ1 H1 HB1;have hlit : Hid ([.int .u8 ((c : Int) % 256), .int .u8 ((c : Int) / 256 % 256), .int .u8 ((c : Int) / 65536 % 256), .int .u8 ((c : Int) / 16777216)] = bytes (kD c)) := hid (by unfold kD uA bytes; simp [List.range_succ]; omega)
 go_wp2_with (at_builtin; go_loud (refine bg _ rfl (.tmp 21) (.tmp 36) _ rfl w.1.size 5 i0 _ 1 1 Tryz.underlying32 hi0 hz0 hz1 hz2 rfl (by omega) _ _ (bytes (bA k s.data.toList)) rfl (H2.out.alloc _) _ _ 4 [.int .u8 ((c : Int) % 256), .int .u8 ((c : Int) / 256 % 256), .int .u8 ((c : Int) / 65536 % 256), .int .u8 ((c : Int) / 16777216)] _ rfl (Sl.of_owns (jX w2 0 #[.int .u8 ((c : Int) % 256), .int .u8 ((c : Int) / 256 % 256), .int .u8 ((c : Int) / 65536 % 256), .int .u8 ((c : Int) / 16777216)] 5 (Nat.zero_le _) (by simp)) (by omega)) (by simp [Value.oneCell']) (by unfold maxLen; omega) (by omega) (by have := HB2.out.size; simp; omega) ?_); intro v' w3 hown3 hgrow hat)
 go_ret
 have hlo := H2.out.lt;refine ⟨v', rfl, ?_, ((HB2.out.alloc HB2.out.size _).grown hgrow (by have := HB2.out.size; simp; omega) (fun k hk => (hlo k hk).1))⟩;rw [hlit.out, ← bytes_append] at hown3;unfold bW;rw [hcr];have e2 : (bA k s.data.toList).length + 4 = (bA k s.data.toList ++ kD c).length := by unfold kD; simp [jF]
 rw [e2] at hown3;exact hown3
structure Frm where
 rule : Int
 kind : Nat
 pay : List UInt8
 len : Nat
def Frm.no (r : Int) : Frm := ⟨r, 0, [], 0⟩
def bn (l : List UInt8) : Frm := match l with
 | [] => .no 1
 | k :: r => if dJ r = 10 then .no 2 else match bf r with
  | none => .no 1
  | some x => if x.2.length < x.1 + 4 then .no 1 else
   if l.take (bW k.toNat (x.2.take x.1)).length = bW k.toNat (x.2.take x.1) then ⟨0, k.toNat, x.2.take x.1, (bW k.toNat (x.2.take x.1)).length⟩ else .no 3
theorem yS : bn [] = .no 1 := rfl
theorem yT {k : UInt8} {r : List UInt8} (h : dJ r = 10) : bn (k :: r) = .no 2 := by unfold bn; simp only [if_pos h]
theorem vK {k : UInt8} {r : List UInt8} (h : dJ r ≠ 10) (h2 : bf r = none) : bn (k :: r) = .no 1 := by unfold bn; simp only [if_neg h, h2]
theorem tu {k : UInt8} {r s : List UInt8} {n : Nat} (h2 : bf r = some (n, s)) (h3 : s.length < n + 4) : bn (k :: r) = .no 1 := by
 have h : dJ r ≠ 10 := fun e => by have := (dG r).2 (by rw [h2]; rfl); omega
 unfold bn; simp only [if_neg h, h2, if_pos h3]
theorem nA {k : UInt8} {r s : List UInt8} {n : Nat} (h2 : bf r = some (n, s)) (h3 : n + 4 ≤ s.length) : (k :: r).take (1 + (r.length - s.length) + n) = bA k.toNat (s.take n) ∧ (bA k.toNat (s.take n)).length = 1 + (r.length - s.length) + n := by
 obtain ⟨e, hn⟩ := bF h2;have hl : (s.take n).length = n := by simp; omega
 have hp : r.length - s.length = (dw n).length := by rw [e]; simp
 have hh : bA k.toNat (s.take n) = k :: (dw n ++ s.take n) := by
  unfold bA;rw [hl];simp [bO]
 rw [hp, hh];refine ⟨?_, by simp; omega⟩;rw [e, show 1 + (dw n).length + n = ((dw n).length + n) + 1 from by omega, List.take_succ_cons, List.take_append];simp;exact ah (by omega)
theorem vL (k : Nat) (p : List UInt8) : (kD (Crc.gL (bA k p))).length = 4 := by unfold kD; rw [jF]
theorem AQ {k : UInt8} {r s : List UInt8} {n : Nat} (h2 : bf r = some (n, s)) (h3 : n + 4 ≤ s.length) :
  bn (k :: r) = if kD (Crc.gL (bA k.toNat (s.take n))) = (s.drop n).take 4 then ⟨0, k.toNat, s.take n, 1 + (r.length - s.length) + n + 4⟩ else .no 3 := by
 have h : dJ r ≠ 10 := fun e => by have := (dG r).2 (by rw [h2]; rfl); omega
 obtain ⟨g1, g2⟩ := nA (k := k) h2 h3;have g3 := vL k.toNat (s.take n);have hb : (bW k.toNat (s.take n)).length = 1 + (r.length - s.length) + n + 4 := by unfold bW; rw [aI, g2, g3]
 obtain ⟨e, hn⟩ := bF h2;have hd : (k :: r).drop (1 + (r.length - s.length) + n) = s.drop n := by
  have hp : r.length - s.length = (dw n).length := by rw [e]; simp
  rw [hp, e, show 1 + (dw n).length + n = ((dw n).length + n) + 1 from by omega, List.drop_succ_cons, List.drop_append];simp
 have ht : (k :: r).take (1 + (r.length - s.length) + n + 4) = bA k.toNat (s.take n) ++ (s.drop n).take 4 := by rw [List.take_add, g1, hd]
 unfold bn;simp only [if_neg h, h2, if_neg (show ¬ s.length < n + 4 from by omega)];rw [hb, ht];unfold bW;by_cases hc : kD (Crc.gL (bA k.toNat (s.take n))) = (s.drop n).take 4
 ·rw [if_pos hc, if_pos (by rw [hc])]
 ·rw [if_neg hc, if_neg (fun e => hc (List.append_cancel_left e).symm)]
theorem pM (S : Nat → Prop) (own : Bool) (l : List UInt8) (v : Value) (w : World) (h : aO w S own l v) : (convert 32 9 v).run Tryz.prog w = .ok (.string ⟨l.toArray⟩) w := by
 obtain ⟨_, ad, cap, rfl, _⟩ := h.shape;cases l with
 | nil =>
  cases ad with
  | none => rw [show ([] : List UInt8).length = 0 from rfl, run_convert_bytes_string (P := Tryz.prog) w 32 9 5 none 0 cap Tryz.underlying32 Tryz.underlying5 Tryz.underlying9]; rfl
  | some a => exact run_convert_bytes_back (P := Tryz.prog) w 32 9 5 a cap [] Tryz.underlying32 Tryz.underlying5 Tryz.underlying9 (fun j hj => by simp at hj)
 | cons c l =>
  obtain ⟨bl, off, rfl, _, hc⟩ := h.cell (by simp);exact run_convert_bytes_back (P := Tryz.prog) w 32 9 5 ⟨bl, off, none⟩ cap (c :: l) Tryz.underlying32 Tryz.underlying5 Tryz.underlying9 (fun j hj => by rw [Addr.add_lit]; exact (hc j hj).1)
theorem tC (S S' : Nat → Prop) (own own' : Bool) (l l' : List UInt8) (v v' : Value) (w : World) (h : aO w S own l v) (h' : aO w S' own' l' v') :
  Calls Tryz.prog 179 #[v, v'] w fun e w' => e = .returned (.bool (decide (l = l'))) ∧ w' = w := by
 have q1 := pM S own l v w h;have q2 := pM S' own' l' v' w h';obtain ⟨A, hA⟩ : ∃ A : ByteArray, A = ⟨l.toArray⟩ := ⟨_, rfl⟩;obtain ⟨B, hB⟩ : ∃ B : ByteArray, B = ⟨l'.toArray⟩ := ⟨_, rfl⟩;rw [← hA] at q1;rw [← hB] at q2;have hd : (A.toList == B.toList) = decide (l = l') := by
  rw [hA, hB, ByteArray.toList_eq, ByteArray.toList_eq, Bool.eq_iff_iff];simp
 have HD := hid hd;obtain ⟨_, ad, cap, rfl, _⟩ := h.shape;obtain ⟨_, ad', cap', rfl, _⟩ := h'.shape;clear h h' hA hB hd
 go_enter Tryz.func179, Tryz.ntmps179
 go_wp2_with fail;go_ret
 refine ⟨aR ?_, rfl⟩;rw [← HD.out]
theorem uM {P : Program} {o : Oper} {a : Act} {w : World} {K : Act → World → Prop} {Q : Exit → Act → World → Prop} (ty : TypeId) (x y : Operand) (ho : o.op = .store ty x y)
  (g : Nat) (hx : a.eval x = .pointer (some ⟨g, 0, none⟩)) (cs : Array Value) (hy : a.eval y = .agg cs) (t : TypeId) (cur : Array Value) (hg : w.1[g]? = some (.cells cur t (0, 0)))
  (hi : (P.info? ty).map (·.size) = some cs.size) (hsz : cs.size = cur.size) (h1 : ∀ v ∈ cs.toList, v.oneCell' = true)
  (h : K (a.put o.dst undef) (w.setRow g cs)) : Oper.wp P o a w K Q := by
 unfold Oper.wp execOp;simp only [ho, hx, hy, Instr.storeAt, Instr.sureAddr, Sem.run_bind, Sem.run_pure, Result.andThen_ok, run_storeVar_row w g t ty cur cs hg hi hsz h1];exact h
theorem uN {S : Nat → Prop} {w : World} {g : Nat} {cs : Array Value} (h : ¬ S g) : cz S w (w.setRow g cs) := fun b hb _ => setRow_other _ _ _ _ (fun e => h (e ▸ hb))
def CX (k : Nat) (l : List UInt8) (S : Nat → Prop) (v : Value) (w : World) : Prop := ∃ pv, v = .agg #[.int .u8 (k : Nat), pv] ∧ aO w S true l pv
theorem vM (k : Nat) (l : List UInt8) : kW (CX k l) := fun S S' v w w' hk hs hS h => by
 obtain ⟨pv, h1, h2⟩ := h;exact ⟨pv, h1, Sl.keep (w := w) h2 (by omega) hk hS⟩
def tF (w : World) (a : Nat) (f : Frm) (e : Ending) (w' : World) : Prop := ∃ pv, e = .returned (.tuple #[.agg #[.int .u8 (f.kind : Nat), pv], .int .i64 (if f.rule = 0 then ((a + f.len : Nat) : Int) else 0), .int .i64 f.rule]) ∧ aO w' (fun b => w.1.size ≤ b) true f.pay pv ∧ Below w.1.size w w'
theorem iQ {w w' : World} {a : Nat} {r : Int} (h0 : r ≠ 0) (hb : Below w.1.size w w') : tF w a (.no r) (.returned (.tuple #[.agg #[.int .u8 0, .slice none 0 0], .int .i64 0, .int .i64 r])) w' :=
 ⟨_, by unfold Frm.no; simp only [if_neg h0]; rfl, aO.none, hb⟩
theorem CY (S : Nat → Prop) (own : Bool) (b : List UInt8) (v : Value) (p0 : Nat) (w : World) (hr : aO w S own b v) (ha : p0 ≤ b.length) (hb : b.length ≤ 100000) :
  Calls Tryz.prog 114 #[v, .int .i64 p0] w (tF w p0 (bn (b.drop p0))) := by
 obtain ⟨_, ad, cap, rfl, hc⟩ := hr.shape;have g0 := heap_alloc_new w (.cells #[.int .u8 0, .slice none 0 0] 105);have hb0 : Below w.1.size w (w.alloc (.cells #[.int .u8 0, .slice none 0 0] 105)) := br.alloc nl _;have hs0 : (w.alloc (.cells #[.int .u8 0, .slice none 0 0] 105)).1.size = w.1.size + 1 := aD _ _;have HR := hid (hr.below hb0 nl);have HB := hid hb0;clear hr hb0;by_cases he : p0 < b.length
 ·obtain ⟨k, r, hkr⟩ : ∃ k r, b.drop p0 = k :: r := by
   cases h : b.drop p0 with
   | nil => have := congrArg List.length h; simp at this; omega
   | cons k r => exact ⟨k, r, rfl⟩
  have hrd : r = b.drop (p0 + 1) := by rw [← List.drop_drop, hkr]; rfl
  have hrl : r.length = b.length - (p0 + 1) := by rw [hrd]; simp
  have HG := hid (sP S own b _ (p0 + 1) _ HR.out (by omega) (by omega));rw [← hrd] at HG;have HKR := hid (au hkr hrd);rw [hkr];clear hkr hrd
  go_enter Tryz.func114, Tryz.ntmps114
  go_wp2_with fail;refine HG.out.mono ?_;rintro e w1 ⟨rfl, hb1⟩;unfold pG;have g1 : w1.1[w.1.size]? = some (.cells #[.int .u8 0, .slice none 0 0] 105 (0, 0)) := (hb1.block _ (by omega)).trans g0;have HB1 := hid (HB.out.trans (hb1.mono (by omega)));have HR1 := hid (HR.out.below hb1 nl);have hs1 := hb1.size;clear hb1 g0;by_cases h10 : dJ r = 10
  ·have t1 : (dJ r == 10) = true := by simp [h10]
   have HE := hid (yT (k := k) h10);clear h10
   go_wp2_with (refine wpList_store_row rfl 105 (.tmp 4) (.tmp 31) rfl rfl w.1.size rfl _ rfl 105 _ g1 (by kernel_rfl) rfl (by simp [Value.oneCell']) ?_)
   exact aC (v := .tuple #[.agg #[.int .u8 0, .slice none 0 0], .int .i64 0, .int .i64 2]) (aU rfl _ _ w.1.size 105 _ _ _ _ _ rfl (aB _ _ _ _ _ _ g1) Tryz.underlying105 rfl (by kernel_rfl) rfl rfl) rfl (by rw [HE.out]; exact iQ (r := 2) (by decide) (below_setRow HB1.out _ _ nl))
  ·have t1 : (dJ r == 10) = false := by simp [h10]
   cases hv : bf r with
   | none =>
    have hc0 : (dJ r != 0) = true := by
     have : ¬ dJ r = 0 := fun e => by have := (dG r).1 e; rw [hv] at this; cases this
     simpa using this
    have HE := hid (vK (k := k) h10 hv);clear h10 hv
    go_wp2_with (refine wpList_store_row rfl 105 (.tmp 4) (.tmp 52) rfl rfl w.1.size rfl _ rfl 105 _ g1 (by kernel_rfl) rfl (by simp [Value.oneCell']) ?_)
    exact aC (v := .tuple #[.agg #[.int .u8 0, .slice none 0 0], .int .i64 0, .int .i64 1]) (aU rfl _ _ w.1.size 105 _ _ _ _ _ rfl (aB _ _ _ _ _ _ g1) Tryz.underlying105 rfl (by kernel_rfl) rfl rfl) rfl (by rw [HE.out]; exact iQ (r := 1) (by decide) (below_setRow HB1.out _ _ nl))
   | some x =>
    obtain ⟨n, s⟩ := x;have hc0 : (dJ r != 0) = false := by
     have : dJ r = 0 := (dG r).2 (by rw [hv]; rfl);simp [this]
    have hsl := dX hv;have hgn : kK r = n := (by unfold kK; rw [hv]);have hga : fI (p0 + 1) r = p0 + 1 + (r.length - s.length) := (by unfold fI; rw [hv]);have hn64 := nJ hv;rw [hgn, hga];obtain ⟨f0, hf0⟩ : ∃ f0, f0 = p0 + 1 + (r.length - s.length) := ⟨_, rfl⟩;rw [← hf0];have HF0 := hid (au hf0 hrl);obtain ⟨sl, hsl0⟩ : ∃ sl, sl = s.length := ⟨_, rfl⟩;have hfl : f0 + sl = b.length := (by omega);have hfa : p0 + 1 ≤ f0 := (by omega);have HV := hid hv;have HSL := hid hsl0;clear h10 hgn hga hv hf0 hrl hsl hsl0;by_cases h4 : sl < n + 4
    ·have HE := hid (tu (k := k) HV.out (by have := HSL.out; omega))
     by_cases h5 : sl < 4
     ·go_wp2_with (refine wpList_store_row rfl 105 (.tmp 4) (.tmp 52) rfl rfl w.1.size rfl _ rfl 105 _ g1 (by kernel_rfl) rfl (by simp [Value.oneCell']) ?_)
      exact aC (v := .tuple #[.agg #[.int .u8 0, .slice none 0 0], .int .i64 0, .int .i64 1]) (aU rfl _ _ w.1.size 105 _ _ _ _ _ rfl (aB _ _ _ _ _ _ g1) Tryz.underlying105 rfl (by kernel_rfl) rfl rfl) rfl (by rw [HE.out]; exact iQ (r := 1) (by decide) (below_setRow HB1.out _ _ nl))
     ·go_wp2_with (refine wpList_store_row rfl 105 (.tmp 4) (.tmp 52) rfl rfl w.1.size rfl _ rfl 105 _ g1 (by kernel_rfl) rfl (by simp [Value.oneCell']) ?_)
      exact aC (v := .tuple #[.agg #[.int .u8 0, .slice none 0 0], .int .i64 0, .int .i64 1]) (aU rfl _ _ w.1.size 105 _ _ _ _ _ rfl (aB _ _ _ _ _ _ g1) Tryz.underlying105 rfl (by kernel_rfl) rfl rfl) rfl (by rw [HE.out]; exact iQ (r := 1) (by decide) (below_setRow HB1.out _ _ nl))
    ·have h4' : n + 4 ≤ s.length := by have := HSL.out; omega
     have hn4 : n + 4 ≤ sl := (by omega);obtain ⟨E, hE0⟩ : ∃ E, E = f0 + n := ⟨_, rfl⟩;have hE : (f0 : Int) + (n : Int) = (E : Int) := (by omega);have i1 : (0 : Int) ≤ (p0 : Int) := (by omega);have i2 : (p0 : Int) ≤ (E : Int) := (by omega);have i3 : (E : Int) ≤ (cap : Int) := (by omega);have i4 : (0 : Int) ≤ (E : Int) := (by omega);have i5 : (E : Int) ≤ (E : Int) + 4 := (by omega);have i6 : (E : Int) + 4 ≤ (cap : Int) := (by omega);have i7 : (0 : Int) ≤ (E : Int) + 4 := (by omega);have i8 : ((E : Int) + 4).toNat = E + 4 := (by omega);have i9 : IntKind.i64.wrap ((E : Int) + 4) = (E : Int) + 4 := (by rw [IntKind.wrap_i64]; omega);have n1 : p0 ≤ E := (by omega);have n2 : E ≤ cap := (by omega);have n4 : E + 4 ≤ cap := (by omega);have n5 : E + 4 - E = 4 := (by omega);have HE := hid (au hE0 hn4);clear hE0
     go_upto_region 9 with fail
     have hcc := AQ (k := k) HV.out h4';obtain ⟨fh1, fh2⟩ := nA (k := k) HV.out h4';have hcut : 1 + (r.length - s.length) + n = E - p0 := (by have := HF0.out.1; have := HE.out.1; omega);rw [hcut] at fh1 fh2;have hdr : (s.drop n).take 4 = (b.drop E).take 4 := by
      have e2 : s = b.drop f0 := by
       have := jI HV.out;rw [this, HKR.out.2, List.drop_drop]
       congr 1
       rw [← HKR.out.2]; have := HF0.out.1; omega
      rw [e2, List.drop_drop, HE.out.1]
     have HH : Hid (∀ w', Below w1.1.size w1 w' → aO w' (fun k => k < w'.1.size) false (bA k.toNat (s.take n)) (.slice (ad.map fun x => x.add p0) (E - p0) (cap - p0))) := hid (fun w' hb' => by
      have h := (aO.cut HR1.out p0 (E - p0) (cap - p0) (by have := HE.out.1; omega) (by omega)).below hb' nl;rw [HKR.out.1, fh1] at h;exact Sl.unown (Sl.keep h (by omega) (fun _ _ _ => rfl) (fun b hb _ => hb)))
     have HS : Hid (∀ w', Below w1.1.size w1 w' → aO w' S own ((s.drop n).take 4) (.slice (ad.map fun x => x.add E) 4 (cap - E))) := hid (fun w' hb' => by
      have h := (aO.cut HR1.out E 4 (cap - E) (by have := HE.out.2; omega) (by omega)).below hb' nl;rw [hdr]; exact h)
     have HL := hid (show (bA k.toNat (s.take n)).length ≤ 1000000 by rw [fh2]; have := HE.out.1; omega);have HCC := hid hcc;clear hcc fh1 fh2 hdr hcut h4 h4';have y1 : (p0 == cap) = false := (by have := HE.out.1; simp; omega);have y2 : ¬ p0 = cap := (by have := HE.out.1; omega);have y3 : ¬ cap = p0 := (by have := HE.out.1; omega);have z1 : (E == cap) = false := (by have := HE.out.2; simp; omega);have z2 : ¬ E = cap := (by have := HE.out.2; omega);have z3 : ¬ cap = E := (by have := HE.out.2; omega);obtain ⟨qd, hqd⟩ : ∃ qd, qd = decide (kD (Crc.gL (bA k.toNat (s.take n))) = (s.drop n).take 4) := ⟨_, rfl⟩;have HQD := hid hqd;clear hqd;have hbW : Below w1.1.size w1 w1 := br
     go_region_held3 (fun w' => True)
      (first
       | exact trivial
       | go_keep)
      (first
       | (go_at_call 87; go_fit (vw (bA k.toNat (s.take n)) _ _ HL.out (HH.out _ (by first | exact hbW | exact hbW.drew))); rintro e w2 ⟨cv, rfl, hown2, hbx⟩; have HCV := hid (aO.of_owns hown2); obtain ⟨sa2, sc2, rfl⟩ := aQ hown2; replace hbW := (by first | exact hbW.trans (hbx.mono hbW.size) | exact hbW.drew.trans (hbx.mono hbW.size)); clear hbx)
       | (go_at_call 179; go_fit (tC _ _ _ _ (kD (Crc.gL (bA k.toNat (s.take n)))) ((s.drop n).take 4) _ _ _ (by first | exact HCV.out | exact aO.of_owns hown2) (HS.out _ (by first | exact hbW | exact hbW.drew))); rintro e w3 ⟨rfl, rfl⟩; rw [← HQD.out])
       | fail)
     have hsz3 := hbW.size;have g3 := (hbW.block _ (by omega)).trans g1;have HB3 := hid (HB1.out.trans (hbW.mono (by omega)));have HR3 := hid (HR1.out.below hbW nl);cases qd with
     | true =>
      have hq := of_decide_eq_true HQD.out.symm;have HF : Hid (bn (k :: r) = ⟨0, k.toNat, s.take n, E + 4 - p0⟩) := hid (by rw [HCC.out, if_pos hq]; have := HF0.out.1; have := HE.out.1; congr 1; omega);obtain ⟨bl, off, rfl, _, q0⟩ := aO.at8 HR3.out he;have hk8 : at8 b p0 = k.toNat := by
       have := dB b p0 he;rw [this];have h2 : (b.drop p0)[0]? = some k := (by rw [HKR.out.1]; rfl);rw [List.getElem?_drop, Nat.add_zero, af he] at h2;injection h2 with h2
       rw [h2]
      rw [hk8] at q0;have hbl := aG _ ⟨bl, off + p0, none⟩ q0;have HP := hid (fun w' (hb' : Below w3.1.size w3 w') => show aO w' S own (s.take n) (.slice (some ⟨bl, off + f0, none⟩) n (cap - f0)) from by
       have h := (aO.cut HR3.out f0 n (cap - f0) (by have := HE.out.1; omega) (by have := HE.out.1; omega)).below hb' nl;have e2 : s = b.drop f0 := by
        have := jI HV.out;rw [this, HKR.out.2, List.drop_drop]
        congr 1
        rw [← HKR.out.2]; have := HF0.out.1; omega
       rw [← e2] at h;simp only [Option.map_some, Addr.add_lit] at h;exact h)
      obtain ⟨pl, hpe⟩ : ∃ pl, pl = s.take n := ⟨_, rfl⟩;have HPL := hid (au hpe (show pl.length = n by rw [hpe]; have := HSL.out; simp; omega));rw [← hpe] at HF HP;clear hpe;have j1 : (0 : Int) ≤ (f0 : Int) := (by omega);have j2 : (f0 : Int) ≤ (E : Int) := (by have := HE.out.1; omega);have j3 : f0 ≤ E := (by have := HE.out.1; omega);have j4 : E - f0 = n := (by have := HE.out.1; omega);have j5 : (f0 == cap) = false := (by have := HE.out.1; simp; omega);have j6 : ¬ f0 = cap := (by have := HE.out.1; omega);have j7 : ¬ cap = f0 := (by have := HE.out.1; omega);have j8 : (p0 : Int) < (b.length : Int) := (by omega);have hbV : Below w3.1.size w3 w3 := br;clear hq hbW g1 HH HS
      go_upto_region 11 with fail
      refine rU (w0 := w3) rfl [.eq (.slice (some ⟨bl, off, none⟩) b.length cap), .eq (.int .i64 (p0 : Nat)), .eq (.pointer (some ⟨bl, off + p0, none⟩)), .eq (.int .u8 (k.toNat : Nat)), .eq (.slice (some ⟨bl, off, none⟩) b.length cap), .eq (.int .i64 (f0 : Nat)), .eq (.int .i64 (E : Nat)), .eq (.slice (some ⟨bl, off + f0, none⟩) n (cap - f0)), .of (pu pl), .of (CX k.toNat pl), .eq (.int .i64 (E : Nat)), .eq (.int .i64 ((E : Int) + 4)), .tail, .eq (.int .i64 ((E : Int) + 4)), .eq ((Value.int IntKind.i64 0))] 12 [] [10, 11, 13, 14] (by kernel_rfl) ⟨?_, ?_, ?_, ?_, ?_, ?_, ?_, ?_, ?_, ?_, ?_, ?_, ?_, ?_, ?_, ?_, trivial⟩ ⟨?_, ?_, ?_, ?_, trivial⟩ [fun vs w' => ∃ wx pv, vs 9 = .agg #[.int .u8 (k.toNat : Nat), pv] ∧ Below w3.1.size w3 wx ∧ aO wx (fun b => w3.1.size ≤ b) true pl pv ∧ w' = wx.setRow w.1.size #[.int .u8 (k.toNat : Nat), pv]] ⟨?_, trivial⟩ (fun vs => [(70, (.slice (some ⟨bl, off, none⟩) b.length cap)), (71, (.int .i64 (p0 : Nat))), (72, (.pointer (some ⟨bl, off + p0, none⟩))), (73, (.int .u8 (k.toNat : Nat))), (74, (.slice (some ⟨bl, off, none⟩) b.length cap)), (75, (.int .i64 (f0 : Nat))), (76, (.int .i64 (E : Nat))), (77, (.slice (some ⟨bl, off + f0, none⟩) n (cap - f0))), (78, vs 8), (79, vs 9), (80, (.int .i64 (E : Nat))), (81, (.int .i64 ((E : Int) + 4))), (5, (.int .i64 ((E : Int) + 4))), (6, ((Value.int IntKind.i64 0)))]) (fun _ => rfl) ?_
      ·refine rZ fun S a wx K Q hR hK => ?_
       have t0 : a.tmps[0]? = some (.slice (some ⟨bl, off, none⟩) b.length cap) := hR.o 0;go_simp;exact hK _ _ br rfl
      ·refine rZ fun S a wx K Q hR hK => ?_
       have t1 : a.tmps[1]? = some (.int .i64 (p0 : Nat)) := hR.o 1;go_simp;exact hK _ _ br rfl
      ·refine rZ fun S a wx K Q hR hK => ?_
       have t70 := hR.q 0;have t71 := hR.q 1;go_simp;exact hK _ _ br rfl
      ·refine rZ fun S a wx K Q hR hK => ?_
       have t72 := hR.q 2;have y0 := (hR.bel.cell (p := ⟨bl, off + p0, none⟩) hbl).trans q0;go_simp;exact hK _ _ br rfl
      ·refine rZ fun S a wx K Q hR hK => ?_
       have t0 : a.tmps[0]? = some (.slice (some ⟨bl, off, none⟩) b.length cap) := hR.o 0;go_simp;exact hK _ _ br rfl
      ·refine rZ fun S a wx K Q hR hK => ?_
       have t8 : a.tmps[8]? = some (.int .i64 (f0 : Nat)) := hR.o 8;go_simp;exact hK _ _ br rfl
      ·refine rZ fun S a wx K Q hR hK => ?_
       have t10 : a.tmps[10]? = some (.int .i64 (E : Nat)) := hR.o 10;go_simp;exact hK _ _ br rfl
      ·refine rZ fun S a wx K Q hR hK => ?_
       have t74 := hR.q 4;have t75 := hR.q 5;have t76 := hR.q 6;go_simp;exact hK _ _ br rfl
      ·exact il _
      ·refine rZ fun S a wx K Q hR hK => ?_
       have t77 := hR.q 7;go_simp
       go_at_call 65
       go_fit (dM _ _ pl _ _ (HP.out _ hR.bel) (by have := HPL.out.2; omega))
       rintro e w' ⟨pv, rfl, hown4, hbx⟩;exact hK _ _ hbx (Sl.keep (aO.of_owns hown4) (by omega) (fun _ _ _ => rfl) (fun b _ hb => hR.new b hb.2))
      ·exact vM _ _
      ·refine rZ fun S a wx K Q hR hK => ?_
       have t73 := hR.q 3;obtain ⟨u78, t78, f78⟩ := hR.f 8;obtain ⟨_, a78, c78, rfl, _⟩ := aO.shape (show aO wx S true pl u78 from f78);go_simp;exact hK _ _ br ⟨_, rfl, f78⟩
      ·refine gJ.step rfl (gJ.mk rfl rfl (fun a wx K Q hR hK => ?_))
       have t10 : a.tmps[10]? = some (.int .i64 (E : Nat)) := hR.o 10;go_simp;exact hK
      ·refine gJ.step rfl (gJ.mk rfl rfl (fun a wx K Q hR hK => ?_))
       have t80 := hR.eq 10 _ 80 (by kernel_rfl) rfl rfl;go_simp;exact hK
      ·refine gJ.step rfl (gJ.mk rfl rfl (fun a wx K Q hR hK => ?_))
       have t81 := hR.eq 11 _ 81 (by kernel_rfl) rfl rfl;go_simp;exact hK
      ·refine gJ.step rfl (gJ.mk rfl rfl (fun a wx K Q hR hK => ?_))
       go_simp;exact hK
      ·refine gJ.mk rfl rfl (fun a wx K Q hR hK => ?_)
       have t10 : a.tmps[10]? = some (.int .i64 (E : Nat)) := hR.o 10;go_simp;exact hK
      ·refine gJ.mk rfl rfl (fun a wx K Q hR hK => ?_)
       have t80 := hR.eq 10 _ 80 (by kernel_rfl) rfl rfl;go_simp;exact hK
      ·refine gJ.mk rfl rfl (fun a wx K Q hR hK => ?_)
       have t81 := hR.eq 11 _ 81 (by kernel_rfl) rfl rfl;go_simp;exact hK
      ·refine gJ.mk rfl rfl (fun a wx K Q hR hK => ?_)
       go_simp;exact hK
      ·refine tZ fun vs a wx K Q hR hZ hK => ?_
       have t4 : a.tmps[4]? = some (.pointer (some ⟨w.1.size, 0, none⟩)) := hR.o 4;have t79 := hR.d 9 79;obtain ⟨hbel2, S2, hlow, hof⟩ := hZ;obtain ⟨pv, ev, hpv⟩ : CX k.toNat pl S2 (vs 9) wx := hof 9 _ rfl;rw [ev] at t79;have hg : wx.1[w.1.size]? = some (.cells #[.int .u8 0, .slice none 0 0] 105 (0, 0)) := (hbel2.block _ (by omega)).trans g3;obtain ⟨_, qd, qc, rfl, _⟩ := aO.shape hpv;refine uM 105 (.tmp 4) (.tmp 79) rfl w.1.size (gZ t4) #[.int .u8 (k.toNat : Nat), .slice qd pl.length qc] (gZ t79) 105 _ hg (by kernel_rfl) rfl (by simp [Value.oneCell']) ?_;exact hK undef _ ⟨wx, _, (upd_ne _ _ (by omega)).trans ev, hbel2, Sl.keep hpv (by omega) (fun _ _ _ => rfl) (fun b _ hb => hlow b hb), rfl⟩
      intro vs wN hE hZ;obtain ⟨wx, pv, ev, hbel2, hpv, rfl⟩ := hZ;obtain ⟨_, qd, qc, rfl, _⟩ := aO.shape hpv;have hg : wx.1[w.1.size]? = some (.cells #[.int .u8 0, .slice none 0 0] 105 (0, 0)) := (hbel2.block _ (by omega)).trans g3;have HZ : Hid (tF w p0 (bn (k :: r)) (.returned (.tuple #[.agg #[.int .u8 (k.toNat : Nat), .slice qd pl.length qc], .int .i64 ((E : Int) + 4), .int .i64 0])) (wx.setRow w.1.size #[.int .u8 (k.toNat : Nat), .slice qd pl.length qc])) := hid (by
       rw [HF.out];refine ⟨_, ?_, Sl.keep hpv (by omega) (uN (fun h => by have h : w3.1.size ≤ w.1.size := h; omega)) (fun b _ hb => by have hb : w3.1.size ≤ b := hb; show _ ≤ b; omega), below_setRow (HB3.out.trans (hbel2.mono (by omega))) _ _ nl⟩;have he4 : ((p0 + (E + 4 - p0) : Nat) : Int) = (E : Int) + 4 := (by omega);simp only [if_true, he4])
      simp only [ev, bS, List.foldl_cons, List.foldl_nil];clear hE ev hbel2 hpv;generalize vs 8 = v8;go_simp
      (try (go_wp2_with fail))
      exact aC (v := .tuple #[.agg #[.int .u8 (k.toNat : Nat), .slice qd pl.length qc], .int .i64 ((E : Int) + 4), .int .i64 0]) (aU rfl _ _ w.1.size 105 _ _ _ _ _ rfl (aB _ _ _ _ _ _ hg) Tryz.underlying105 rfl (by kernel_rfl) rfl rfl) rfl HZ.out
     | false =>
      have hq := of_decide_eq_false HQD.out.symm;have HF : Hid (bn (k :: r) = .no 3) := hid (by rw [HCC.out, if_neg hq]);clear hq hbW
      go_wp2_with (refine wpList_store_row rfl 105 (.tmp 4) (.tmp 69) rfl rfl w.1.size rfl _ rfl 105 _ g3 (by kernel_rfl) rfl (by simp [Value.oneCell']) ?_)
      exact aC (v := .tuple #[.agg #[.int .u8 0, .slice none 0 0], .int .i64 0, .int .i64 3]) (aU rfl _ _ w.1.size 105 _ _ _ _ _ rfl (aB _ _ _ _ _ _ g3) Tryz.underlying105 rfl (by kernel_rfl) rfl rfl) rfl (by rw [HF.out]; exact iQ (r := 3) (by decide) (below_setRow HB3.out _ _ nl))
 ·have hn : b.drop p0 = [] := List.drop_of_length_le (by omega)
  rw [hn];have HE := hid yS;have hab : p0 = b.length := by omega
  go_enter Tryz.func114, Tryz.ntmps114
  go_wp2_with (refine wpList_store_row rfl 105 (.tmp 4) (.tmp 19) rfl rfl w.1.size rfl _ rfl 105 _ g0 (by kernel_rfl) rfl (by simp [Value.oneCell']) ?_)
  exact aC (v := .tuple #[.agg #[.int .u8 0, .slice none 0 0], .int .i64 0, .int .i64 1]) (aU rfl _ _ w.1.size 105 _ _ _ _ _ rfl (aB _ _ _ _ _ _ g0) Tryz.underlying105 rfl (by kernel_rfl) rfl rfl) rfl (by rw [HE.out]; exact iQ (r := 1) (by decide) (below_setRow HB.out _ _ nl))
structure Plc where
 q : Rec
 fr : Nat
 tp : Nat
structure FPl where
 kind : Nat
 pay : List UInt8
 fr : Nat
 tp : Nat
theorem dQ {l : List UInt8} (h : (bn l).rule = 0) : 0 < (bn l).len ∧ (bn l).len ≤ l.length ∧ (bn l).kind < 256 ∧ (bn l).pay.length ≤ l.length ∧ l.take (bn l).len = bW (bn l).kind (bn l).pay := by
 unfold bn at h ⊢;split at h
 ·exact absurd h (by decide)
 ·rename_i k r
  split at h
  ·exact absurd h (by decide)
  ·rename_i h10
   rw [if_neg h10];split at h
   ·exact absurd h (by decide)
   ·rename_i x hx
    split at h
    ·exact absurd h (by decide)
    ·rename_i hlt
     split at h
     ·rename_i ht
      simp only [if_neg hlt, if_pos ht];have h1 : (bW k.toNat (x.2.take x.1)).length ≤ (k :: r).length := by
       have h2 := congrArg List.length ht;rw [List.length_take] at h2;omega
      obtain ⟨e, hn⟩ := bF hx;have h3 : x.2.length ≤ r.length := (by have h4 := congrArg List.length e; rw [aI] at h4; omega);refine ⟨?_, h1, k.toNat_lt, by simp only [List.length_take, aJ]; omega, ht⟩;unfold bW bA;simp only [aI, aJ];omega
     ·exact absurd h (by decide)
def kF (b : List UInt8) : Nat → Nat → List Plc × Nat × Int
 | 0, p => ([], p, 0)
 | f + 1, p => if b.length ≤ p then ([], p, 0) else
   if (bn (b.drop p)).rule = 0 then
    match bC (bn (b.drop p)).kind (bn (b.drop p)).pay with
    | some q => (⟨q, p, p + (bn (b.drop p)).len⟩ :: (kF b f (p + (bn (b.drop p)).len)).1, (kF b f (p + (bn (b.drop p)).len)).2)
    | none => ([], p, dx (bn (b.drop p)).kind (bn (b.drop p)).pay)
   else ([], p, (bn (b.drop p)).rule)
def lG (b : List UInt8) : List Plc × Nat × Int := kF b b.length 0
def lH (b : List UInt8) : Nat → Nat → List FPl × Nat × Int
 | 0, p => ([], p, 0)
 | f + 1, p => if b.length ≤ p then ([], p, 0) else
   if (bn (b.drop p)).rule = 0 then (⟨(bn (b.drop p)).kind, (bn (b.drop p)).pay, p, p + (bn (b.drop p)).len⟩ :: (lH b f (p + (bn (b.drop p)).len)).1, (lH b f (p + (bn (b.drop p)).len)).2)
   else ([], p, (bn (b.drop p)).rule)
def xu (b : List UInt8) : List FPl × Nat × Int := lH b b.length 0
def tH : List FPl → Nat → Int → List Plc × Nat × Int
 | [], p, r => ([], p, r)
 | x :: l, p, r => match bC x.kind x.pay with
  | some q => (⟨q, x.fr, x.tp⟩ :: (tH l p r).1, (tH l p r).2)
  | none => ([], x.fr, dx x.kind x.pay)
theorem yU (b : List UInt8) : ∀ f p, tH (lH b f p).1 (lH b f p).2.1 (lH b f p).2.2 = kF b f p
 | 0, p => rfl
 | f + 1, p => by
  rw [lH, kF];split
  ·rfl
  ·split
   ·rw [tH]
    have ih := yU b f (p + (bn (b.drop p)).len);cases hq : bC (bn (b.drop p)).kind (bn (b.drop p)).pay with
    | none => rfl
    | some q => simp only [ih]
   ·rfl
theorem FV (b : List UInt8) : tH (xu b).1 (xu b).2.1 (xu b).2.2 = lG b := yU b _ _
inductive jq (b : List UInt8) : List Plc → Nat → Prop
 | nil : jq b [] 0
 | snoc {a : List Plc} {p : Nat} {q : Rec} (h : jq b a p) (hp : p < b.length) (hr : (bn (b.drop p)).rule = 0) (hq : bC (bn (b.drop p)).kind (bn (b.drop p)).pay = some q) : jq b (a ++ [⟨q, p, p + (bn (b.drop p)).len⟩]) (p + (bn (b.drop p)).len)
theorem jq.le {b : List UInt8} {a : List Plc} {p : Nat} (h : jq b a p) : p ≤ b.length ∧ a.length ≤ p := by
 induction h with
 | nil => simp
 | snoc h hp hr hq ih =>
  obtain ⟨h1, h2, _⟩ := dQ hr;simp only [aI, aJ, List.length_nil, List.length_drop] at h2 ⊢;omega
theorem jq.rest {b : List UInt8} {a : List Plc} {p : Nat} (h : jq b a p) : ∃ f, b.length ≤ p + f ∧ lG b = (a ++ (kF b f p).1, (kF b f p).2) := by
 induction h with
 | nil => exact ⟨b.length, by omega, by simp [lG]⟩
 | snoc h hp hr hq ih =>
  rename_i a p q;obtain ⟨f, hf, e⟩ := ih;obtain ⟨f', rfl⟩ : ∃ f', f = f' + 1 := ⟨f - 1, by omega⟩;have hg := dQ hr;refine ⟨f', by omega, ?_⟩;rw [e, kF, if_neg (by omega), if_pos hr, hq];simp
theorem jq.done {b : List UInt8} {a : List Plc} {p : Nat} (h : jq b a p) (hp : ¬ p < b.length) : lG b = (a, b.length, 0) := by
 have hl := h.le.1;obtain rfl : p = b.length := by omega
 obtain ⟨f, _, e⟩ := h.rest;rw [e];cases f with
 | zero => simp [kF]
 | succ f => rw [kF, if_pos (by omega)]; simp
theorem jq.cut {b : List UInt8} {a : List Plc} {p : Nat} (h : jq b a p) (hp : p < b.length) (hr : (bn (b.drop p)).rule ≠ 0) : lG b = (a, p, (bn (b.drop p)).rule) := by
 obtain ⟨f, hf, e⟩ := h.rest;obtain ⟨f', rfl⟩ : ∃ f', f = f' + 1 := ⟨f - 1, by omega⟩;rw [e, kF, if_neg (by omega), if_neg hr];simp
theorem jq.bad {b : List UInt8} {a : List Plc} {p : Nat} (h : jq b a p) (hp : p < b.length) (hr : (bn (b.drop p)).rule = 0) (hq : bC (bn (b.drop p)).kind (bn (b.drop p)).pay = none) :
  lG b = (a, p, dx (bn (b.drop p)).kind (bn (b.drop p)).pay) := by
 obtain ⟨f, hf, e⟩ := h.rest;obtain ⟨f', rfl⟩ : ∃ f', f = f' + 1 := ⟨f - 1, by omega⟩;rw [e, kF, if_neg (by omega), if_pos hr, hq];simp
inductive jr (b : List UInt8) : List FPl → Nat → Prop
 | nil : jr b [] 0
 | snoc {a : List FPl} {p : Nat} (h : jr b a p) (hp : p < b.length) (hr : (bn (b.drop p)).rule = 0) : jr b (a ++ [⟨(bn (b.drop p)).kind, (bn (b.drop p)).pay, p, p + (bn (b.drop p)).len⟩]) (p + (bn (b.drop p)).len)
theorem jr.le {b : List UInt8} {a : List FPl} {p : Nat} (h : jr b a p) : p ≤ b.length ∧ a.length ≤ p ∧ ∀ x ∈ a, x.kind < 256 ∧ x.pay.length ≤ b.length ∧ x.fr ≤ b.length ∧ x.tp ≤ b.length := by
 induction h with
 | nil => simp
 | snoc h hp hr ih =>
  obtain ⟨h1, h2, h3, h4, _⟩ := dQ hr;obtain ⟨i1, i2, i3⟩ := ih;simp only [aI, aJ, List.length_nil, List.length_drop] at h2 h4 ⊢;refine ⟨by omega, by omega, ?_⟩;intro x hx;rcases List.mem_append.1 hx with hx | hx
  ·exact i3 x hx
  ·rw [List.mem_singleton] at hx
   subst hx;exact ⟨h3, by simp only; omega, by simp only; omega, by simp only; omega⟩
theorem jr.rest {b : List UInt8} {a : List FPl} {p : Nat} (h : jr b a p) : ∃ f, b.length ≤ p + f ∧ xu b = (a ++ (lH b f p).1, (lH b f p).2) := by
 induction h with
 | nil => exact ⟨b.length, by omega, by simp [xu]⟩
 | snoc h hp hr ih =>
  rename_i a p;obtain ⟨f, hf, e⟩ := ih;obtain ⟨f', rfl⟩ : ∃ f', f = f' + 1 := ⟨f - 1, by omega⟩;have hg := dQ hr;refine ⟨f', by omega, ?_⟩;rw [e, lH, if_neg (by omega), if_pos hr];simp
theorem jr.done {b : List UInt8} {a : List FPl} {p : Nat} (h : jr b a p) (hp : ¬ p < b.length) : xu b = (a, p, 0) := by
 have hl := h.le.1;obtain ⟨f, _, e⟩ := h.rest;rw [e];cases f with
 | zero => simp [lH]
 | succ f => rw [lH, if_pos (by omega)]; simp
theorem jr.cut {b : List UInt8} {a : List FPl} {p : Nat} (h : jr b a p) (hp : p < b.length) (hr : (bn (b.drop p)).rule ≠ 0) : xu b = (a, p, (bn (b.drop p)).rule) := by
 obtain ⟨f, hf, e⟩ := h.rest;obtain ⟨f', rfl⟩ : ∃ f', f = f' + 1 := ⟨f - 1, by omega⟩;rw [e, lH, if_neg (by omega), if_neg hr];simp
theorem yV (b : List UInt8) : ∀ f p, (lH b f p).1.length ≤ f
 | 0, p => by simp [lH]
 | f + 1, p => by
  rw [lH];split
  ·simp
  ·split
   ·have := yV b f (p + (bn (b.drop p)).len)
    simp only [aJ];omega
   ·simp
theorem yX (b : List UInt8) : ∀ f p, (kF b f p).1.length ≤ f
 | 0, p => by simp [kF]
 | f + 1, p => by
  rw [kF];split
  ·simp
  ·split
   ·split
    ·have := yX b f (p + (bn (b.drop p)).len)
     simp only [aJ];omega
    ·simp
   ·simp
theorem yY (b : List UInt8) : (lG b).1.length ≤ b.length := yX b _ _
end Go.Proofs.YtlpgokcapdjgjaaGreatDoor
