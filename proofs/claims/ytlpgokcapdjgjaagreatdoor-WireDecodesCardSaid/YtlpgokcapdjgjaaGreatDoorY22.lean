/- The reference's reader of bytes, a value. -/
import Derived.Test.YtlpgokcapdjgjaaGreatDoorY83
import Derived.Test.YtlpgokcapdjgjaaGreatDoorY72
set_option maxHeartbeats 8000000
set_option maxRecDepth 100000
namespace Go.Proofs.YtlpgokcapdjgjaaGreatDoor
open Go.RowKit Go
set_option linter.unusedVariables false
set_option linter.unusedSimpArgs false
theorem lM (w : World) (T : TypeId) (s : ByteArray) (hs : s.size ≤ 100000) : aO (Lib.bytesWorld w T s) (fun b => w.1.size ≤ b) false s.data.toList (.slice (some ⟨w.1.size, 0, none⟩) s.size (grownCap w s.size 0 T)) := by
 have hl : s.data.toList.length = s.size := dS s;refine ⟨by simp, by omega, _, _, by rw [hl], by rw [hl]; exact grownCap_ge _ _ _ _, fun _ => ⟨w.1.size, 0, rfl, Nat.le_refl _, fun j hj => ⟨?_, fun h => by cases h⟩⟩⟩;have hj' : j < s.size := by rw [bytes_length, hl] at hj; exact hj
 rw [Nat.zero_add, Lib.bytesWorld_cell w T s j hj'];have hjl : j < s.data.toList.length := by omega
 simp [bytes, List.getD, af hjl]
def RdA (B : ByteArray) (s : Option (List UInt8)) (a e : Int) : Prop := match s with
 | some l => e = 0 ∧ ∃ n : Nat, a = (n : Int) ∧ n ≤ B.size ∧ l = B.data.toList.drop n
 | none => (e == 0) = false
theorem FX {a : Nat} {l r : List UInt8} {v : Nat} (h : bf l = some (v, r)) : kK l = v ∧ fI a l = a + (l.length - r.length) ∧ dJ l = 0 := by
 refine ⟨by unfold kK; rw [h], by unfold fI; rw [h], (dG l).2 (by rw [h]; rfl)⟩
theorem Hw {w2 : World} {g h o : Nat} (hgh : h ≠ g) {T : TypeId} {p q r : Value} (v x y z : Value) (hh : w2.1[h]? = some (.cells #[p, q, r] T (0, 0))) :
  ((((w2.setCell ⟨g, o, none⟩ v).setCell ⟨h, 0, none⟩ x).setCell ⟨h, 1, none⟩ y).setCell ⟨h, 2, none⟩ z).1[h]? = some (.cells #[x, y, z] T (0, 0)) := by
 have h0 : (w2.setCell ⟨g, o, none⟩ v).1[h]? = some (.cells #[p, q, r] T (0, 0)) := (heap_setCell_other _ _ _ _ hgh).trans hh;exact aM (aM (aM h0 rfl) rfl) rfl
theorem tN {w w2 : World} {g h o : Nat} (hb : Below w.1.size w w2) (hg : w.1.size ≤ g) (hh : w.1.size ≤ h) (v x y z : Value) :
  Below w.1.size w ((((w2.setCell ⟨g, o, none⟩ v).setCell ⟨h, 0, none⟩ x).setCell ⟨h, 1, none⟩ y).setCell ⟨h, 2, none⟩ z) :=
 (((hb.setCell hg v).setCell hh x).setCell hh y).setCell hh z
theorem jB (B : ByteArray) (s : Option (List UInt8)) (a e : Int) (w : World) (hB : B.size ≤ 100000) (h : RdA B s a e) :
  Calls Tryz.prog 176 #[.agg #[.string B, .int .i64 a, .int .i64 e]] w fun ex w' => ∃ a' e', ex = .returned (.tuple #[.agg #[.string B, .int .i64 a', .int .i64 e'], .int .u64 (bG s).1]) ∧ RdA B (bG s).2 a' e' ∧ Below w.1.size w w' := by
 cases s with
 | none =>
  have he : (e == 0) = false := h;have he2 : (e != 0) = true := by simp [bne, he]
  have H := hid h;clear h
  go_enter Tryz.func176, Tryz.ntmps176
  go_wp2_with fail;refine aC (v := .tuple #[.agg #[.string B, .int .i64 a, .int .i64 e], .int .u64 0]) (aN rfl _ _ (w.1.size + 1) 213 _ _ _ _ rfl (aK _ _ _ (by simp)) Tryz.underlying213 rfl (by kernel_rfl) rfl) rfl ?_;exact ⟨a, e, rfl, H.out, (br.alloc nl _).alloc (by simp) _⟩
 | some l =>
  obtain ⟨rfl, n, rfl, hn, hl⟩ := h;have HL := hid hl;clear hl;have he0 : Env w [] (fun _ => True) w := ⟨br, (by simp), (fun _ _ _ h => h), trivial⟩;have he1 := (he0.alloc #[.string B, .int .i64 n, .int .i64 0] 213).alloc #[.string ⟨#[]⟩, .int .i64 0, .int .i64 0] 213;simp only [aD] at he1;have HE := hid he1;clear he0 he1
  go_enter Tryz.func176, Tryz.ntmps176
  go_upto_region 3 with fail
  generalize (w.alloc (.cells #[.string B, .int .i64 n, .int .i64 0] 213)).alloc (.cells #[.string ⟨#[]⟩, .int .i64 0, .int .i64 0] 213) = X at HE ⊢;have HRP := hid (lM X 5 B hB);have HE1 := hid (HE.out.below (Lib.bytesWorld_below X 5 B));have e0 := HE.out.cell (.tail _ (.head _)) 0;have e1 := HE.out.cell (.tail _ (.head _)) 1;have f0 := HE1.out.cell (.tail _ (.head _)) 0;have f1 := HE1.out.cell (.tail _ (.head _)) 1
  go_wp2_with (first | rw [Lib.run_convert_string_bytes (P := Tryz.prog) _ 9 32 5 B Tryz.underlying9 Tryz.underlying32 Tryz.underlying5] | fail)
  refine (nk _ false B.data.toList _ n _ HRP.out (by rw [dS]; exact hn) (by rw [dS]; omega)).mono ?_;rintro e w2 ⟨rfl, hb2⟩;rw [← HL.out];have HE2 := hid (HE1.out.below hb2);clear hb2 e0 e1 f0 f1;have g0 : w2.1[w.1.size]? = some (.cells #[.string B, .int .i64 n, .int .i64 0] 213 (0, 0)) := HE2.out.row _ (.tail _ (.head _));have g1 : w2.1[w.1.size + 1]? = some (.cells #[.string ⟨#[]⟩, .int .i64 0, .int .i64 0] 213 (0, 0)) := HE2.out.row _ (.head _);have c0 := HE2.out.cell (.tail _ (.head _)) 0;have d0 := HE2.out.cell (.head _) 0;have y0 : w2.frozen? ⟨w.1.size, 0, none⟩ = false := by simp [World.frozen?, g0]
  have z0 : w2.frozen? ⟨w.1.size + 1, 0, none⟩ = false := by simp [World.frozen?, g1]
  have c1 := HE2.out.cell (.tail _ (.head _)) 1;have d1 := HE2.out.cell (.head _) 1;have y1 : w2.frozen? ⟨w.1.size, 1, none⟩ = false := by simp [World.frozen?, g0]
  have z1 : w2.frozen? ⟨w.1.size + 1, 1, none⟩ = false := by simp [World.frozen?, g1]
  have c2 := HE2.out.cell (.tail _ (.head _)) 2;have d2 := HE2.out.cell (.head _) 2;have y2 : w2.frozen? ⟨w.1.size, 2, none⟩ = false := by simp [World.frozen?, g0]
  have z2 : w2.frozen? ⟨w.1.size + 1, 2, none⟩ = false := by simp [World.frozen?, g1]
  have HG := hid (au g0 g1);clear g0 g1;cases hg : bf l with
  | none =>
   have hc : (dJ l == 0) = false := (by rw [beq_eq_false_iff_ne]; intro h; have := (dG l).1 h; rw [hg] at this; cases this);unfold pG;rw [(wm n hg).1, (wm n hg).2];obtain ⟨ec, hec⟩ : ∃ ec, ec = dJ l := ⟨_, rfl⟩;rw [← hec] at hc ⊢;have hc2 : (ec != 0) = true := (by simp [bne, hc]);have HEC := hid hec;clear hec;go_wp2_with fail;rw [di hg];have HS := Hw (o := 2) (g := w.1.size) (show w.1.size + 1 ≠ w.1.size by omega) (.int .i64 ec) (.string B) (.int .i64 n) (.int .i64 ec) HG.out.2;refine aC (v := .tuple #[.agg #[.string B, .int .i64 n, .int .i64 ec], .int .u64 0]) (aN rfl _ _ (w.1.size + 1) 213 _ _ _ _ rfl HS Tryz.underlying213 rfl (by kernel_rfl) rfl) rfl ?_;exact ⟨n, ec, rfl, hc, tN HE2.out.bel (by simp) (by simp) _ _ _ _⟩
  | some x =>
   obtain ⟨v, r⟩ := x;unfold pG;obtain ⟨q1, q2, q3⟩ := FX (a := n) hg;have HX : Hid (n + (l.length - r.length) ≤ B.size ∧ r = B.data.toList.drop (n + (l.length - r.length))) := by
    have h1 := jI hg;have h2 := dX hg;have h3 := HL.out;have h4 : l.length = B.size - n := (by rw [h3, List.length_drop, dS]);refine hid ⟨by omega, ?_⟩;rw [← List.drop_drop, ← h3];exact h1
   rw [q1, q2, q3];obtain ⟨m, hm⟩ : ∃ m, m = n + (l.length - r.length) := ⟨_, rfl⟩;rw [← hm] at HX ⊢;clear hm q1 q2 q3;go_wp2_with fail;rw [aY hg];have HS := Hw (o := 1) (g := w.1.size) (show w.1.size + 1 ≠ w.1.size by omega) (.int .i64 m) (.string B) (.int .i64 m) (.int .i64 0) HG.out.2;refine aC (v := .tuple #[.agg #[.string B, .int .i64 (m : Nat), .int .i64 0], .int .u64 v]) (aN rfl _ _ (w.1.size + 1) 213 _ _ _ _ rfl HS Tryz.underlying213 rfl (by kernel_rfl) rfl) rfl ?_;exact ⟨(m : Nat), 0, rfl, ⟨rfl, m, rfl, HX.out.1, HX.out.2⟩, tN HE2.out.bel (by simp) (by simp) _ _ _ _⟩
theorem jK (w : World) (S : Nat → Prop) (own : Bool) : aO w S own [] (.slice none 0 0) := ⟨by simp, by simp, none, 0, rfl, Nat.le_refl _, fun h => absurd h (by simp)⟩
theorem fP {Y : World} {h : Nat} {T : TypeId} {p q r : Value} (x y z : Value) (hh : Y.1[h]? = some (.cells #[p, q, r] T (0, 0))) :
  (((Y.setCell ⟨h, 0, none⟩ x).setCell ⟨h, 1, none⟩ y).setCell ⟨h, 2, none⟩ z).1[h]? = some (.cells #[x, y, z] T (0, 0)) ∧ cz (fun b => b ≠ h) Y (((Y.setCell ⟨h, 0, none⟩ x).setCell ⟨h, 1, none⟩ y).setCell ⟨h, 2, none⟩ z) :=
 ⟨aM (aM (aM hh rfl) rfl) rfl, fun b hb _ => (heap_setCell_other _ _ _ _ hb).trans ((heap_setCell_other _ _ _ _ hb).trans (heap_setCell_other _ _ _ _ hb))⟩
theorem tO (B : ByteArray) (s : Option (List UInt8)) (a e : Int) (k : Nat) (w : World) (hk : k ≤ 9223372036854775807) (hB : B.size ≤ 100000) (h : RdA B s a e) :
  Calls Tryz.prog 177 #[.agg #[.string B, .int .i64 a, .int .i64 e], .int .i64 k] w fun ex w' => ∃ a' e' bv, ex = .returned (.tuple #[.agg #[.string B, .int .i64 a', .int .i64 e'], bv]) ∧ RdA B (dF k s).2 a' e' ∧ aO w' (fun b => w.1.size ≤ b) false (dF k s).1 bv ∧ Below w.1.size w w' := by
 cases s with
 | none =>
  have he : (e == 0) = false := h;have he2 : (e != 0) = true := by simp [bne, he]
  have H := hid h;clear h
  go_enter Tryz.func177, Tryz.ntmps177
  go_wp2_with fail;refine aC (v := .tuple #[.agg #[.string B, .int .i64 a, .int .i64 e], .slice none 0 0]) (aN rfl _ _ (w.1.size + 1) 213 _ _ _ _ rfl (aK _ _ _ (by simp)) Tryz.underlying213 rfl (by kernel_rfl) rfl) rfl ?_;exact ⟨a, e, _, rfl, H.out, jK _ _ _, (br.alloc nl _).alloc (by simp) _⟩
 | some l =>
  obtain ⟨rfl, n, rfl, hn, hl⟩ := h;have hll : l.length = B.size - n := by rw [hl, List.length_drop, dS]
  by_cases hk2 : k ≤ l.length
  ·have hx : ¬ ((B.size : Int) - (n : Int) < (k : Int)) := by omega
   have hsz : (B.extract n (n + k)).size = k := (by rw [ByteArray.size_extract]; omega);have hdt : (B.extract n (n + k)).data.toList = l.take k := (by rw [hl, ByteArray.data_extract, Array.toList_extract]; simp [List.extract]);have hdr : l.drop k = B.data.toList.drop (n + k) := (by rw [hl, List.drop_drop]);obtain ⟨E, hE⟩ : ∃ E, E = B.extract n (n + k) := ⟨_, rfl⟩;rw [← hE] at hsz hdt;have HP := hid (au hsz (au hdt (au hdr hll)));have HEE := hid hE;have he0 : Env w [] (fun _ => True) w := ⟨br, (by simp), (fun _ _ _ h => h), trivial⟩;have he1 := (he0.alloc #[.string B, .int .i64 ((n : Int) + (k : Int)), .int .i64 0] 213).alloc #[.string ⟨#[]⟩, .int .i64 0, .int .i64 0] 213;simp only [aD] at he1;have HE := hid he1;have hn2 : n + k ≤ B.size := (by omega);clear he0 he1 hll hsz hdt hdr hl hE
   go_enter Tryz.func177, Tryz.ntmps177
   go_upto_region 11 with fail
   generalize (w.alloc (.cells #[.string B, .int .i64 ((n : Int) + (k : Int)), .int .i64 0] 213)).alloc (.cells #[.string ⟨#[]⟩, .int .i64 0, .int .i64 0] 213) = X at HE ⊢;rw [← HEE.out];have HRP := hid (lM X 5 E (by rw [HP.out.1]; omega));have HE1 := hid (HE.out.below (Lib.bytesWorld_below X 5 E));have g1 : (Lib.bytesWorld X 5 E).1[w.1.size + 1]? = some (.cells #[.string ⟨#[]⟩, .int .i64 0, .int .i64 0] 213 (0, 0)) := HE1.out.row _ (.head _);have e0 := HE.out.cell (.tail _ (.head _)) 0;have e1 := HE.out.cell (.tail _ (.head _)) 1;have e2 := HE.out.cell (.tail _ (.head _)) 2;have f0 := HE1.out.cell (.head _) 0;have f1 := HE1.out.cell (.head _) 1;have f2 := HE1.out.cell (.head _) 2;have z0 : (Lib.bytesWorld X 5 E).frozen? ⟨w.1.size + 1, 0, none⟩ = false := (by simp [World.frozen?, g1]);have z1 : (Lib.bytesWorld X 5 E).frozen? ⟨w.1.size + 1, 1, none⟩ = false := (by simp [World.frozen?, g1]);have z2 : (Lib.bytesWorld X 5 E).frozen? ⟨w.1.size + 1, 2, none⟩ = false := (by simp [World.frozen?, g1]);have HG := hid g1;clear g1
   go_wp2_with (first | rw [Lib.run_convert_string_bytes (P := Tryz.prog) _ 9 32 5 E Tryz.underlying9 Tryz.underlying32 Tryz.underlying5] | fail)
   rw [show dF k (some l) = (l.take k, some (l.drop k)) by simp [dF, hk2]];have HS := fP (.string B) (.int .i64 ((n : Int) + (k : Int))) (.int .i64 0) HG.out;have hlt := HE.out.lt (.head _);have hbel : Below w.1.size w ((((Lib.bytesWorld X 5 E).setCell ⟨w.1.size + 1, 0, none⟩ (.string B)).setCell ⟨w.1.size + 1, 1, none⟩ (.int .i64 ((n : Int) + (k : Int)))).setCell ⟨w.1.size + 1, 2, none⟩ (.int .i64 0)) := ((HE1.out.bel.setCell (by simp) _).setCell (by simp) _).setCell (by simp) _;have hrep : aO ((((Lib.bytesWorld X 5 E).setCell ⟨w.1.size + 1, 0, none⟩ (.string B)).setCell ⟨w.1.size + 1, 1, none⟩ (.int .i64 ((n : Int) + (k : Int)))).setCell ⟨w.1.size + 1, 2, none⟩ (.int .i64 0)) (fun b => w.1.size ≤ b) false (l.take k) (.slice (some ⟨X.1.size, 0, none⟩) E.size (grownCap X E.size 0 5)) := by
    have h := HRP.out;rw [HP.out.2.1] at h;exact Sl.keep h (by omega) (fun b hb hl => HS.2 b (by show b ≠ _; have hb : X.1.size ≤ b := hb; omega) hl) (fun b _ hb => by have hb : X.1.size ≤ b := hb; show w.1.size ≤ b; omega)
   refine aC (v := .tuple #[.agg #[.string B, .int .i64 ((n : Int) + (k : Int)), .int .i64 0], .slice (some ⟨X.1.size, 0, none⟩) E.size (grownCap X E.size 0 5)]) (aN rfl _ _ (w.1.size + 1) 213 _ _ _ _ rfl HS.1 Tryz.underlying213 rfl (by kernel_rfl) rfl) rfl ?_;exact ⟨_, _, _, rfl, ⟨rfl, n + k, by simp, hn2, HP.out.2.2.1⟩, hrep, hbel⟩
  ·have hx : ((B.size : Int) - (n : Int) < (k : Int)) := by omega
   have HLL := hid (au hl hll);clear hll hl
   go_enter Tryz.func177, Tryz.ntmps177
   go_wp2_with fail;rw [show dF k (some l) = ([], none) by simp [dF, hk2]];refine aC (v := .tuple #[.agg #[.string B, .int .i64 n, .int .i64 4], .slice none 0 0]) (aN rfl _ _ (w.1.size + 1) 213 _ _ _ _ rfl (aK _ _ _ (by simp)) Tryz.underlying213 rfl (by kernel_rfl) rfl) rfl ?_;exact ⟨_, 4, _, rfl, rfl, jK _ _ _, (br.alloc nl _).alloc (by simp) _⟩
def nsS : Nat → Option (List UInt8) → List Nat × Option (List UInt8)
 | 0, s => ([], s)
 | _ + 1, none => ([], none)
 | n + 1, some l => match bf l with
  | none => ([], none)
  | some x => match (nsS n (some x.2)).2 with
   | none => ([], none)
   | some r => (x.1 :: (nsS n (some x.2)).1, some r)
theorem EE : ∀ n, nsS n none = ([], none)
 | 0 => rfl
 | _ + 1 => rfl
theorem qO {n : Nat} {l : List UInt8} (h : bf l = none) : nsS (n + 1) (some l) = ([], none) := by simp [nsS, h]
theorem oH {n v : Nat} {l r : List UInt8} (h : bf l = some (v, r)) (h2 : (nsS n (some r)).2 = none) : nsS (n + 1) (some l) = ([], none) := by simp [nsS, h, h2]
theorem oI {n v : Nat} {l r q : List UInt8} (h : bf l = some (v, r)) (h2 : (nsS n (some r)).2 = some q) : nsS (n + 1) (some l) = (v :: (nsS n (some r)).1, some q) := by simp [nsS, h, h2]
theorem EF : ∀ (n : Nat) (s : Option (List UInt8)), (nsS n s).2 = none → (nsS n s).1 = []
 | 0, _, _ => rfl
 | _ + 1, none, _ => rfl
 | n + 1, some l, h => by
  cases hg : bf l with
  | none => rw [qO hg]
  | some x =>
   obtain ⟨v, r⟩ := x;cases h2 : (nsS n (some r)).2 with
   | none => rw [oH hg h2]
   | some q => rw [oI hg h2] at h; cases h
theorem iK : ∀ (n : Nat) (l q : List UInt8), (nsS n (some l)).2 = some q → (nsS n (some l)).1.length = n
 | 0, _, _, _ => rfl
 | n + 1, l, q, h => by
  cases hg : bf l with
  | none => rw [qO hg] at h; cases h
  | some x =>
   obtain ⟨v, r⟩ := x;cases h2 : (nsS n (some r)).2 with
   | none => rw [oH hg h2] at h; cases h
   | some q2 =>
    rw [oI hg h2];simp [iK n r q2 h2]
section
variable {P : Program} (w : World)
end
theorem tQ {w w' : World} {base : Nat} {e : TypeId} {sz n : Nat} {v : Value} {xs : List Value} (h : w.ownsRow base e sz v n xs) (hk : ∀ g, v.ownBlock = some g → w'.1[g]? = w.1[g]?) : w'.ownsRow base e sz v n xs := by
 obtain ⟨hl, h⟩ := h;refine ⟨hl, ?_⟩;rcases h with h | ⟨g, cap, cur, rfl, hb, hg, r⟩
 ·exact .inl h
 ·exact .inr ⟨g, cap, cur, rfl, hb, (hk g rfl).trans hg, r⟩
def bJ (l : List Nat) : List Value := l.map fun v => .int .u64 (v : Nat)
def lQ (vs : List Nat) (x : List Nat × Option (List UInt8)) : List Nat × Option (List UInt8) := match x.2 with
 | none => ([], none)
 | some r => (vs ++ x.1, some r)
structure NmR (B : ByteArray) (l : List UInt8) (n m : Nat) (T U : TypeId) (w : World) (j : Nat) (vs : List Nat) (aj : Nat) (lj : List UInt8) (sv : Value) (wr : World) : Prop where
 jn : j ≤ n
 len : vs.length = j
 le : aj ≤ B.size
 left : lj = B.data.toList.drop aj
 eq : nsS n (some l) = lQ vs (nsS (n - j) (some lj))
 bel : Below w.1.size w wr
 r0 : wr.1[w.1.size]? = some (.cells #[.string B, .int .i64 m, .int .i64 0] T (0, 0))
 r1 : wr.1[w.1.size + 1]? = some (.cells #[.string ⟨#[]⟩, .int .i64 0, .int .i64 0] T (0, 0))
 r2 : wr.1[w.1.size + 2]? = some (.cells #[.string B, .int .i64 aj, .int .i64 0] T (0, 0))
 own : wr.ownsRow (w.1.size + 3) U 1 sv j (bJ vs)
theorem AY (x : List Nat × Option (List UInt8)) (h : x.2 = none → x.1 = []) : lQ [] x = x := by
 obtain ⟨a, b⟩ := x;cases b with
 | none => have h2 : a = [] := h rfl; subst h2; rfl
 | some r => rfl
theorem EG : (Tryz.prog.info? 57).map (fun i => (i.zero, i.size, i.bytes)) = some (some (.int .u64 0), 1, 8) := by kernel_rfl
structure Nm5 (B : ByteArray) (n m : Nat) (T U : TypeId) (w : World) (j : Nat) (vs : List Nat) (aj : Nat) (sv : Value) (wr : World) : Prop where
 bel : Below w.1.size w wr
 r0 : wr.1[w.1.size]? = some (.cells #[.string B, .int .i64 m, .int .i64 0] T (0, 0))
 r1 : wr.1[w.1.size + 1]? = some (.cells #[.string ⟨#[]⟩, .int .i64 0, .int .i64 0] T (0, 0))
 r2 : wr.1[w.1.size + 2]? = some (.cells #[.string B, .int .i64 aj, .int .i64 0] T (0, 0))
 own : wr.ownsRow (w.1.size + 3) U 1 sv j (bJ vs)
theorem Nm5.grow {B : ByteArray} {n m : Nat} {T U : TypeId} {w : World} {j : Nat} {vs : List Nat} {aj : Nat} {sv v' : Value} {wr w2 : World} {o : Obj} {xs : List Value} (h : Nm5 B n m T U w j vs aj sv wr) (hg : (wr.alloc o).grownBy w2 sv.ownBlock) (ho : w2.ownsRow (w.1.size + 3) U 1 v' (j + 1) xs) :
  Below w.1.size w w2 ∧ w2.1[w.1.size]? = some (.cells #[.string B, .int .i64 m, .int .i64 0] T (0, 0)) ∧ w2.1[w.1.size + 1]? = some (.cells #[.string ⟨#[]⟩, .int .i64 0, .int .i64 0] T (0, 0)) ∧ w2.1[w.1.size + 2]? = some (.cells #[.string B, .int .i64 aj, .int .i64 0] T (0, 0)) ∧ w2.ownsRow (w.1.size + 3) U 1 v' (j + 1) xs := by
 have l2 : w.1.size + 2 < wr.1.size := (ak h.r2).1;have hs : (wr.alloc o).1.size = wr.1.size + 1 := aD _ _;have hb : Below wr.1.size wr (wr.alloc o) := br.alloc nl _;have hne : ∀ b, b < w.1.size + 3 → some b ≠ sv.ownBlock := fun b hb e => by have := (h.own.lt b e.symm).1; omega
 exact ⟨(h.bel.alloc (by omega) _).grown hg (by omega) (fun k hk => by have := (h.own.lt k hk).1; omega), (hg.block _ (by omega) (hne _ (by omega))).trans ((hb.block _ (by omega)).trans h.r0), (hg.block _ (by omega) (hne _ (by omega))).trans ((hb.block _ (by omega)).trans h.r1), (hg.block _ (by omega) (hne _ (by omega))).trans ((hb.block _ (by omega)).trans h.r2), ho⟩
theorem zu {k v : Nat} {l r : List UInt8} (hg : bf l = some (v, r)) (vs : List Nat) : lQ vs (nsS (k + 1) (some l)) = lQ (vs ++ [v]) (nsS k (some r)) := by
 cases h2 : (nsS k (some r)).2 with
 | none => rw [oH hg h2]; unfold lQ; rw [h2]
 | some q => rw [oI hg h2]; unfold lQ; rw [h2]; simp
theorem cZ (B : ByteArray) (s : Option (List UInt8)) (a e : Int) (n : Nat) (w : World) (hn : n ≤ 1000) (hB : B.size ≤ 100000) (h : RdA B s a e) :
  Calls Tryz.prog 110 #[.agg #[.string B, .int .i64 a, .int .i64 e], .int .i64 n] w fun ex w' => ∃ a' e' sv, ex = .returned (.tuple #[.agg #[.string B, .int .i64 a', .int .i64 e'], sv]) ∧ RdA B (nsS n s).2 a' e' ∧ Sl w' (fun b => w.1.size ≤ b) true 1 (nsS n s).1.length (bJ (nsS n s).1) sv ∧ Below w.1.size w w' := by
 cases s with
 | none =>
  have he : (e == 0) = false := h;have he2 : (e != 0) = true := by simp [bne, he]
  have H := hid h;clear h;rw [EE]
  go_enter Tryz.func110, Tryz.ntmps110
  go_wp2_with fail;refine aC (v := .tuple #[.agg #[.string B, .int .i64 a, .int .i64 e], .slice none 0 0]) (aN rfl _ _ (w.1.size + 1) 213 _ _ _ _ rfl (aK _ _ _ (by simp)) Tryz.underlying213 rfl (by kernel_rfl) rfl) rfl ?_;exact ⟨a, e, _, rfl, H.out, Sl.nil _ _ _ _, (br.alloc nl _).alloc (by simp) _⟩
 | some l =>
  obtain ⟨rfl, m, rfl, hm, hl⟩ := h;have HL := hid hl;have hn0 : ¬ ((n : Int) < 0) := by omega
  have he0 : Env w [] (fun _ => True) w := ⟨br, (by simp), (fun _ _ _ h => h), trivial⟩;have he1 := ((he0.alloc #[.string B, .int .i64 m, .int .i64 0] 213).alloc #[.string ⟨#[]⟩, .int .i64 0, .int .i64 0] 213).alloc #[.string B, .int .i64 m, .int .i64 0] 213;simp only [aD] at he1;have HE := hid he1;clear hl he0 he1
  go_enter Tryz.func110, Tryz.ntmps110
  go_wp2_with fail
  go_loopw [6, 8] (fun sv iv wr => ∃ (j : Nat) (vs : List Nat) (aj : Nat) (lj : List UInt8), iv = .int .i64 j ∧ NmR B l n m 213 57 w j vs aj lj sv wr) (fun _ iv _ => n - (intOf iv).toNat)
  case atStart =>
   refine ⟨0, [], m, l, rfl, Nat.zero_le _, rfl, hm, HL.out, (AY _ (EF _ _)).symm, ?_, ?_, ?_, ?_, ?_⟩
   ·exact ((br.alloc nl _).alloc (by simp) _).alloc (by simp only [aD]; omega) _
   ·exact HE.out.row _ (.tail _ (.tail _ (.head _)))
   ·exact HE.out.row _ (.tail _ (.head _))
   ·exact HE.out.row _ (.head _)
   ·exact ⟨by simp [bJ], .inl ⟨rfl, rfl⟩⟩
  case round =>
   obtain ⟨j, vs, aj, lj, rfl, hR⟩ := hrel;have hjn := hR.jn;have HR := hid hR;by_cases hlt : j < n
   ·have hlt2 : (j : Int) < (n : Int) := by omega
    have r0 := hR.r0;have cr0_0 : wr.cell? ⟨w.1.size, 0, none⟩ = _ := ax wr _ 0 _ _ _ r0;have zr0_0 : wr.frozen? ⟨w.1.size, 0, none⟩ = false := (by simp [World.frozen?, r0]);have cr0_1 : wr.cell? ⟨w.1.size, 1, none⟩ = _ := ax wr _ 1 _ _ _ r0;have zr0_1 : wr.frozen? ⟨w.1.size, 1, none⟩ = false := (by simp [World.frozen?, r0]);have cr0_2 : wr.cell? ⟨w.1.size, 2, none⟩ = _ := ax wr _ 2 _ _ _ r0;have zr0_2 : wr.frozen? ⟨w.1.size, 2, none⟩ = false := (by simp [World.frozen?, r0]);have r1 := hR.r1;have cr1_0 : wr.cell? ⟨w.1.size + 1, 0, none⟩ = _ := ax wr _ 0 _ _ _ r1;have zr1_0 : wr.frozen? ⟨w.1.size + 1, 0, none⟩ = false := (by simp [World.frozen?, r1]);have cr1_1 : wr.cell? ⟨w.1.size + 1, 1, none⟩ = _ := ax wr _ 1 _ _ _ r1;have zr1_1 : wr.frozen? ⟨w.1.size + 1, 1, none⟩ = false := (by simp [World.frozen?, r1]);have cr1_2 : wr.cell? ⟨w.1.size + 1, 2, none⟩ = _ := ax wr _ 2 _ _ _ r1;have zr1_2 : wr.frozen? ⟨w.1.size + 1, 2, none⟩ = false := (by simp [World.frozen?, r1]);have r2 := hR.r2;have cr2_0 : wr.cell? ⟨w.1.size + 2, 0, none⟩ = _ := ax wr _ 0 _ _ _ r2;have zr2_0 : wr.frozen? ⟨w.1.size + 2, 0, none⟩ = false := (by simp [World.frozen?, r2]);have cr2_1 : wr.cell? ⟨w.1.size + 2, 1, none⟩ = _ := ax wr _ 1 _ _ _ r2;have zr2_1 : wr.frozen? ⟨w.1.size + 2, 1, none⟩ = false := (by simp [World.frozen?, r2]);have cr2_2 : wr.cell? ⟨w.1.size + 2, 2, none⟩ = _ := ax wr _ 2 _ _ _ r2;have zr2_2 : wr.frozen? ⟨w.1.size + 2, 2, none⟩ = false := (by simp [World.frozen?, r2]);clear hR r0 r1 r2;go_wp2_with fail;refine (jB B (some lj) aj 0 _ hB ⟨rfl, aj, rfl, HR.out.le, HR.out.left⟩).mono ?_;rintro ex w1 ⟨a1, e1, rfl, h1, hb1⟩;have hlen := HR.out.bel.size;have hlt0 : w.1.size + 2 < wr.1.size := (ak HR.out.r2).1;have q0 := (hb1.block _ (by omega)).trans HR.out.r0;have q1 := (hb1.block _ (by omega)).trans HR.out.r1;have q2 := (hb1.block _ (by omega)).trans HR.out.r2;have hl1 := hb1.size;clear cr0_0 zr0_0 cr0_1 zr0_1 cr0_2 zr0_2 cr1_0 zr1_0 cr1_1 zr1_1 cr1_2 zr1_2 cr2_0 zr2_0 cr2_1 zr2_1 cr2_2 zr2_2
    go_upto_region 12 with fail
    have hb4 := hb1.alloc hb1.size (.cells #[.string B, .int .i64 a1, .int .i64 e1] 213);have q0 := (((Below.refl w1.1.size w1).alloc nl (.cells #[.string B, .int .i64 a1, .int .i64 e1] 213)).block _ (by omega)).trans q0;have q1 := (((Below.refl w1.1.size w1).alloc nl (.cells #[.string B, .int .i64 a1, .int .i64 e1] 213)).block _ (by omega)).trans q1;have q2 := (((Below.refl w1.1.size w1).alloc nl (.cells #[.string B, .int .i64 a1, .int .i64 e1] 213)).block _ (by omega)).trans q2;have q3 : (w1.alloc (.cells #[.string B, .int .i64 a1, .int .i64 e1] 213)).1[w1.1.size]? = some (.cells #[.string B, .int .i64 a1, .int .i64 e1] 213 (0, 0)) := aK _ _ _ rfl;generalize w1.alloc (.cells #[.string B, .int .i64 a1, .int .i64 e1] 213) = W4 at hb4 q0 q1 q2 q3 ⊢;have cq0_0 : W4.cell? ⟨w.1.size, 0, none⟩ = _ := ax W4 _ 0 _ _ _ q0;have zq0_0 : W4.frozen? ⟨w.1.size, 0, none⟩ = false := (by simp [World.frozen?, q0]);have cq0_1 : W4.cell? ⟨w.1.size, 1, none⟩ = _ := ax W4 _ 1 _ _ _ q0;have zq0_1 : W4.frozen? ⟨w.1.size, 1, none⟩ = false := (by simp [World.frozen?, q0]);have cq0_2 : W4.cell? ⟨w.1.size, 2, none⟩ = _ := ax W4 _ 2 _ _ _ q0;have zq0_2 : W4.frozen? ⟨w.1.size, 2, none⟩ = false := (by simp [World.frozen?, q0]);have cq1_0 : W4.cell? ⟨w.1.size + 1, 0, none⟩ = _ := ax W4 _ 0 _ _ _ q1;have zq1_0 : W4.frozen? ⟨w.1.size + 1, 0, none⟩ = false := (by simp [World.frozen?, q1]);have cq1_1 : W4.cell? ⟨w.1.size + 1, 1, none⟩ = _ := ax W4 _ 1 _ _ _ q1;have zq1_1 : W4.frozen? ⟨w.1.size + 1, 1, none⟩ = false := (by simp [World.frozen?, q1]);have cq1_2 : W4.cell? ⟨w.1.size + 1, 2, none⟩ = _ := ax W4 _ 2 _ _ _ q1;have zq1_2 : W4.frozen? ⟨w.1.size + 1, 2, none⟩ = false := (by simp [World.frozen?, q1]);have cq2_0 : W4.cell? ⟨w.1.size + 2, 0, none⟩ = _ := ax W4 _ 0 _ _ _ q2;have zq2_0 : W4.frozen? ⟨w.1.size + 2, 0, none⟩ = false := (by simp [World.frozen?, q2]);have cq2_1 : W4.cell? ⟨w.1.size + 2, 1, none⟩ = _ := ax W4 _ 1 _ _ _ q2;have zq2_1 : W4.frozen? ⟨w.1.size + 2, 1, none⟩ = false := (by simp [World.frozen?, q2]);have cq2_2 : W4.cell? ⟨w.1.size + 2, 2, none⟩ = _ := ax W4 _ 2 _ _ _ q2;have zq2_2 : W4.frozen? ⟨w.1.size + 2, 2, none⟩ = false := (by simp [World.frozen?, q2]);have cq3_0 : W4.cell? ⟨w1.1.size, 0, none⟩ = _ := ax W4 _ 0 _ _ _ q3;have zq3_0 : W4.frozen? ⟨w1.1.size, 0, none⟩ = false := (by simp [World.frozen?, q3]);have cq3_1 : W4.cell? ⟨w1.1.size, 1, none⟩ = _ := ax W4 _ 1 _ _ _ q3;have zq3_1 : W4.frozen? ⟨w1.1.size, 1, none⟩ = false := (by simp [World.frozen?, q3]);have cq3_2 : W4.cell? ⟨w1.1.size, 2, none⟩ = _ := ax W4 _ 2 _ _ _ q3;have zq3_2 : W4.frozen? ⟨w1.1.size, 2, none⟩ = false := (by simp [World.frozen?, q3]);have HQ := hid (au q0 (au q1 (au q2 q3)));have HB4 := hid hb4;clear q0 q1 q2 q3 hb4 hb1;obtain ⟨k, hk⟩ : ∃ k, n - j = k + 1 := ⟨n - j - 1, by omega⟩;cases hg : bf lj with
    | none =>
     rw [di hg] at h1;have h2 : (e1 == 0) = false := h1;have h3 : (e1 != 0) = true := (by simp [bne, h2]);go_wp2_with fail;have hQ : nsS n (some l) = ([], none) := (by rw [HR.out.eq, hk, qO hg]; rfl);rw [hQ];have hr1 : ((((W4.setCell ⟨w.1.size + 1 + 1, 0, none⟩ (.string B)).setCell ⟨w.1.size + 1 + 1, 1, none⟩ (.int .i64 a1)).setCell ⟨w.1.size + 1 + 1, 2, none⟩ (.int .i64 e1)).setCell ⟨w.1.size, 2, none⟩ (.int .i64 e1)).1[w.1.size + 1]? = some (.cells #[.string ⟨#[]⟩, .int .i64 0, .int .i64 0] 213 (0, 0)) :=
      (heap_setCell_other _ _ _ _ (by simp)).trans ((heap_setCell_other _ _ _ _ (by simp)).trans ((heap_setCell_other _ _ _ _ (by simp)).trans ((heap_setCell_other _ _ _ _ (by simp)).trans HQ.out.2.1)))
     have HS := fP (.string B) (.int .i64 m) (.int .i64 e1) hr1;have hb5 : Below w.1.size w ((((W4.setCell ⟨w.1.size + 1 + 1, 0, none⟩ (.string B)).setCell ⟨w.1.size + 1 + 1, 1, none⟩ (.int .i64 a1)).setCell ⟨w.1.size + 1 + 1, 2, none⟩ (.int .i64 e1)).setCell ⟨w.1.size, 2, none⟩ (.int .i64 e1)) := ((((HR.out.bel.trans (HB4.out.mono hlen)).setCell (by simp; omega) _).setCell (by simp; omega) _).setCell (by simp; omega) _).setCell (by simp) _;have hbel := ((hb5.setCell (p := ⟨w.1.size + 1, 0, none⟩) (by simp) (.string B)).setCell (p := ⟨w.1.size + 1, 1, none⟩) (by simp) (.int .i64 m)).setCell (p := ⟨w.1.size + 1, 2, none⟩) (by simp) (.int .i64 e1);refine aC (v := .tuple #[.agg #[.string B, .int .i64 m, .int .i64 e1], .slice none 0 0]) (aN rfl _ _ (w.1.size + 1) 213 _ _ _ _ rfl HS.1 Tryz.underlying213 rfl (by kernel_rfl) rfl) rfl ?_;exact ⟨_, _, _, rfl, h2, Sl.nil _ _ _ _, hbel⟩
    | some x =>
     obtain ⟨v, r⟩ := x;rw [aY hg] at h1;obtain ⟨rfl, a2, rfl, ha2, hr2⟩ := h1;rw [aY hg]
     go_upto_region 16 with fail
     have HW5 : Hid (Nm5 B n m 213 57 w j vs a2 u6 (((W4.setCell ⟨w.1.size + 1 + 1, 0, none⟩ (.string B)).setCell ⟨w.1.size + 1 + 1, 1, none⟩ (.int .i64 a2)).setCell ⟨w.1.size + 1 + 1, 2, none⟩ (.int .i64 0))) := hid (by
      have HS := fP (.string B) (.int .i64 a2) (.int .i64 0) HQ.out.2.2.1;have ho4 := ownsRow_below HR.out.own HB4.out nl;refine ⟨?_, (HS.2 _ (by show _ ≠ _; omega) (ak HQ.out.1).1).trans HQ.out.1, (HS.2 _ (by show _ ≠ _; omega) (ak HQ.out.2.1).1).trans HQ.out.2.1, HS.1, tQ ho4 (fun g hg => HS.2 g (by have := (ho4.lt g hg).1; show g ≠ _; omega) (ho4.lt g hg).2)⟩;exact (((HR.out.bel.trans (HB4.out.mono hlen)).setCell (by simp; omega) _).setCell (by simp; omega) _).setCell (by simp; omega) _)
     generalize (((W4.setCell ⟨w.1.size + 1 + 1, 0, none⟩ (.string B)).setCell ⟨w.1.size + 1 + 1, 1, none⟩ (.int .i64 a2)).setCell ⟨w.1.size + 1 + 1, 2, none⟩ (.int .i64 0)) = W5 at HW5 ⊢;have HE : Hid (nsS n (some l) = lQ (vs ++ [v]) (nsS (n - (j + 1)) (some r))) := hid (by
      rw [HR.out.eq, hk, show n - (j + 1) = k by omega];exact zu hg vs)
     have HL := hid (au HR.out.len (au ha2 hr2));have hvl := HR.out.len;have hls : w.1.size + 3 ≤ W5.1.size := (ak HW5.out.r2).1;clear HQ HB4 HR hr2 cq0_0 zq0_0 cq0_1 zq0_1 cq0_2 zq0_2 cq1_0 zq1_0 cq1_1 zq1_1 cq1_2 zq1_2 cq2_0 zq2_0 cq2_1 zq2_1 cq2_2 zq2_2 cq3_0 zq3_0 cq3_1 zq3_1 cq3_2 zq3_2;obtain ⟨i0, hi0, hz0, hz1, hz2⟩ := info_parts EG
     go_wp2_with (at_builtin; go_loud (refine bg _ rfl (.tmp 38) (.tmp 40) _ rfl (w.1.size + 3) 57 i0 _ 1 8 Tryz.underlying182 hi0 hz0 hz1 hz2 rfl (by omega) _ j (bJ vs) rfl (HW5.out.own.alloc _) _ _ 1 [.int .u64 (v : Nat)] _ rfl (Sl.of_owns (ownsRow_lit W5 0 #[.int .u64 (v : Nat)] 57 (Nat.zero_le _) (by simp)) (by omega)) (by simp [Value.oneCell']) (by unfold maxLen; omega) (by omega) (by simp; omega) ?_); intro v' w8 hown8 hgrow hat; have HN := hid (HW5.out.grow hgrow hown8); clear hown8 hgrow hat)
     go_roundw
     case rel =>
      obtain ⟨h1, h2, h3, h4, h5⟩ := HN.out;exact ⟨j + 1, vs ++ [v], a2, r, by go_num, ⟨by omega, by rw [aI, HL.out.1]; rfl, HL.out.2.1, HL.out.2.2, HE.out, h1, h2, h3, h4, by simpa [bJ] using h5⟩⟩
     case measure => simp [intOf]; omega
   ·have hlt2 : ¬ (j : Int) < (n : Int) := by omega
    have r0 := hR.r0;have cr0_0 : wr.cell? ⟨w.1.size, 0, none⟩ = _ := ax wr _ 0 _ _ _ r0;have zr0_0 : wr.frozen? ⟨w.1.size, 0, none⟩ = false := (by simp [World.frozen?, r0]);have cr0_1 : wr.cell? ⟨w.1.size, 1, none⟩ = _ := ax wr _ 1 _ _ _ r0;have zr0_1 : wr.frozen? ⟨w.1.size, 1, none⟩ = false := (by simp [World.frozen?, r0]);have cr0_2 : wr.cell? ⟨w.1.size, 2, none⟩ = _ := ax wr _ 2 _ _ _ r0;have zr0_2 : wr.frozen? ⟨w.1.size, 2, none⟩ = false := (by simp [World.frozen?, r0]);have r1 := hR.r1;have cr1_0 : wr.cell? ⟨w.1.size + 1, 0, none⟩ = _ := ax wr _ 0 _ _ _ r1;have zr1_0 : wr.frozen? ⟨w.1.size + 1, 0, none⟩ = false := (by simp [World.frozen?, r1]);have cr1_1 : wr.cell? ⟨w.1.size + 1, 1, none⟩ = _ := ax wr _ 1 _ _ _ r1;have zr1_1 : wr.frozen? ⟨w.1.size + 1, 1, none⟩ = false := (by simp [World.frozen?, r1]);have cr1_2 : wr.cell? ⟨w.1.size + 1, 2, none⟩ = _ := ax wr _ 2 _ _ _ r1;have zr1_2 : wr.frozen? ⟨w.1.size + 1, 2, none⟩ = false := (by simp [World.frozen?, r1]);have r2 := hR.r2;have cr2_0 : wr.cell? ⟨w.1.size + 2, 0, none⟩ = _ := ax wr _ 0 _ _ _ r2;have zr2_0 : wr.frozen? ⟨w.1.size + 2, 0, none⟩ = false := (by simp [World.frozen?, r2]);have cr2_1 : wr.cell? ⟨w.1.size + 2, 1, none⟩ = _ := ax wr _ 1 _ _ _ r2;have zr2_1 : wr.frozen? ⟨w.1.size + 2, 1, none⟩ = false := (by simp [World.frozen?, r2]);have cr2_2 : wr.cell? ⟨w.1.size + 2, 2, none⟩ = _ := ax wr _ 2 _ _ _ r2;have zr2_2 : wr.frozen? ⟨w.1.size + 2, 2, none⟩ = false := (by simp [World.frozen?, r2]);clear hR r0 r1 r2;go_wp2_with fail;have hjn2 : n - j = 0 := (by omega);have hQ : nsS n (some l) = (vs, some lj) := (by rw [HR.out.eq, hjn2]; simp [nsS, lQ]);rw [hQ];have HS := fP (.string B) (.int .i64 aj) (.int .i64 0) HR.out.r1;have hbel := ((HR.out.bel.setCell (p := ⟨w.1.size + 1, 0, none⟩) (by simp) (.string B)).setCell (p := ⟨w.1.size + 1, 1, none⟩) (by simp) (.int .i64 aj)).setCell (p := ⟨w.1.size + 1, 2, none⟩) (by simp) (.int .i64 0);have hrep := Sl.keep (S' := fun b => w.1.size ≤ b) (Sl.of_owns HR.out.own (by omega)) (by omega) (fun b hb hl => HS.2 b (by show b ≠ _; have := hb.2; omega) hl) (fun b _ hb => by have := hb.2; show w.1.size ≤ b; omega);refine aC (v := .tuple #[.agg #[.string B, .int .i64 aj, .int .i64 0], u6]) (aN rfl _ _ (w.1.size + 1) 213 _ _ _ _ rfl HS.1 Tryz.underlying213 rfl (by kernel_rfl) rfl) rfl ?_;exact ⟨_, _, _, rfl, ⟨rfl, aj, rfl, HR.out.le, HR.out.left⟩, by rw [HR.out.len]; exact hrep, hbel⟩
def nsO (n : Nat) (l : List UInt8) : Option (List Nat × List UInt8) := match (nsS n (some l)).2 with
 | none => none
 | some q => some ((nsS n (some l)).1, q)
theorem eD {n : Nat} {l : List UInt8} : nsO n l = none ↔ (nsS n (some l)).2 = none := by
 unfold nsO;cases h : (nsS n (some l)).2 <;> simp
theorem fu {n : Nat} {l q : List UInt8} {xs : List Nat} : nsO n l = some (xs, q) ↔ nsS n (some l) = (xs, some q) := by
 unfold nsO;cases h : nsS n (some l) with
 | mk a b => cases b <;> simp
theorem jL (l : List UInt8) : nsO 0 l = some ([], l) := rfl
theorem dI (n : Nat) (l : List UInt8) : nsO (n + 1) l = (bf l).bind fun x => (nsO n x.2).map fun y => (x.1 :: y.1, y.2) := by
 cases hg : bf l with
 | none => rw [eD.2 (by rw [qO hg])]; rfl
 | some x =>
  obtain ⟨v, r⟩ := x;simp only [ai];cases h2 : (nsS n (some r)).2 with
  | none => rw [eD.2 (by rw [oH hg h2]), eD.2 h2]; rfl
  | some q =>
   have h3 : nsO n r = some ((nsS n (some r)).1, q) := fu.2 (by rw [← h2]);rw [h3, fu.2 (oI hg h2)];rfl
theorem FZ (l : List UInt8) : kS l = (nsO 3 l).bind fun x => match x.2 with
  | c :: r => if c.toNat ≤ 1 then some (⟨x.1.getD 0 0, x.1.getD 1 0, x.1.getD 2 0, decide (c.toNat = 1)⟩, r) else none
  | [] => none := by
 rw [dI, kS];cases h1 : bf l with
 | none => rfl
 | some x =>
  simp only [ai];rw [dI];cases h2 : bf x.2 with
  | none => rfl
  | some y =>
   simp only [ai];rw [dI];cases h3 : bf y.2 with
   | none => rfl
   | some z =>
    obtain ⟨z1, z2⟩ := z;cases z2 <;> simp [jL]
def mM (k : Nat) : Nat := if k = 2 then 4 else if k = 3 then 3 else if k = 4 then 2 else 1
def bR (k : Nat) (b : List UInt8) : Option Rec := (nsO (mM k) b).bind fun x =>
 if k = 2 then if x.2 = [] then some ⟨2, x.1.getD 0 0, x.1.getD 1 0, x.1.getD 2 0, x.1.getD 3 0, 0, .zero, []⟩ else none
 else if k = 3 then if x.2 = [] then some ⟨3, x.1.getD 0 0, x.1.getD 1 0, 0, 0, x.1.getD 2 0, .zero, []⟩ else none
 else if k = 4 then if x.2 = [] then some ⟨4, x.1.getD 0 0, x.1.getD 1 0, 0, 0, 0, .zero, []⟩ else none
 else if k = 5 then (bf x.2).bind fun m => if m.1 ≤ m.2.length then (bM (m.2.take m.1)).bind fun p => (bf (m.2.drop m.1)).bind fun c => (dZ c.1 c.2).bind fun es => if es.2 = [] then some ⟨5, x.1.getD 0 0, 0, 0, 0, 0, p, es.1⟩ else none else none
 else if x.2 = [] then some ⟨k, x.1.getD 0 0, 0, 0, 0, 0, .zero, []⟩ else none
theorem vR (k : Nat) (b : List UInt8) (h : 1 ≤ k ∧ k ≤ 7) : bR k b = bC k b := by
 unfold bR bC yh mM;rw [if_pos h];by_cases h2 : k = 2
 ·simp only [h2, if_true]
  rw [dI];cases h1 : bf b with
  | none => rfl
  | some t =>
   simp only [ai];rw [dI];cases h1 : bf t.2 with
   | none => rfl
   | some x =>
    simp only [ai];rw [dI];cases h1 : bf x.2 with
    | none => rfl
    | some y =>
     simp only [ai];rw [dI];cases h1 : bf y.2 with
     | none => rfl
     | some z => simp [jL]
 by_cases h3 : k = 3
 ·simp only [h3, if_true]
  simp only [show ¬ (3 : Nat) = 2 by omega, if_false];rw [dI];cases h1 : bf b with
  | none => rfl
  | some t =>
   simp only [ai];rw [dI];cases h1 : bf t.2 with
   | none => rfl
   | some x =>
    simp only [ai];rw [dI];cases h1 : bf x.2 with
    | none => rfl
    | some y => simp [jL]
 by_cases h4 : k = 4
 ·simp only [h4, if_true]
  simp only [show ¬ (4 : Nat) = 2 by omega, show ¬ (4 : Nat) = 3 by omega, if_false];rw [dI];cases h1 : bf b with
  | none => rfl
  | some t =>
   simp only [ai];rw [dI];cases h1 : bf t.2 with
   | none => rfl
   | some x => simp [jL]
 simp only [if_neg h2, if_neg h3, if_neg h4];rw [dI];cases h1 : bf b with
 | none => rfl
 | some t => simp [jL]
theorem EH : (Tryz.prog.info? 130).map (fun i => (i.zero, i.size, i.bytes)) = some (some (.agg #[.int .u64 0, .int .u64 0, .int .u64 0, .bool false]), 4, 32) := by kernel_rfl
theorem Di {s : Option (List UInt8)} (h : (bG s).2 = none) : (bG s).1 = 0 := by
 cases s with
 | none => rfl
 | some l =>
  cases hg : bf l with
  | none => rw [di hg]
  | some x => obtain ⟨v, r⟩ := x; rw [aY hg] at h; cases h
def jM (s : Option (List UInt8)) : Option (List Ent × List UInt8) := match (bG s).2 with
 | none => none
 | some r => dZ (bG s).1 r
def Ba (k : Nat) (es : List Ent) (st : Option (List UInt8)) : Option (List Ent × List UInt8) := match st with
 | none => none
 | some l => (dZ k l).map fun x => (es ++ x.1, x.2)
def xw (B : ByteArray) (s : Option (List UInt8)) (w : World) (ex : Ending) (w' : World) : Prop :=
 ∃ (a' e' : Int) (sv : Value) (ok : Bool), ex = .returned (.tuple #[.agg #[.string B, .int .i64 a', .int .i64 e'], sv, .bool ok]) ∧ Below w.1.size w w' ∧ (jM s = none → ok = false) ∧ ∀ x, jM s = some x → ok = true ∧ RdA B (some x.2) a' e' ∧ fQ w' (fun b => w.1.size ≤ b) true x.1 sv
theorem tT {B : ByteArray} {s : Option (List UInt8)} {w w' : World} {a e : Int} {sv : Value} (h : jM s = none) (hb : Below w.1.size w w') : xw B s w (.returned (.tuple #[.agg #[.string B, .int .i64 a, .int .i64 e], sv, .bool false])) w' :=
 ⟨a, e, sv, false, rfl, hb, fun _ => rfl, fun x hx => by rw [h] at hx; cases hx⟩
structure EnV (B : ByteArray) (s : Option (List UInt8)) (w : World) (gs k : Nat) (es : List Ent) (st : Option (List UInt8)) (aj ej : Int) (sv : Value) (wr : World) : Prop where
 eq : jM s = Ba k es st
 z : st = none → k = 0
 k64 : k < 18446744073709551616
 cnt : es.length + (st.getD []).length ≤ B.size
 rd : RdA B st aj ej
 bel : Below w.1.size w wr
 r2 : wr.1[w.1.size + 1]? = some (.cells #[.string ⟨#[]⟩, .int .i64 0, .int .i64 0] 213 (0, 0))
 rs : wr.1[gs]? = some (.cells #[.string B, .int .i64 aj, .int .i64 ej] 213 (0, 0))
 lo : w.1.size + 1 < gs
 own : wr.ownsRow (gs + 1) 130 4 sv es.length (aZ es)
theorem EnV.below {B : ByteArray} {s : Option (List UInt8)} {w : World} {gs k : Nat} {es : List Ent} {st : Option (List UInt8)} {aj ej : Int} {sv : Value} {wr w' : World} (h : EnV B s w gs k es st aj ej sv wr) (hb : Below wr.1.size wr w') : EnV B s w gs k es st aj ej sv w' :=
 ⟨h.eq, h.z, h.k64, h.cnt, h.rd, h.bel.trans (hb.mono h.bel.size), (hb.block _ (ak h.r2).1).trans h.r2, (hb.block _ (ak h.rs).1).trans h.rs, h.lo, ownsRow_below h.own hb nl⟩
theorem Dj (l : List UInt8) : (kS l = none ∧ (dF 1 (nsS 3 (some l)).2).2 = none) ∨ (∃ c q, dF 1 (nsS 3 (some l)).2 = ([c], some q) ∧ 1 < c.toNat ∧ kS l = none) ∨
  ∃ x y z c q, (nsS 3 (some l)).1 = [x, y, z] ∧ dF 1 (nsS 3 (some l)).2 = ([c], some q) ∧ c.toNat ≤ 1 ∧ kS l = some (⟨x, y, z, decide (c.toNat = 1)⟩, q) := by
 rw [FZ];cases h : nsO 3 l with
 | none =>
  left
  rw [eD.1 h];exact ⟨rfl, rfl⟩
 | some p =>
  obtain ⟨xs, q⟩ := p;have h2 := fu.1 h;have hl : xs.length = 3 := by have := iK 3 l q (by rw [h2]); rw [h2] at this; exact this
  rw [h2]
  match xs, hl with
  | [x, y, z], _ =>
   cases q with
   | nil => left; exact ⟨rfl, rfl⟩
   | cons c q =>
    by_cases hc : c.toNat ≤ 1
    ·right; right
     exact ⟨x, y, z, c, q, rfl, by simp [dF], hc, by simp [hc]⟩
    ·right; left
     exact ⟨c, q, by simp [dF], by omega, by simp [hc]⟩
theorem EI (w : World) (cs : Array Value) (T : TypeId) (sz g : Nat) (hs : cs.size = sz) (h0 : 0 < sz) (hg : g = w.1.size) : Sl (w.alloc (.cells cs T)) (fun _ => True) true sz 1 cs.toList (.slice (some ⟨g, 0, none⟩) 1 1) := by
 subst hg;refine ⟨by simp [hs], by omega, _, _, rfl, Nat.le_refl _, fun _ => ⟨_, _, rfl, trivial, fun j hj => ?_⟩⟩;have hj2 : j < cs.size := by simpa using hj
 rw [ax _ _ (0 + j) cs T (0, 0) (heap_alloc_new w _), aA _ _ (0 + j) cs T (heap_alloc_new w _)];simp [hj2]
structure En5 (B : ByteArray) (w : World) (gs n : Nat) (xs : List Value) (aj : Nat) (sv : Value) (wr : World) : Prop where
 bel : Below w.1.size w wr
 r2 : wr.1[w.1.size + 1]? = some (.cells #[.string ⟨#[]⟩, .int .i64 0, .int .i64 0] 213 (0, 0))
 rs : wr.1[gs]? = some (.cells #[.string B, .int .i64 aj, .int .i64 0] 213 (0, 0))
 lo : w.1.size + 1 < gs
 own : wr.ownsRow (gs + 1) 130 4 sv n xs
theorem En5.grow {B : ByteArray} {w wr wx w2 : World} {gs n n' aj : Nat} {xs xs' : List Value} {sv v' : Value} (h : En5 B w gs n xs aj sv wr) (hb : Below wr.1.size wr wx) (hg : wx.grownBy w2 sv.ownBlock) (ho : w2.ownsRow (gs + 1) 130 4 v' n' xs') : En5 B w gs n' xs' aj v' w2 := by
 have hs := hb.size;have h0 := h.bel.size;have hlo := h.lo;have l2 : gs < wr.1.size := (ak h.rs).1;have hne : ∀ b, b < gs + 1 → some b ≠ sv.ownBlock := fun b hb e => by have := (h.own.lt b e.symm).1; omega
 exact ⟨(h.bel.trans (hb.mono h0)).grown hg (by omega) (fun k hk => by have := (h.own.lt k hk).1; omega), (hg.block _ (by omega) (hne _ (by omega))).trans ((hb.block _ (by omega)).trans h.r2), (hg.block _ (by omega) (hne _ (by omega))).trans ((hb.block _ (by omega)).trans h.rs), hlo, ho⟩
theorem EJ {l q : List UInt8} {e : Ent} (h : kS l = some (e, q)) : q.length < l.length := by
 unfold kS at h;cases h1 : bf l with
 | none => rw [h1] at h; cases h
 | some x =>
  rw [h1] at h;simp only [ai] at h;have k1 := dX h1;cases h2 : bf x.2 with
  | none => rw [h2] at h; cases h
  | some y =>
   rw [h2] at h;simp only [ai] at h;have k2 := dX h2;cases h3 : bf y.2 with
   | none => rw [h3] at h; cases h
   | some z =>
    rw [h3] at h;simp only [ai] at h;have k3 := dX h3;cases h4 : z.2 with
    | nil => rw [h4] at h; cases h
    | cons c r =>
     rw [h4] at h k3;simp only at h;split at h
     ·simp only [Option.some.injEq, Prod.mk.injEq] at h
      obtain ⟨_, rfl⟩ := h;simp at k3;omega
     ·cases h
theorem EnV.next {B : ByteArray} {s : Option (List UInt8)} {w X4 w8 : World} {gs k x y z m4 : Nat} {c : UInt8} {es : List Ent} {lj q : List UInt8} {aj ej : Int} {sv v' : Value} (h : EnV B s w gs k es (some lj) aj ej sv X4) (hM : En5 B w gs (es.length + 1) (aZ es ++ [.int .u64 (x : Nat), .int .u64 (y : Nat), .int .u64 (z : Nat), .bool ((c.toNat : Int) == 1)]) m4 v' w8)
  (hg : kS lj = some (⟨x, y, z, decide (c.toNat = 1)⟩, q)) (hk : k ≠ 0) (hm : m4 ≤ B.size) (hq : q = B.data.toList.drop m4) : EnV B s w gs (k - 1) (es ++ [⟨x, y, z, decide (c.toNat = 1)⟩]) (some q) m4 0 v' w8 := by
 have hb : ((c.toNat : Int) == 1) = decide (c.toNat = 1) := by rw [Bool.eq_iff_iff]; simp; omega
 have hcn := h.cnt;have hl := EJ hg;have hk6 := h.k64;refine ⟨?_, (fun h => by cases h), by omega, ?_, ⟨rfl, m4, rfl, hm, hq⟩, hM.bel, hM.r2, hM.rs, hM.lo, ?_⟩
 ·rw [h.eq]
  obtain ⟨m, rfl⟩ : ∃ m, k = m + 1 := ⟨k - 1, by omega⟩;simp only [Ba, dZ, hg, ai, Nat.add_sub_cancel];cases dZ m q with
  | none => rfl
  | some p => simp
 ·simp only [Option.getD_some, aI, aJ, List.length_nil] at hcn ⊢
  omega
 ·have := hM.own
  rw [hb] at this;rw [aI, iA];simpa [aZ, Ent.cells] using this
theorem Hy {w Y : World} {g h : Nat} {T : TypeId} {p q r p' q' r' : Value} (x y z : Value) (hb : Below w.1.size w Y) (hh : w.1.size ≤ h) (hg : w.1.size ≤ g) (hn : h ≠ g) (h1 : Y.1[g]? = some (.cells #[p, q, r] T (0, 0))) (h2 : Y.1[h]? = some (.cells #[p', q', r'] T (0, 0))) :
  ((((((Y.setCell ⟨g, 0, none⟩ x).setCell ⟨g, 1, none⟩ y).setCell ⟨g, 2, none⟩ z).setCell ⟨h, 0, none⟩ x).setCell ⟨h, 1, none⟩ y).setCell ⟨h, 2, none⟩ z).1[h]? = some (.cells #[x, y, z] T (0, 0)) ∧
  Below w.1.size w ((((((Y.setCell ⟨g, 0, none⟩ x).setCell ⟨g, 1, none⟩ y).setCell ⟨g, 2, none⟩ z).setCell ⟨h, 0, none⟩ x).setCell ⟨h, 1, none⟩ y).setCell ⟨h, 2, none⟩ z) := by
 have k1 := (fP x y z h1).2 h hn (ak h2).1;exact ⟨(fP x y z (k1.trans h2)).1, (((((hb.setCell hg x).setCell hg y).setCell hg z).setCell hh x).setCell hh y).setCell hh z⟩
theorem tV (B : ByteArray) (s : Option (List UInt8)) (a e : Int) (w : World) (hB : B.size ≤ 100000) (h : RdA B s a e) :
  Calls Tryz.prog 113 #[.agg #[.string B, .int .i64 a, .int .i64 e]] w (xw B s w) := by
 obtain ⟨i0, hi0, hz0, hz1, hz2⟩ := info_parts EH;have hb0 : Below w.1.size w ((w.alloc (.cells #[.string B, .int .i64 a, .int .i64 e] 213)).alloc (.cells #[.string ⟨#[]⟩, .int .i64 0, .int .i64 0] 213)) := (br.alloc nl _).alloc (by simp) _;have p0 : ((w.alloc (.cells #[.string B, .int .i64 a, .int .i64 e] 213)).alloc (.cells #[.string ⟨#[]⟩, .int .i64 0, .int .i64 0] 213)).1[w.1.size]? = some (.cells #[.string B, .int .i64 a, .int .i64 e] 213 (0, 0)) := (aL _ _ _ (by simp)).trans (aK _ _ _ rfl);have p1 : ((w.alloc (.cells #[.string B, .int .i64 a, .int .i64 e] 213)).alloc (.cells #[.string ⟨#[]⟩, .int .i64 0, .int .i64 0] 213)).1[w.1.size + 1]? = some (.cells #[.string ⟨#[]⟩, .int .i64 0, .int .i64 0] 213 (0, 0)) := aK _ _ _ (by simp);have HP := hid (au hb0 (au p0 (au p1 h)));clear hb0 p0 p1 h
 go_enter Tryz.func113, Tryz.ntmps113
 go_upto_region 1 with fail
 generalize ((w.alloc (.cells #[.string B, .int .i64 a, .int .i64 e] 213)).alloc (.cells #[.string ⟨#[]⟩, .int .i64 0, .int .i64 0] 213)) = X at HP ⊢;have c0 : X.cell? ⟨w.1.size, 0, none⟩ = some (.string B) := by rw [ax X _ 0 _ _ _ HP.out.2.1]; rfl
 have c1 : X.cell? ⟨w.1.size, 1, none⟩ = some (.int .i64 a) := by rw [ax X _ 1 _ _ _ HP.out.2.1]; rfl
 have c2 : X.cell? ⟨w.1.size, 2, none⟩ = some (.int .i64 e) := by rw [ax X _ 2 _ _ _ HP.out.2.1]; rfl
 go_wp2_with fail;obtain ⟨N, hN⟩ : ∃ N, N = (bG s).1 := ⟨_, rfl⟩;obtain ⟨st, hst⟩ : ∃ t, t = (bG s).2 := ⟨_, rfl⟩;have hcall := jB B s a e X hB HP.out.2.2.2;rw [← hN, ← hst] at hcall;refine hcall.mono ?_;rintro ex w1 ⟨a1, e1, rfl, h1, hb1⟩;have HNS := hid (au hN hst);clear hcall hN hst;have hN64 : N < 18446744073709551616 := by rw [HNS.out.1]; exact fC s
 have hs1 := hb1.size;have hl1 : w.1.size + 1 < X.1.size := (ak HP.out.2.2.1).1
 go_upto_region 2 with fail
 have H2 : Hid (EnV B s w w1.1.size N [] st a1 e1 (.slice none 0 0) (w1.alloc (.cells #[.string B, .int .i64 a1, .int .i64 e1] 213))) := hid (by
  have hb2 : Below w1.1.size w1 (w1.alloc (.cells #[.string B, .int .i64 a1, .int .i64 e1] 213)) := br.alloc nl _;refine ⟨?_, ?_, hN64, ?_, h1, (HP.out.1.trans (hb1.mono HP.out.1.size)).trans (hb2.mono (by have := HP.out.1.size; omega)), (hb2.block _ (by omega)).trans ((hb1.block _ hl1).trans HP.out.2.2.1), heap_alloc_new _ _, by omega, World.ownsRow_nil _ _ _ _⟩
  ·unfold jM Ba
   rw [← HNS.out.2, ← HNS.out.1];cases st with
   | none => rfl
   | some r => simp
  ·intro h; rw [HNS.out.1]; exact Di (by rw [← HNS.out.2, h])
  ·cases st with
   | none => simp
   | some r =>
    obtain ⟨_, n, _, hn, hr⟩ := h1;simp [hr, dS])
 generalize (w1.alloc (.cells #[.string B, .int .i64 a1, .int .i64 e1] 213)) = X2 at H2 ⊢;obtain ⟨gs, hgs⟩ : ∃ g, g = w1.1.size := ⟨_, rfl⟩;rw [← hgs] at H2 ⊢;clear h1 hb1 hs1 hl1 hgs hN64 c0 c1 c2 HP;go_wp2_with fail
 go_loopw [6, 7] (fun nv sv wr => ∃ (k : Nat) (es : List Ent) (st : Option (List UInt8)) (aj ej : Int), nv = .int .u64 (k : Nat) ∧ k < 18446744073709551616 ∧ Hid (EnV B s w gs k es st aj ej sv wr)) (fun nv _ _ => (intOf nv).toNat)
 case atStart => exact ⟨N, [], st, a1, e1, rfl, H2.out.k64, H2⟩
 case round =>
  obtain ⟨k, es, st, aj, ej, rfl, hk64, HR⟩ := hrel;have s0 : wr.cell? ⟨gs, 0, none⟩ = some (.string B) := by rw [ax wr _ 0 _ _ _ HR.out.rs]; rfl
  have s1 : wr.cell? ⟨gs, 1, none⟩ = some (.int .i64 aj) := by rw [ax wr _ 1 _ _ _ HR.out.rs]; rfl
  have s2 : wr.cell? ⟨gs, 2, none⟩ = some (.int .i64 ej) := by rw [ax wr _ 2 _ _ _ HR.out.rs]; rfl
  by_cases hk : k = 0
  ·have hk0 : ¬ (0 : Int) < (k : Int) := by omega
   have r2 := HR.out.r2;have q0 : wr.cell? ⟨w.1.size + 1, 0, none⟩ = some (.string ⟨#[]⟩) := (by rw [ax wr _ 0 _ _ _ r2]; rfl);have q1 : wr.cell? ⟨w.1.size + 1, 1, none⟩ = some (.int .i64 0) := (by rw [ax wr _ 1 _ _ _ r2]; rfl);have q2 : wr.cell? ⟨w.1.size + 1, 2, none⟩ = some (.int .i64 0) := (by rw [ax wr _ 2 _ _ _ r2]; rfl);have z0 : wr.frozen? ⟨w.1.size + 1, 0, none⟩ = false := (by rw [aA wr _ 0 _ _ r2]);have z1 : wr.frozen? ⟨w.1.size + 1, 1, none⟩ = false := (by rw [aA wr _ 1 _ _ r2]);have z2 : wr.frozen? ⟨w.1.size + 1, 2, none⟩ = false := (by rw [aA wr _ 2 _ _ r2]);have hlo := HR.out.lo;have n1 : ¬ gs = w.1.size + 1 := (by omega);have n2 : ¬ w.1.size + 1 = gs := (by omega);clear r2 H2;subst hk
   go_upto_region 11 with fail
   go_region
   all_goals
    have HS := fP (Y := wr) (.string B) (.int .i64 aj) (.int .i64 ej) HR.out.r2;have hfin : xw B s w (.returned (.tuple #[.agg #[.string B, .int .i64 aj, .int .i64 ej], u7, .bool (ej == 0)])) ((((wr.setCell ⟨w.1.size + 1, 0, none⟩ (.string B)).setCell ⟨w.1.size + 1, 1, none⟩ (.int .i64 aj)).setCell ⟨w.1.size + 1, 2, none⟩ (.int .i64 ej)).drew) := by
     refine ⟨aj, ej, u7, ej == 0, rfl, (((HR.out.bel.setCell (by simp) _).setCell (by simp) _).setCell (by simp) _).drew, fun hx => ?_, fun x hx => ?_⟩
     ·have he := HR.out.eq
      rw [hx] at he;cases st with
      | none => exact HR.out.rd
      | some l => simp [Ba, dZ] at he
     have he := HR.out.eq;rw [hx] at he;cases st with
     | none => cases he
     | some l =>
      obtain ⟨e0, n, e1, hn, hl⟩ := HR.out.rd;simp only [Ba, dZ, Option.map_some, List.append_nil, Option.some.injEq] at he;subst he;refine ⟨by rw [e0]; rfl, ⟨e0, n, e1, hn, hl⟩, ?_⟩;exact Sl.keep (Sl.of_owns HR.out.own (by omega)) (by omega) (fun b hb hl => HS.2 b (by have := hb.2; show b ≠ _; omega) hl) (fun b _ hb => by have := hb.2; show w.1.size ≤ b; omega)
    have HF := hid hfin;clear hfin HR s0 s1 s2 q0 q1 q2 z0 z1 z2;go_wp2_with fail;exact aC (v := .tuple #[.agg #[.string B, .int .i64 aj, .int .i64 ej], u7, .bool (ej == 0)]) (aU rfl _ _ (w.1.size + 1) 213 _ _ _ _ _ rfl HS.1 Tryz.underlying213 rfl (by kernel_rfl) rfl rfl) rfl HF.out
  ·obtain ⟨lj, rfl⟩ : ∃ l, st = some l := by
    cases st with
    | none => exact absurd (HR.out.z rfl) hk
    | some l => exact ⟨l, rfl⟩
   obtain ⟨he0, aq, haq, hle, hlj⟩ := HR.out.rd;subst he0 haq;have hk0 : (0 : Int) < (k : Int) := (by omega);have HL := hid (au hle hlj);clear hle hlj H2;go_wp2_with fail;refine (cZ B (some lj) (aq : Int) 0 3 wr (by omega) hB ⟨rfl, aq, rfl, HL.out.1, HL.out.2⟩).mono ?_;rintro ex w3 ⟨a3, e3, sv3, rfl, h3, hsl3, hb3⟩;have hs3 := hb3.size;have hX3 : Below wr.1.size wr (w3.alloc (.cells #[.string B, .int .i64 a3, .int .i64 e3] 213)) := hb3.alloc hs3 _;have HR3 := hid (HR.out.below hX3);have HSL3 := hid (Sl.below hsl3 (by omega) ((Below.refl w3.1.size w3).alloc nl (.cells #[.string B, .int .i64 a3, .int .i64 e3] 213)) nl);obtain ⟨st3, hst3⟩ : ∃ t, t = (nsS 3 (some lj)).2 := ⟨_, rfl⟩;obtain ⟨xs3, hxs3⟩ : ∃ t, t = (nsS 3 (some lj)).1 := ⟨_, rfl⟩;have hec := Dj lj;rw [← hst3] at h3;rw [← hst3, ← hxs3] at hec;rw [← hxs3] at HSL3;have HEC := hid hec;have lgs0 : gs < wr.1.size := (ak HR.out.rs).1;have HLT2 := hid lgs0;have HLT3 : Hid (gs < (w3.alloc (.cells #[.string B, .int .i64 a3, .int .i64 e3] 213)).1.size) := hid (by have := hX3.size; omega);clear lgs0
   go_upto_region 6 with fail
   have HT : Hid ((w3.alloc (.cells #[.string B, .int .i64 a3, .int .i64 e3] 213)).1[w3.1.size]? = some (.cells #[.string B, .int .i64 a3, .int .i64 e3] 213 (0, 0))) := hid (heap_alloc_new _ _);generalize (w3.alloc (.cells #[.string B, .int .i64 a3, .int .i64 e3] 213)) = X3 at HR3 HSL3 HT HLT3 ⊢;obtain ⟨gt, hgt⟩ : ∃ g, g = w3.1.size := ⟨_, rfl⟩;rw [← hgt] at HT ⊢;clear hgt hX3 hsl3 hb3 hs3 hst3 hxs3 hec s0 s1 s2;have t0 : X3.cell? ⟨gt, 0, none⟩ = some (.string B) := (by rw [ax X3 _ 0 _ _ _ HT.out]; rfl);have t1 : X3.cell? ⟨gt, 1, none⟩ = some (.int .i64 a3) := (by rw [ax X3 _ 1 _ _ _ HT.out]; rfl);have t2 : X3.cell? ⟨gt, 2, none⟩ = some (.int .i64 e3) := (by rw [ax X3 _ 2 _ _ _ HT.out]; rfl);go_wp2_with fail;refine (tO B st3 a3 e3 1 X3 (by omega) hB h3).mono ?_;rintro ex w4 ⟨a4, e4, bv, rfl, h4, hrb, hb4⟩;have hs4 := hb4.size;have hX4 : Below X3.1.size X3 (w4.alloc (.cells #[.string B, .int .i64 a4, .int .i64 e4] 213)) := hb4.alloc hs4 _;have HR4 := hid (HR3.out.below hX4);have HSL4 := hid (Sl.below HSL3.out (by omega) hX4 nl);have HRB4 := hid (hrb.below ((Below.refl w4.1.size w4).alloc nl (.cells #[.string B, .int .i64 a4, .int .i64 e4] 213)) nl)
   go_upto_region 7 with fail
   have HU : Hid ((w4.alloc (.cells #[.string B, .int .i64 a4, .int .i64 e4] 213)).1[w4.1.size]? = some (.cells #[.string B, .int .i64 a4, .int .i64 e4] 213 (0, 0))) := hid (heap_alloc_new _ _);generalize (w4.alloc (.cells #[.string B, .int .i64 a4, .int .i64 e4] 213)) = X4 at HR4 HSL4 HRB4 HU ⊢;obtain ⟨gu, hgu⟩ : ∃ g, g = w4.1.size := ⟨_, rfl⟩;rw [← hgu] at HU ⊢;clear hgu hX4 hrb hb4 hs4 t0 t1 t2 HSL3 HR3 HT h3;have u0 : X4.cell? ⟨gu, 0, none⟩ = some (.string B) := (by rw [ax X4 _ 0 _ _ _ HU.out]; rfl);have u1 : X4.cell? ⟨gu, 1, none⟩ = some (.int .i64 a4) := (by rw [ax X4 _ 1 _ _ _ HU.out]; rfl);have u2 : X4.cell? ⟨gu, 2, none⟩ = some (.int .i64 e4) := (by rw [ax X4 _ 2 _ _ _ HU.out]; rfl);have rs := HR4.out.rs;have s0 : X4.cell? ⟨gs, 0, none⟩ = some (.string B) := (by rw [ax X4 _ 0 _ _ _ rs]; rfl);have s1 : X4.cell? ⟨gs, 1, none⟩ = some (.int .i64 (aq : Int)) := (by rw [ax X4 _ 1 _ _ _ rs]; rfl);have s2 : X4.cell? ⟨gs, 2, none⟩ = some (.int .i64 0) := (by rw [ax X4 _ 2 _ _ _ rs]; rfl);have y0 : X4.frozen? ⟨gs, 0, none⟩ = false := (by rw [aA X4 _ 0 _ _ rs]);have y1 : X4.frozen? ⟨gs, 1, none⟩ = false := (by rw [aA X4 _ 1 _ _ rs]);have y2 : X4.frozen? ⟨gs, 2, none⟩ = false := (by rw [aA X4 _ 2 _ _ rs]);have r2 := HR4.out.r2;have q0 : X4.cell? ⟨w.1.size + 1, 0, none⟩ = some (.string ⟨#[]⟩) := (by rw [ax X4 _ 0 _ _ _ r2]; rfl);have q1 : X4.cell? ⟨w.1.size + 1, 1, none⟩ = some (.int .i64 0) := (by rw [ax X4 _ 1 _ _ _ r2]; rfl);have q2 : X4.cell? ⟨w.1.size + 1, 2, none⟩ = some (.int .i64 0) := (by rw [ax X4 _ 2 _ _ _ r2]; rfl);have z0 : X4.frozen? ⟨w.1.size + 1, 0, none⟩ = false := (by rw [aA X4 _ 0 _ _ r2]);have z1 : X4.frozen? ⟨w.1.size + 1, 1, none⟩ = false := (by rw [aA X4 _ 1 _ _ r2]);have z2 : X4.frozen? ⟨w.1.size + 1, 2, none⟩ = false := (by rw [aA X4 _ 2 _ _ r2]);have hlo := HR4.out.lo;have n1 : ¬ gs = w.1.size + 1 := (by omega);have n2 : ¬ w.1.size + 1 = gs := (by omega);have HS := Hy (w := w) (.string B) (.int .i64 a4) (.int .i64 e4) HR4.out.bel (show w.1.size ≤ w.1.size + 1 by omega) (show w.1.size ≤ gs by omega) n2 rs r2;have HSH := hid HS;have H4 := hid h4;clear HS rs r2 h4;rcases HEC.out with ⟨hg, hr⟩ | ⟨c, q, hr, hc, hg⟩ | ⟨x, y, z, c, q, hx, hr, hc, hg⟩
   ·have he4 : (e4 == 0) = false := by have := H4.out; rw [hr] at this; exact this
    have he5 : (e4 != 0) = true := (by simp [bne, he4]);have HN : Hid (jM s = none) := hid (by rw [HR4.out.eq]; obtain ⟨m, rfl⟩ : ∃ m, k = m + 1 := ⟨k - 1, by omega⟩; simp [Ba, dZ, hg]);clear hg hr;go_wp2_with fail;exact aC (v := .tuple #[.agg #[.string B, .int .i64 a4, .int .i64 e4], .slice none 0 0, .bool false]) (aU rfl _ _ (w.1.size + 1) 213 _ _ _ _ _ rfl HSH.out.1 Tryz.underlying213 rfl (by kernel_rfl) rfl rfl) rfl (tT HN.out HSH.out.2)
   ·obtain ⟨he4, m4, hm4, hm5, hm6⟩ : RdA B (some q) a4 e4 := by have := H4.out; rw [hr] at this; exact this
    subst he4 hm4;have hbv := HRB4.out;rw [hr] at hbv;obtain ⟨_, ad, cap, rfl, _⟩ := hbv.shape;obtain ⟨bl, off, rfl, hbS, hcc⟩ := aO.cell hbv (by simp);have hc0 : X4.cell? ⟨bl, off, none⟩ = some (.int .u8 (c.toNat : Int)) := (by have := (hcc 0 (by simp)).1; simpa using this);have lgs : gs < X3.1.size := HLT3.out;have n3 : ¬ bl = gs := (by omega);have n4 : ¬ gs = bl := (by omega);rw [show [c].length = 1 from rfl];have hc5 : (1 : Int) < (c.toNat : Int) := (by omega);have HN : Hid (jM s = none) := hid (by rw [HR4.out.eq]; obtain ⟨m, rfl⟩ : ∃ m, k = m + 1 := ⟨k - 1, by omega⟩; simp [Ba, dZ, hg]);clear hg hr hbv hcc hm6;go_wp2_with fail;exact aC (v := .tuple #[.agg #[.string B, .int .i64 (m4 : Int), .int .i64 0], .slice none 0 0, .bool false]) (aU rfl _ _ (w.1.size + 1) 213 _ _ _ _ _ rfl HSH.out.1 Tryz.underlying213 rfl (by kernel_rfl) rfl rfl) rfl (tT HN.out HSH.out.2)
   ·obtain ⟨he4, m4, hm4, hm5, hm6⟩ : RdA B (some q) a4 e4 := by have := H4.out; rw [hr] at this; exact this
    subst he4 hm4;have hbv := HRB4.out;rw [hr] at hbv;obtain ⟨_, ad, cap, rfl, _⟩ := hbv.shape;obtain ⟨bl, off, rfl, hbS, hcc⟩ := aO.cell hbv (by simp);have hc0 : X4.cell? ⟨bl, off, none⟩ = some (.int .u8 (c.toNat : Int)) := (by have := (hcc 0 (by simp)).1; simpa using this);have hsl := HSL4.out;rw [hx] at hsl;obtain ⟨_, _, ad2, cap2, rfl, hcap2⟩ := Sl.shape hsl;obtain ⟨bl2, off2, rfl, hbS2, hcc2⟩ := Sl.cells hsl (by simp);have l0 : X4.cell? ⟨bl2, off2, none⟩ = some (.int .u64 (x : Nat)) := (by have := (hcc2 0 (by simp [bJ])).1; simpa [bJ] using this);have l1 : X4.cell? ⟨bl2, off2 + 1, none⟩ = some (.int .u64 (y : Nat)) := (by have := (hcc2 1 (by simp [bJ])).1; simpa [bJ] using this);have l2 : X4.cell? ⟨bl2, off2 + 2, none⟩ = some (.int .u64 (z : Nat)) := (by have := (hcc2 2 (by simp [bJ])).1; simpa [bJ] using this);have lgs : gs < X3.1.size := HLT3.out;have lgs2 : gs < wr.1.size := HLT2.out;have n3 : ¬ bl = gs := (by omega);have n4 : ¬ gs = bl := (by omega);have n5 : ¬ bl2 = gs := (by omega);have n6 : ¬ gs = bl2 := (by omega);rw [show [c].length = 1 from rfl, show [x, y, z].length = 3 from rfl];have hc5 : ¬ (1 : Int) < (c.toNat : Int) := by omega
    go_upto_region 10 with fail
    have H5 : Hid (En5 B w gs es.length (aZ es) m4 u7 (((X4.setCell ⟨gs, 0, none⟩ (.string B)).setCell ⟨gs, 1, none⟩ (.int .i64 (m4 : Int))).setCell ⟨gs, 2, none⟩ (.int .i64 0))) := hid (by
     have hset := fP (.string B) (.int .i64 (m4 : Int)) (.int .i64 0) HR4.out.rs;exact ⟨((HR4.out.bel.setCell (by simp; omega) _).setCell (by simp; omega) _).setCell (by simp; omega) _, (hset.2 _ n2 (ak HR4.out.r2).1).trans HR4.out.r2, hset.1, hlo, tQ HR4.out.own (fun g hg => hset.2 g (by have := (HR4.out.own.lt g hg).1; show g ≠ _; omega) (HR4.out.own.lt g hg).2)⟩)
    have l0' : (((X4.setCell ⟨gs, 0, none⟩ (.string B)).setCell ⟨gs, 1, none⟩ (.int .i64 (m4 : Int))).setCell ⟨gs, 2, none⟩ (.int .i64 0)).cell? ⟨bl2, off2, none⟩ = some (.int .u64 (x : Nat)) := (by rw [aF _ _ _ _ (by simp), aF _ _ _ _ (by simp), aF _ _ _ _ (by simp)]; exact l0);have l1' : (((X4.setCell ⟨gs, 0, none⟩ (.string B)).setCell ⟨gs, 1, none⟩ (.int .i64 (m4 : Int))).setCell ⟨gs, 2, none⟩ (.int .i64 0)).cell? ⟨bl2, off2 + 1, none⟩ = some (.int .u64 (y : Nat)) := (by rw [aF _ _ _ _ (by simp), aF _ _ _ _ (by simp), aF _ _ _ _ (by simp)]; exact l1);have l2' : (((X4.setCell ⟨gs, 0, none⟩ (.string B)).setCell ⟨gs, 1, none⟩ (.int .i64 (m4 : Int))).setCell ⟨gs, 2, none⟩ (.int .i64 0)).cell? ⟨bl2, off2 + 2, none⟩ = some (.int .u64 (z : Nat)) := (by rw [aF _ _ _ _ (by simp), aF _ _ _ _ (by simp), aF _ _ _ _ (by simp)]; exact l2);have hc0' : (((X4.setCell ⟨gs, 0, none⟩ (.string B)).setCell ⟨gs, 1, none⟩ (.int .i64 (m4 : Int))).setCell ⟨gs, 2, none⟩ (.int .i64 0)).cell? ⟨bl, off, none⟩ = some (.int .u8 (c.toNat : Int)) := (by rw [aF _ _ _ _ (by simp), aF _ _ _ _ (by simp), aF _ _ _ _ (by simp)]; exact hc0);generalize (((X4.setCell ⟨gs, 0, none⟩ (.string B)).setCell ⟨gs, 1, none⟩ (.int .i64 (m4 : Int))).setCell ⟨gs, 2, none⟩ (.int .i64 0)) = W5 at H5 l0' l1' l2' hc0' ⊢;clear u0 u1 u2 s0 s1 s2 y0 y1 y2 q0 q1 q2 z0 z1 z2 l0 l1 l2 hc0 hsl hcc2 hbv hcc n1 n2 n3 n4 n5 n6 HSH;obtain ⟨sa, sc, rfl⟩ := aQ H5.out.own;have hesl : es.length ≤ 100000 := by have := HR4.out.cnt; omega
    go_region_law (first
     | (refine kG _ (by rfl) (.tmp 47) (.tmp 63) 63 (by rfl) (gs + 1) 130 i0 _ 4 32 Tryz.underlying63 hi0 hz0 hz1 hz2 rfl (by omega) (.slice sa es.length sc) es.length (aZ es) (by rfl) ((ownsRow_below H5.out.own br.drew nl).alloc _) _ _ 1 [.int .u64 (x : Nat), .int .u64 (y : Nat), .int .u64 (z : Nat), .bool ((c.toNat : Int) == 1)] _ (by rfl) (EI _ #[.int .u64 (x : Nat), .int .u64 (y : Nat), .int .u64 (z : Nat), .bool ((c.toNat : Int) == 1)] 130 4 W5.1.size rfl (by omega) (by simp)) (by simp [Value.oneCell']) (by unfold maxLen; omega) (by omega) (by have := (ak H5.out.rs).1; simp; omega) ?_; intro v' w8 hown8 hgrow hat
        have HM := hid (H5.out.grow (br.drew.alloc (by simp) _) hgrow hown8);clear hown8 hgrow hat))
    all_goals
     have HN := hid (HR4.out.next HM.out hg hk hm5 hm6);have hkk : (0 : Int) < (k : Int) := (by omega);clear HM l0' l1' l2' hc0';go_wp2_with fail;go_roundw
     case rel => exact ⟨k - 1, _, some q, m4, 0, by rw [show ((k - 1 : Nat) : Int) = (k : Int) - 1 by omega], by omega, HN⟩
     case measure => simp [intOf]; omega
theorem Ga {k : Nat} {l : List UInt8} (h : (dF k (some l)).2 = none) : (dF k (some l)).1 = [] := by
 by_cases hk : k ≤ l.length
 ·simp [dF, hk] at h
 ·simp [dF, hk]
theorem xx (B : ByteArray) (s : Option (List UInt8)) (a e : Int) (w : World) (hB : B.size ≤ 100000) (h : RdA B s a e) :
  Calls Tryz.prog 111 #[.agg #[.string B, .int .i64 a, .int .i64 e]] w fun ex w' => ∃ a' e' bv, ex = .returned (.tuple #[.agg #[.string B, .int .i64 a', .int .i64 e'], bv]) ∧ RdA B (dD s).2 a' e' ∧ aO w' (fun b => w.1.size ≤ b) false (dD s).1 bv ∧ Below w.1.size w w' := by
 obtain ⟨v, hv⟩ : ∃ v, v = (bG s).1 := ⟨_, rfl⟩;obtain ⟨st, hst⟩ : ∃ st, st = (bG s).2 := ⟨_, rfl⟩;rw [show dD s = dF v st by rw [hv, hst]; rfl];have HV := hid (au hv hst);have hlt : v < 18446744073709551616 := by rw [hv]; exact fC s
 clear hv hst;have he0 : Env w [] (fun _ => True) w := ⟨br, (by simp), (fun _ _ _ h => h), trivial⟩;have he1 := (he0.alloc #[.string B, .int .i64 a, .int .i64 e] 213).alloc #[.string ⟨#[]⟩, .int .i64 0, .int .i64 0] 213;simp only [aD] at he1;have HE := hid he1;have HH := hid h;clear he0 he1 h
 go_enter Tryz.func111, Tryz.ntmps111
 go_upto_region 1 with fail
 generalize (w.alloc (.cells #[.string B, .int .i64 a, .int .i64 e] 213)).alloc (.cells #[.string ⟨#[]⟩, .int .i64 0, .int .i64 0] 213) = X at HE ⊢;have ar0 : X.1[w.1.size + 1]? = some (.cells #[.string ⟨#[]⟩, .int .i64 0, .int .i64 0] 213 (0, 0)) := HE.out.row _ (.head _);have ac0_0 := HE.out.cell (.head _) 0;have az0_0 : X.frozen? ⟨w.1.size + 1, 0, none⟩ = false := by simp [World.frozen?, ar0]
 have ac0_1 := HE.out.cell (.head _) 1;have az0_1 : X.frozen? ⟨w.1.size + 1, 1, none⟩ = false := by simp [World.frozen?, ar0]
 have ac0_2 := HE.out.cell (.head _) 2;have az0_2 : X.frozen? ⟨w.1.size + 1, 2, none⟩ = false := by simp [World.frozen?, ar0]
 have ar1 : X.1[w.1.size]? = some (.cells #[.string B, .int .i64 a, .int .i64 e] 213 (0, 0)) := HE.out.row _ (.tail _ (.head _));have ac1_0 := HE.out.cell (.tail _ (.head _)) 0;have az1_0 : X.frozen? ⟨w.1.size, 0, none⟩ = false := by simp [World.frozen?, ar1]
 have ac1_1 := HE.out.cell (.tail _ (.head _)) 1;have az1_1 : X.frozen? ⟨w.1.size, 1, none⟩ = false := by simp [World.frozen?, ar1]
 have ac1_2 := HE.out.cell (.tail _ (.head _)) 2;have az1_2 : X.frozen? ⟨w.1.size, 2, none⟩ = false := by simp [World.frozen?, ar1]
 go_wp2_with fail;refine (jB B s a e _ hB HH.out).mono ?_;rintro ex w1 ⟨a1, e1, rfl, h1, hb1⟩;have HE1 := hid (HE.out.below hb1);clear hb1 ar0 ac0_0 az0_0 ac0_1 az0_1 ac0_2 az0_2 ar1 ac1_0 az1_0 ac1_1 az1_1 ac1_2 az1_2;rw [← HV.out.2] at h1;rw [← HV.out.1]
 go_upto_region 2 with fail
 have HE2 := hid (HE1.out.alloc #[.string B, .int .i64 a1, .int .i64 e1] 213);generalize w1.alloc (.cells #[.string B, .int .i64 a1, .int .i64 e1] 213) = X2 at HE2 ⊢;have hlx : w.1.size + 1 < X2.1.size := HE2.out.lt (.tail _ (.head _));cases st with
 | none =>
  have h2 : (e1 == 0) = false := h1;have h3 : (e1 != 0) = true := by simp [bne, h2]
  have hs1 : w.1.size + 1 < w1.1.size := HE1.out.lt (.head _);have br0 : X2.1[w1.1.size]? = some (.cells #[.string B, .int .i64 a1, .int .i64 e1] 213 (0, 0)) := HE2.out.row _ (.head _);have bc0_0 := HE2.out.cell (.head _) 0;have bz0_0 : X2.frozen? ⟨w1.1.size, 0, none⟩ = false := by simp [World.frozen?, br0]
  have bc0_1 := HE2.out.cell (.head _) 1;have bz0_1 : X2.frozen? ⟨w1.1.size, 1, none⟩ = false := by simp [World.frozen?, br0]
  have bc0_2 := HE2.out.cell (.head _) 2;have bz0_2 : X2.frozen? ⟨w1.1.size, 2, none⟩ = false := by simp [World.frozen?, br0]
  have br1 : X2.1[w.1.size + 1]? = some (.cells #[.string ⟨#[]⟩, .int .i64 0, .int .i64 0] 213 (0, 0)) := HE2.out.row _ (.tail _ (.head _));have bc1_0 := HE2.out.cell (.tail _ (.head _)) 0;have bz1_0 : X2.frozen? ⟨w.1.size + 1, 0, none⟩ = false := by simp [World.frozen?, br1]
  have bc1_1 := HE2.out.cell (.tail _ (.head _)) 1;have bz1_1 : X2.frozen? ⟨w.1.size + 1, 1, none⟩ = false := by simp [World.frozen?, br1]
  have bc1_2 := HE2.out.cell (.tail _ (.head _)) 2;have bz1_2 : X2.frozen? ⟨w.1.size + 1, 2, none⟩ = false := by simp [World.frozen?, br1]
  have br2 : X2.1[w.1.size]? = some (.cells #[.string B, .int .i64 a, .int .i64 e] 213 (0, 0)) := HE2.out.row _ (.tail _ (.tail _ (.head _)));have bc2_0 := HE2.out.cell (.tail _ (.tail _ (.head _))) 0;have bz2_0 : X2.frozen? ⟨w.1.size, 0, none⟩ = false := by simp [World.frozen?, br2]
  have bc2_1 := HE2.out.cell (.tail _ (.tail _ (.head _))) 1;have bz2_1 : X2.frozen? ⟨w.1.size, 1, none⟩ = false := by simp [World.frozen?, br2]
  have bc2_2 := HE2.out.cell (.tail _ (.tail _ (.head _))) 2;have bz2_2 : X2.frozen? ⟨w.1.size, 2, none⟩ = false := by simp [World.frozen?, br2]
  have HG := hid br1;clear br0 br1 br2;go_wp2_with fail;have HS := fP (Y := (X2.setCell ⟨w.1.size, 2, none⟩ (.int .i64 e1))) (.string B) (.int .i64 a) (.int .i64 e1) ((heap_setCell_other _ _ _ _ (show w.1.size + 1 ≠ w.1.size by omega)).trans HG.out);have hbel := (((HE2.out.bel.setCell (p := ⟨w.1.size, 2, none⟩) (show w.1.size ≤ w.1.size by omega) (.int .i64 e1)).setCell (p := ⟨w.1.size + 1, 0, none⟩) (by simp) (.string B)).setCell (p := ⟨w.1.size + 1, 1, none⟩) (by simp) (.int .i64 a)).setCell (p := ⟨w.1.size + 1, 2, none⟩) (by simp) (.int .i64 e1);refine aC (v := .tuple #[.agg #[.string B, .int .i64 a, .int .i64 e1], .slice none 0 0]) (aN rfl _ _ (w.1.size + 1) 213 _ _ _ _ rfl HS.1 Tryz.underlying213 rfl (by kernel_rfl) rfl) rfl ?_;exact ⟨_, _, _, rfl, h2, jK _ _ _, hbel⟩
 | some l =>
  obtain ⟨rfl, n, rfl, hn, hl⟩ := h1;have hll : l.length = B.size - n := by rw [hl, List.length_drop, dS]
  have HL := hid hl;have hs1 : w.1.size + 1 < w1.1.size := HE1.out.lt (.head _);clear hl;by_cases hv : 9223372036854775807 < v
  ·have hv2 : (9223372036854775807 : Int) < (v : Int) := by omega
   have br0 : X2.1[w1.1.size]? = some (.cells #[.string B, .int .i64 n, .int .i64 0] 213 (0, 0)) := HE2.out.row _ (.head _);have bc0_0 := HE2.out.cell (.head _) 0;have bz0_0 : X2.frozen? ⟨w1.1.size, 0, none⟩ = false := (by simp [World.frozen?, br0]);have bc0_1 := HE2.out.cell (.head _) 1;have bz0_1 : X2.frozen? ⟨w1.1.size, 1, none⟩ = false := (by simp [World.frozen?, br0]);have bc0_2 := HE2.out.cell (.head _) 2;have bz0_2 : X2.frozen? ⟨w1.1.size, 2, none⟩ = false := (by simp [World.frozen?, br0]);have br1 : X2.1[w.1.size + 1]? = some (.cells #[.string ⟨#[]⟩, .int .i64 0, .int .i64 0] 213 (0, 0)) := HE2.out.row _ (.tail _ (.head _));have bc1_0 := HE2.out.cell (.tail _ (.head _)) 0;have bz1_0 : X2.frozen? ⟨w.1.size + 1, 0, none⟩ = false := (by simp [World.frozen?, br1]);have bc1_1 := HE2.out.cell (.tail _ (.head _)) 1;have bz1_1 : X2.frozen? ⟨w.1.size + 1, 1, none⟩ = false := (by simp [World.frozen?, br1]);have bc1_2 := HE2.out.cell (.tail _ (.head _)) 2;have bz1_2 : X2.frozen? ⟨w.1.size + 1, 2, none⟩ = false := (by simp [World.frozen?, br1]);have br2 : X2.1[w.1.size]? = some (.cells #[.string B, .int .i64 a, .int .i64 e] 213 (0, 0)) := HE2.out.row _ (.tail _ (.tail _ (.head _)));have bc2_0 := HE2.out.cell (.tail _ (.tail _ (.head _))) 0;have bz2_0 : X2.frozen? ⟨w.1.size, 0, none⟩ = false := (by simp [World.frozen?, br2]);have bc2_1 := HE2.out.cell (.tail _ (.tail _ (.head _))) 1;have bz2_1 : X2.frozen? ⟨w.1.size, 1, none⟩ = false := (by simp [World.frozen?, br2]);have bc2_2 := HE2.out.cell (.tail _ (.tail _ (.head _))) 2;have bz2_2 : X2.frozen? ⟨w.1.size, 2, none⟩ = false := (by simp [World.frozen?, br2]);have HG := hid br1;clear br0 br1 br2;go_wp2_with fail;rw [show dF v (some l) = ([], none) by simp [dF]; omega];have HS := fP (Y := ((X2.setCell ⟨w1.1.size, 2, none⟩ (.int .i64 4)).setCell ⟨w.1.size, 2, none⟩ (.int .i64 4))) (.string B) (.int .i64 a) (.int .i64 4) ((heap_setCell_other _ _ _ _ (show w.1.size + 1 ≠ w.1.size by omega)).trans ((heap_setCell_other _ _ _ _ (show w.1.size + 1 ≠ w1.1.size by omega)).trans HG.out));have hbel := ((((HE2.out.bel.setCell (p := ⟨w1.1.size, 2, none⟩) (show w.1.size ≤ w1.1.size by omega) (.int .i64 4)).setCell (p := ⟨w.1.size, 2, none⟩) (show w.1.size ≤ w.1.size by omega) (.int .i64 4)).setCell (p := ⟨w.1.size + 1, 0, none⟩) (by simp) (.string B)).setCell (p := ⟨w.1.size + 1, 1, none⟩) (by simp) (.int .i64 a)).setCell (p := ⟨w.1.size + 1, 2, none⟩) (by simp) (.int .i64 4);refine aC (v := .tuple #[.agg #[.string B, .int .i64 a, .int .i64 4], .slice none 0 0]) (aN rfl _ _ (w.1.size + 1) 213 _ _ _ _ rfl HS.1 Tryz.underlying213 rfl (by kernel_rfl) rfl) rfl ?_;exact ⟨_, _, _, rfl, rfl, jK _ _ _, hbel⟩
  ·have hv2 : ¬ (9223372036854775807 : Int) < (v : Int) := by omega
   have br0 : X2.1[w1.1.size]? = some (.cells #[.string B, .int .i64 n, .int .i64 0] 213 (0, 0)) := HE2.out.row _ (.head _);have bc0_0 := HE2.out.cell (.head _) 0;have bz0_0 : X2.frozen? ⟨w1.1.size, 0, none⟩ = false := (by simp [World.frozen?, br0]);have bc0_1 := HE2.out.cell (.head _) 1;have bz0_1 : X2.frozen? ⟨w1.1.size, 1, none⟩ = false := (by simp [World.frozen?, br0]);have bc0_2 := HE2.out.cell (.head _) 2;have bz0_2 : X2.frozen? ⟨w1.1.size, 2, none⟩ = false := (by simp [World.frozen?, br0]);have br1 : X2.1[w.1.size + 1]? = some (.cells #[.string ⟨#[]⟩, .int .i64 0, .int .i64 0] 213 (0, 0)) := HE2.out.row _ (.tail _ (.head _));have bc1_0 := HE2.out.cell (.tail _ (.head _)) 0;have bz1_0 : X2.frozen? ⟨w.1.size + 1, 0, none⟩ = false := (by simp [World.frozen?, br1]);have bc1_1 := HE2.out.cell (.tail _ (.head _)) 1;have bz1_1 : X2.frozen? ⟨w.1.size + 1, 1, none⟩ = false := (by simp [World.frozen?, br1]);have bc1_2 := HE2.out.cell (.tail _ (.head _)) 2;have bz1_2 : X2.frozen? ⟨w.1.size + 1, 2, none⟩ = false := (by simp [World.frozen?, br1]);have br2 : X2.1[w.1.size]? = some (.cells #[.string B, .int .i64 a, .int .i64 e] 213 (0, 0)) := HE2.out.row _ (.tail _ (.tail _ (.head _)));have bc2_0 := HE2.out.cell (.tail _ (.tail _ (.head _))) 0;have bz2_0 : X2.frozen? ⟨w.1.size, 0, none⟩ = false := (by simp [World.frozen?, br2]);have bc2_1 := HE2.out.cell (.tail _ (.tail _ (.head _))) 1;have bz2_1 : X2.frozen? ⟨w.1.size, 1, none⟩ = false := (by simp [World.frozen?, br2]);have bc2_2 := HE2.out.cell (.tail _ (.tail _ (.head _))) 2;have bz2_2 : X2.frozen? ⟨w.1.size, 2, none⟩ = false := (by simp [World.frozen?, br2]);clear br0 br1 br2
   go_upto_region 7 with fail
   go_wp2_with fail;refine (tO B (some l) n 0 v _ (by omega) hB ⟨rfl, n, rfl, hn, HL.out⟩).mono ?_;rintro ex w3 ⟨a3, e3, bv, rfl, h3, hrep, hb3⟩;have HE3 := hid (HE2.out.below hb3);have hr3 := GL _ _ _ _ _ _ ((br.alloc nl (.cells #[.string B, .int .i64 a3, .int .i64 e3] 213))) hrep;clear hb3 hrep bc0_0 bz0_0 bc0_1 bz0_1 bc0_2 bz0_2 bc1_0 bz1_0 bc1_1 bz1_1 bc1_2 bz1_2 bc2_0 bz2_0 bc2_1 bz2_1 bc2_2 bz2_2
   go_upto_region 8 with fail
   have HE4 := hid (HE3.out.alloc #[.string B, .int .i64 a3, .int .i64 e3] 213);have HR := hid hr3;clear hr3;have hs3 : w.1.size + 1 < w3.1.size := HE3.out.lt (.tail _ (.head _));generalize w3.alloc (.cells #[.string B, .int .i64 a3, .int .i64 e3] 213) = X4 at HE4 HR ⊢;cases hst : (dF v (some l)).2 with
   | none =>
    rw [hst] at h3;have h2 : (e3 == 0) = false := h3;have h4 : (e3 != 0) = true := (by simp [bne, h2]);have dr0 : X4.1[w3.1.size]? = some (.cells #[.string B, .int .i64 a3, .int .i64 e3] 213 (0, 0)) := HE4.out.row _ (.head _);have dc0_0 := HE4.out.cell (.head _) 0;have dz0_0 : X4.frozen? ⟨w3.1.size, 0, none⟩ = false := (by simp [World.frozen?, dr0]);have dc0_1 := HE4.out.cell (.head _) 1;have dz0_1 : X4.frozen? ⟨w3.1.size, 1, none⟩ = false := (by simp [World.frozen?, dr0]);have dc0_2 := HE4.out.cell (.head _) 2;have dz0_2 : X4.frozen? ⟨w3.1.size, 2, none⟩ = false := (by simp [World.frozen?, dr0]);have dr1 : X4.1[w1.1.size]? = some (.cells #[.string B, .int .i64 n, .int .i64 0] 213 (0, 0)) := HE4.out.row _ (.tail _ (.head _));have dc1_0 := HE4.out.cell (.tail _ (.head _)) 0;have dz1_0 : X4.frozen? ⟨w1.1.size, 0, none⟩ = false := (by simp [World.frozen?, dr1]);have dc1_1 := HE4.out.cell (.tail _ (.head _)) 1;have dz1_1 : X4.frozen? ⟨w1.1.size, 1, none⟩ = false := (by simp [World.frozen?, dr1]);have dc1_2 := HE4.out.cell (.tail _ (.head _)) 2;have dz1_2 : X4.frozen? ⟨w1.1.size, 2, none⟩ = false := (by simp [World.frozen?, dr1]);have dr2 : X4.1[w.1.size + 1]? = some (.cells #[.string ⟨#[]⟩, .int .i64 0, .int .i64 0] 213 (0, 0)) := HE4.out.row _ (.tail _ (.tail _ (.head _)));have dc2_0 := HE4.out.cell (.tail _ (.tail _ (.head _))) 0;have dz2_0 : X4.frozen? ⟨w.1.size + 1, 0, none⟩ = false := (by simp [World.frozen?, dr2]);have dc2_1 := HE4.out.cell (.tail _ (.tail _ (.head _))) 1;have dz2_1 : X4.frozen? ⟨w.1.size + 1, 1, none⟩ = false := (by simp [World.frozen?, dr2]);have dc2_2 := HE4.out.cell (.tail _ (.tail _ (.head _))) 2;have dz2_2 : X4.frozen? ⟨w.1.size + 1, 2, none⟩ = false := (by simp [World.frozen?, dr2]);have dr3 : X4.1[w.1.size]? = some (.cells #[.string B, .int .i64 a, .int .i64 e] 213 (0, 0)) := HE4.out.row _ (.tail _ (.tail _ (.tail _ (.head _))));have dc3_0 := HE4.out.cell (.tail _ (.tail _ (.tail _ (.head _)))) 0;have dz3_0 : X4.frozen? ⟨w.1.size, 0, none⟩ = false := (by simp [World.frozen?, dr3]);have dc3_1 := HE4.out.cell (.tail _ (.tail _ (.tail _ (.head _)))) 1;have dz3_1 : X4.frozen? ⟨w.1.size, 1, none⟩ = false := (by simp [World.frozen?, dr3]);have dc3_2 := HE4.out.cell (.tail _ (.tail _ (.tail _ (.head _)))) 2;have dz3_2 : X4.frozen? ⟨w.1.size, 2, none⟩ = false := (by simp [World.frozen?, dr3]);have HG := hid dr2;have HST := hid hst;clear dr0 dr1 dr2 dr3 hst;go_wp2_with fail;rw [Ga HST.out, HST.out];have HS := fP (Y := (X4.setCell ⟨w.1.size, 2, none⟩ (.int .i64 e3))) (.string B) (.int .i64 a) (.int .i64 e3) ((heap_setCell_other _ _ _ _ (show w.1.size + 1 ≠ w.1.size by omega)).trans HG.out);have hbel := (((HE4.out.bel.setCell (p := ⟨w.1.size, 2, none⟩) (show w.1.size ≤ w.1.size by omega) (.int .i64 e3)).setCell (p := ⟨w.1.size + 1, 0, none⟩) (by simp) (.string B)).setCell (p := ⟨w.1.size + 1, 1, none⟩) (by simp) (.int .i64 a)).setCell (p := ⟨w.1.size + 1, 2, none⟩) (by simp) (.int .i64 e3);refine aC (v := .tuple #[.agg #[.string B, .int .i64 a, .int .i64 e3], .slice none 0 0]) (aN rfl _ _ (w.1.size + 1) 213 _ _ _ _ rfl HS.1 Tryz.underlying213 rfl (by kernel_rfl) rfl) rfl ?_;exact ⟨_, _, _, rfl, h2, jK _ _ _, hbel⟩
   | some m =>
    rw [hst] at h3;obtain ⟨rfl, n2, rfl, hn2, hl2⟩ := h3;have dr0 : X4.1[w3.1.size]? = some (.cells #[.string B, .int .i64 n2, .int .i64 0] 213 (0, 0)) := HE4.out.row _ (.head _);have dc0_0 := HE4.out.cell (.head _) 0;have dz0_0 : X4.frozen? ⟨w3.1.size, 0, none⟩ = false := (by simp [World.frozen?, dr0]);have dc0_1 := HE4.out.cell (.head _) 1;have dz0_1 : X4.frozen? ⟨w3.1.size, 1, none⟩ = false := (by simp [World.frozen?, dr0]);have dc0_2 := HE4.out.cell (.head _) 2;have dz0_2 : X4.frozen? ⟨w3.1.size, 2, none⟩ = false := (by simp [World.frozen?, dr0]);have dr1 : X4.1[w1.1.size]? = some (.cells #[.string B, .int .i64 n, .int .i64 0] 213 (0, 0)) := HE4.out.row _ (.tail _ (.head _));have dc1_0 := HE4.out.cell (.tail _ (.head _)) 0;have dz1_0 : X4.frozen? ⟨w1.1.size, 0, none⟩ = false := (by simp [World.frozen?, dr1]);have dc1_1 := HE4.out.cell (.tail _ (.head _)) 1;have dz1_1 : X4.frozen? ⟨w1.1.size, 1, none⟩ = false := (by simp [World.frozen?, dr1]);have dc1_2 := HE4.out.cell (.tail _ (.head _)) 2;have dz1_2 : X4.frozen? ⟨w1.1.size, 2, none⟩ = false := (by simp [World.frozen?, dr1]);have dr2 : X4.1[w.1.size + 1]? = some (.cells #[.string ⟨#[]⟩, .int .i64 0, .int .i64 0] 213 (0, 0)) := HE4.out.row _ (.tail _ (.tail _ (.head _)));have dc2_0 := HE4.out.cell (.tail _ (.tail _ (.head _))) 0;have dz2_0 : X4.frozen? ⟨w.1.size + 1, 0, none⟩ = false := (by simp [World.frozen?, dr2]);have dc2_1 := HE4.out.cell (.tail _ (.tail _ (.head _))) 1;have dz2_1 : X4.frozen? ⟨w.1.size + 1, 1, none⟩ = false := (by simp [World.frozen?, dr2]);have dc2_2 := HE4.out.cell (.tail _ (.tail _ (.head _))) 2;have dz2_2 : X4.frozen? ⟨w.1.size + 1, 2, none⟩ = false := (by simp [World.frozen?, dr2]);have dr3 : X4.1[w.1.size]? = some (.cells #[.string B, .int .i64 a, .int .i64 e] 213 (0, 0)) := HE4.out.row _ (.tail _ (.tail _ (.tail _ (.head _))));have dc3_0 := HE4.out.cell (.tail _ (.tail _ (.tail _ (.head _)))) 0;have dz3_0 : X4.frozen? ⟨w.1.size, 0, none⟩ = false := (by simp [World.frozen?, dr3]);have dc3_1 := HE4.out.cell (.tail _ (.tail _ (.tail _ (.head _)))) 1;have dz3_1 : X4.frozen? ⟨w.1.size, 1, none⟩ = false := (by simp [World.frozen?, dr3]);have dc3_2 := HE4.out.cell (.tail _ (.tail _ (.tail _ (.head _)))) 2;have dz3_2 : X4.frozen? ⟨w.1.size, 2, none⟩ = false := (by simp [World.frozen?, dr3]);have HG := hid dr2;have H3 := hid (au hn2 hl2);have HST := hid hst;clear dr0 dr1 dr2 dr3 hst hl2;go_wp2_with fail;rw [HST.out];have HS := fP (Y := X4) (.string B) (.int .i64 n2) (.int .i64 0) HG.out;have hbel := ((HE4.out.bel.setCell (p := ⟨w.1.size + 1, 0, none⟩) (by simp) (.string B)).setCell (p := ⟨w.1.size + 1, 1, none⟩) (by simp) (.int .i64 n2)).setCell (p := ⟨w.1.size + 1, 2, none⟩) (by simp) (.int .i64 0);have hrep := Sl.keep (S' := fun b => w.1.size ≤ b) HR.out (by omega) (fun b hb hl => HS.2 b (by show b ≠ _; have hb : X2.1.size ≤ b := hb; omega) hl) (fun b _ hb => by have hb : X2.1.size ≤ b := hb; show w.1.size ≤ b; omega);refine aC (v := .tuple #[.agg #[.string B, .int .i64 n2, .int .i64 0], bv]) (aN rfl _ _ (w.1.size + 1) 213 _ _ _ _ rfl HS.1 Tryz.underlying213 rfl (by kernel_rfl) rfl) rfl ?_;exact ⟨_, _, _, rfl, ⟨rfl, n2, rfl, H3.out⟩, hrep, hbel⟩
end Go.Proofs.YtlpgokcapdjgjaaGreatDoor
