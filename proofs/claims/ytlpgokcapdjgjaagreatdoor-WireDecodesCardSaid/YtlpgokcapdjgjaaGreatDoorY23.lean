/- Walks. -/
import Derived.Test.YtlpgokcapdjgjaaGreatDoorYW25
import Derived.Deep.CutRange
set_option maxHeartbeats 8000000
set_option maxRecDepth 100000
namespace Go.Proofs.YtlpgokcapdjgjaaGreatDoor
open Go.RowKit Go
set_option linter.unusedVariables false
set_option linter.unusedSimpArgs false
def dE (k : Nat) (kk : Int) (t : Nat) (r : Rec) (k0 : Int) (k1 k2 : Nat) (k3 : Option Addr) (k4 k5 : Nat) (k6 : Option Addr) (n6 k7 : Nat) : Array Value :=
 if k = 2 then #[.int .i64 kk, .int .u64 t, .int .u64 r.x, .int .u64 r.w, .int .u64 r.n, .int .u64 0, .int .i64 0, .int .u64 0, .int .u64 0, .slice none 0 0, .slice none 0 0]
 else if k = 3 then #[.int .i64 kk, .int .u64 t, .int .u64 r.x, .int .u64 0, .int .u64 0, .int .u64 r.v, .int .i64 0, .int .u64 0, .int .u64 0, .slice none 0 0, .slice none 0 0]
 else if k = 4 then #[.int .i64 kk, .int .u64 t, .int .u64 r.x, .int .u64 0, .int .u64 0, .int .u64 0, .int .i64 0, .int .u64 0, .int .u64 0, .slice none 0 0, .slice none 0 0]
 else if k = 5 then #[.int .i64 kk, .int .u64 t, .int .u64 0, .int .u64 0, .int .u64 0, .int .u64 0, .int .i64 k0, .int .u64 k1, .int .u64 k2, .slice k3 k4 k5, .slice k6 n6 k7]
 else #[.int .i64 kk, .int .u64 t, .int .u64 0, .int .u64 0, .int .u64 0, .int .u64 0, .int .i64 0, .int .u64 0, .int .u64 0, .slice none 0 0, .slice none 0 0]
def vE (k fid : Nat) : Prop := ∀ (r : Rec) (k0 : Int) (k1 k2 : Nat) (k3 : Option Addr) (k4 k5 : Nat) (k6 : Option Addr) (n6 k7 : Nat) (w : World), Calls Tryz.prog fid #[.agg #[.int .i64 r.k, .int .u64 r.t, .int .u64 r.x, .int .u64 r.w, .int .u64 r.n, .int .u64 r.v, .int .i64 k0, .int .u64 k1, .int .u64 k2, .slice k3 k4 k5, .slice k6 n6 k7]] w fun e w' => e = .returned (.agg (dE k 0 0 r k0 k1 k2 k3 k4 k5 k6 n6 k7)) ∧ Below w.1.size w w'
theorem pF (k : Nat) (hk : k = 1 ∨ k = 6 ∨ k = 7) : vE k 98 := by
 intro r k0 k1 k2 k3 k4 k5 k6 n6 k7 w;rw [show dE k 0 0 r k0 k1 k2 k3 k4 k5 k6 n6 k7 = #[.int .i64 0, .int .u64 0, .int .u64 0, .int .u64 0, .int .u64 0, .int .u64 0, .int .i64 0, .int .u64 0, .int .u64 0, .slice none 0 0, .slice none 0 0] from by unfold dE; rw [if_neg (by omega), if_neg (by omega), if_neg (by omega), if_neg (by omega)]; rfl]
 go_enter Tryz.func98, Tryz.ntmps98
 go_wp2_with (refine wpList_store_row rfl 73 (.tmp 2) (.tmp 3) rfl rfl (w.1.size + 1) rfl _ rfl 73 #[.int .i64 0, .int .u64 0, .int .u64 0, .int .u64 0, .int .u64 0, .int .u64 0, .int .i64 0, .int .u64 0, .int .u64 0, .slice none 0 0, .slice none 0 0] (aK _ _ _ (by simp)) (by kernel_rfl) rfl (by simp [Value.oneCell']) ?_)
 exact aC (v := .agg _) (results_cell_row rfl _ _ (w.1.size + 1) 73 _ _ _ rfl (aB _ _ _ _ _ _ (aK _ _ _ (by simp))) Tryz.underlying73 rfl (by kernel_rfl)) rfl ⟨rfl, below_setRow ((br.alloc nl _).alloc (by simp) _) _ _ (by omega)⟩
theorem Cz : vE 2 144 := by
 intro r k0 k1 k2 k3 k4 k5 k6 n6 k7 w;simp only [dE]
 go_enter Tryz.func144, Tryz.ntmps144
 go_wp2_with (refine wpList_store_row rfl 73 (.tmp 2) (.tmp 7) rfl rfl (w.1.size + 1) rfl _ rfl 73 #[.int .i64 0, .int .u64 0, .int .u64 0, .int .u64 0, .int .u64 0, .int .u64 0, .int .i64 0, .int .u64 0, .int .u64 0, .slice none 0 0, .slice none 0 0] (aK _ _ _ (by simp)) (by kernel_rfl) rfl (by simp [Value.oneCell']) ?_)
 exact aC (v := .agg _) (results_cell_row rfl _ _ (w.1.size + 1) 73 _ _ _ rfl (aB _ _ _ _ _ _ (aK _ _ _ (by simp))) Tryz.underlying73 rfl (by kernel_rfl)) rfl ⟨rfl, below_setRow ((br.alloc nl _).alloc (by simp) _) _ _ (by omega)⟩
theorem Am : vE 3 152 := by
 intro r k0 k1 k2 k3 k4 k5 k6 n6 k7 w;simp only [dE]
 go_enter Tryz.func152, Tryz.ntmps152
 go_wp2_with (refine wpList_store_row rfl 73 (.tmp 2) (.tmp 7) rfl rfl (w.1.size + 1) rfl _ rfl 73 #[.int .i64 0, .int .u64 0, .int .u64 0, .int .u64 0, .int .u64 0, .int .u64 0, .int .i64 0, .int .u64 0, .int .u64 0, .slice none 0 0, .slice none 0 0] (aK _ _ _ (by simp)) (by kernel_rfl) rfl (by simp [Value.oneCell']) ?_)
 exact aC (v := .agg _) (results_cell_row rfl _ _ (w.1.size + 1) 73 _ _ _ rfl (aB _ _ _ _ _ _ (aK _ _ _ (by simp))) Tryz.underlying73 rfl (by kernel_rfl)) rfl ⟨rfl, below_setRow ((br.alloc nl _).alloc (by simp) _) _ _ (by omega)⟩
theorem yG : vE 4 157 := by
 intro r k0 k1 k2 k3 k4 k5 k6 n6 k7 w;simp only [dE]
 go_enter Tryz.func157, Tryz.ntmps157
 go_wp2_with (refine wpList_store_row rfl 73 (.tmp 2) (.tmp 5) rfl rfl (w.1.size + 1) rfl _ rfl 73 #[.int .i64 0, .int .u64 0, .int .u64 0, .int .u64 0, .int .u64 0, .int .u64 0, .int .i64 0, .int .u64 0, .int .u64 0, .slice none 0 0, .slice none 0 0] (aK _ _ _ (by simp)) (by kernel_rfl) rfl (by simp [Value.oneCell']) ?_)
 exact aC (v := .agg _) (results_cell_row rfl _ _ (w.1.size + 1) 73 _ _ _ rfl (aB _ _ _ _ _ _ (aK _ _ _ (by simp))) Tryz.underlying73 rfl (by kernel_rfl)) rfl ⟨rfl, below_setRow ((br.alloc nl _).alloc (by simp) _) _ _ (by omega)⟩
theorem CB : vE 5 162 := by
 intro r k0 k1 k2 k3 k4 k5 k6 n6 k7 w;simp only [dE]
 go_enter Tryz.func162, Tryz.ntmps162
 go_wp2_with (refine wpList_store_row rfl 73 (.tmp 2) (.tmp 7) rfl rfl (w.1.size + 1) rfl _ rfl 73 #[.int .i64 0, .int .u64 0, .int .u64 0, .int .u64 0, .int .u64 0, .int .u64 0, .int .i64 0, .int .u64 0, .int .u64 0, .slice none 0 0, .slice none 0 0] (aK _ _ _ (by simp)) (by kernel_rfl) rfl (by simp [Value.oneCell']) ?_)
 exact aC (v := .agg _) (results_cell_row rfl _ _ (w.1.size + 1) 73 _ _ _ rfl (aB _ _ _ _ _ _ (aK _ _ _ (by simp))) Tryz.underlying73 rfl (by kernel_rfl)) rfl ⟨rfl, below_setRow ((br.alloc nl _).alloc (by simp) _) _ _ (by omega)⟩
theorem CE (k : Nat) (h1 : 1 ≤ k) (h7 : k ≤ 7) : ∃ fid, (aV k)[1]? = some (.func (.func fid) #[] #[]) ∧ Enters fid ∧ vE k fid := by
 have hc : k = 1 ∨ k = 2 ∨ k = 3 ∨ k = 4 ∨ k = 5 ∨ k = 6 ∨ k = 7 := by omega
 rcases hc with rfl | rfl | rfl | rfl | rfl | rfl | rfl
 ·exact ⟨98, rfl, (fun _ _ => by kernel_rfl), pF 1 (by omega)⟩
 ·exact ⟨144, rfl, (fun _ _ => by kernel_rfl), Cz⟩
 ·exact ⟨152, rfl, (fun _ _ => by kernel_rfl), Am⟩
 ·exact ⟨157, rfl, (fun _ _ => by kernel_rfl), yG⟩
 ·exact ⟨162, rfl, (fun _ _ => by kernel_rfl), CB⟩
 ·exact ⟨98, rfl, (fun _ _ => by kernel_rfl), pF 6 (by omega)⟩
 ·exact ⟨98, rfl, (fun _ _ => by kernel_rfl), pF 7 (by omega)⟩
theorem CF {w : World} {S : Nat → Prop} {own : Bool} {r : Rec} {k : Nat} {k0 : Int} {k1 k2 : Nat} {k3 : Option Addr} {k4 k5 : Nat} {k6 : Option Addr} {k7 : Nat} (hk : r.k = (k : Int)) (h1 : 1 ≤ k) (h7 : k ≤ 7) (hn : r.nums)
  (he : aT w S own r.p (.agg #[.int .i64 k0, .int .u64 k1, .int .u64 k2, .slice k3 k4 k5])) (hes : fQ w S own r.es (.slice k6 r.es.length k7)) : bL w S own r.only (.agg (dE k k r.t r k0 k1 k2 k3 k4 k5 k6 r.es.length k7)) := by
 obtain ⟨ht, hx, hw, hn1, hv, hp, hes2⟩ := hn;have hc : k = 1 ∨ k = 2 ∨ k = 3 ∨ k = 4 ∨ k = 5 ∨ k = 6 ∨ k = 7 := by omega
 have z : ∀ own, aT w S own .zero (.agg #[.int .i64 0, .int .u64 0, .int .u64 0, .slice none 0 0]) := fun own => by cases own; exact (lw w S).unown; exact lw w S
 have zn : ∀ own, fQ w S own [] (.slice none 0 0) := fun own => Sl.nil w S own 4
 obtain ⟨rk, rt, rx, rw', rn, rv, rp, res⟩ := r;simp only at hk ht hx hw hn1 hv hp hes2 he hes;subst hk;rcases hc with rfl | rfl | rfl | rfl | rfl | rfl | rfl
 all_goals simp only [Rec.only, dE]
 all_goals first
  | exact ⟨_, _, _, _, _, rfl, by simp, by simp, ⟨ht, hx, hw, hn1, hv, hp, hes2⟩, he, hes⟩
  | exact ⟨_, _, _, _, _, rfl, by simp, by simp, ⟨ht, by simp, by simp, by simp, by simp, hp, hes2⟩, he, hes⟩
  | exact ⟨_, _, _, _, _, rfl, by simp, by simp, ⟨ht, hx, hw, hn1, by simp, bD, by simp⟩, z own, zn own⟩
  | exact ⟨_, _, _, _, _, rfl, by simp, by simp, ⟨ht, hx, by simp, by simp, hv, bD, by simp⟩, z own, zn own⟩
  | exact ⟨_, _, _, _, _, rfl, by simp, by simp, ⟨ht, hx, by simp, by simp, by simp, bD, by simp⟩, z own, zn own⟩
  | exact ⟨_, _, _, _, _, rfl, by simp, by simp, ⟨ht, by simp, by simp, by simp, by simp, bD, by simp⟩, z own, zn own⟩
theorem CG {r : Rec} (h : ¬ (1 ≤ r.k ∧ r.k ≤ 7)) : r.right = false := by
 unfold Rec.right;by_cases h1 : 1 ≤ r.k
 ·rw [decide_eq_false (p := r.k ≤ 7) (by omega)]; simp
 ·rw [decide_eq_false h1]; simp
theorem Ao {r : Rec} (h5 : r.k = 5) (h : r.p.right = false) : r.right = false := by
 unfold Rec.right; simp [h5, h]
theorem sJ {r : Rec} (h1 : 1 ≤ r.k) (h7 : r.k ≤ 7) (h : r.k = 5 → r.p.right = true) : r.right = r.same r.only := by
 have e : r.only.same r = r.same r.only := by
  rw [Bool.eq_iff_iff, Rec.same_iff, Rec.same_iff]; exact eq_comm
 unfold Rec.right;rw [e, decide_eq_true h1, decide_eq_true h7];by_cases h5 : r.k = 5
 ·simp [h5, h h5]
 ·simp [h5]
section
variable (k : Nat) (kk : Int) (t : Nat) (r : Rec) (k0 : Int) (k1 k2 : Nat) (k3 : Option Addr) (k4 k5 : Nat) (k6 : Option Addr) (n6 k7 : Nat)
theorem gP : (dE k kk t r k0 k1 k2 k3 k4 k5 k6 n6 k7).size = 11 := by
 unfold dE
 repeat' split
 all_goals rfl
theorem vF : ∀ v ∈ (dE k kk t r k0 k1 k2 k3 k4 k5 k6 n6 k7).toList, v.oneCell' = true := by
 unfold dE
 repeat' split
 all_goals simp [Value.oneCell']
theorem BJ : (dE k kk t r k0 k1 k2 k3 k4 k5 k6 n6 k7)[0]? = some (.int .i64 kk) := by
 unfold dE
 repeat' split
 all_goals rfl
theorem BK : (dE k kk t r k0 k1 k2 k3 k4 k5 k6 n6 k7)[1]? = some (.int .u64 t) := by
 unfold dE
 repeat' split
 all_goals rfl
theorem sK (kj : Int) : (dE k kj t r k0 k1 k2 k3 k4 k5 k6 n6 k7) = (dE k kk t r k0 k1 k2 k3 k4 k5 k6 n6 k7).setIfInBounds 0 (.int .i64 kj) := by
 unfold dE
 repeat' split
 all_goals rfl
theorem sM (tj : Nat) : (dE k kk tj r k0 k1 k2 k3 k4 k5 k6 n6 k7) = (dE k kk t r k0 k1 k2 k3 k4 k5 k6 n6 k7).setIfInBounds 1 (.int .u64 (tj : Nat)) := by
 unfold dE
 repeat' split
 all_goals rfl
end
theorem wY (S : Nat → Prop) (own : Bool) (r : Rec) (v : Value) (w : World) (hsz : r.p.size ≤ 900) (hv : bL w S own r v) :
  Calls Tryz.prog 45 #[v] w fun e w' => e = .returned (.bool r.right) ∧ Below w.1.size w w' := by
 obtain ⟨k0, k1, k2, k3, k4, k5, k6, k7, rfl, hk1, hk2, hnums, he, hes⟩ := hv.conc;obtain ⟨n6, hn6⟩ : ∃ n6, n6 = r.es.length := ⟨_, rfl⟩;rw [← hn6] at hes hv ⊢;have hb0 : Below w.1.size w (w.alloc (.cells #[.int .i64 r.k, .int .u64 r.t, .int .u64 r.x, .int .u64 r.w, .int .u64 r.n, .int .u64 r.v, .int .i64 k0, .int .u64 k1, .int .u64 k2, .slice k3 k4 k5, .slice k6 n6 k7] 73)) := br.alloc nl _;have HN := hid (au hn6 (au hnums (au he (au hes hv))));have HB0 := hid hb0;clear hn6 hnums he hes hv hb0
 go_enter Tryz.func45, Tryz.ntmps45
 go_wp2_with fail;refine (vg r.k _ hk1 hk2).mono ?_;rintro e w1 ⟨⟨k, hk, h1, h7, rfl⟩ | ⟨hn, rfl⟩, hb1⟩
 ·have HKK := hid hk
  have hb2 : Below w.1.size w w1 := HB0.out.trans (hb1.mono (by simp));have hz1 := hb1.size;simp only [aD] at hz1;have hrb : w1.1[w.1.size]? = some (.cells #[.int .i64 r.k, .int .u64 r.t, .int .u64 r.x, .int .u64 r.w, .int .u64 r.n, .int .u64 r.v, .int .i64 k0, .int .u64 k1, .int .u64 k2, .slice k3 k4 k5, .slice k6 n6 k7] 73 (0, 0)) := (hb1.block _ (by simp)).trans (aK _ _ _ rfl);obtain ⟨W2, hW2⟩ : ∃ W2, W2 = ((w1.alloc (.cells #[.string ⟨#[]⟩, .nilFunc, .nilFunc, .nilFunc, .nilFunc, .nilFunc] 150)).setRow w1.1.size (aV k)) := ⟨_, rfl⟩;have hb3 : Below w1.1.size w1 W2 := by rw [hW2]; exact below_setRow (br.alloc nl _) _ _ nl
  have hkb : W2.1[w1.1.size]? = some (.cells (aV k) 150 (0, 0)) := by rw [hW2]; exact aB _ _ _ _ _ _ (aK _ _ _ rfl)
  have hz2 : W2.1.size = w1.1.size + 1 := by rw [hW2]; simp [World.setRow]
  have hrb2 : W2.1[w.1.size]? = some (.cells #[.int .i64 r.k, .int .u64 r.t, .int .u64 r.x, .int .u64 r.w, .int .u64 r.n, .int .u64 r.v, .int .i64 k0, .int .u64 k1, .int .u64 k2, .slice k3 k4 k5, .slice k6 n6 k7] 73 (0, 0)) := (hb3.block _ (by omega)).trans hrb;obtain ⟨fid, hf1, hf2, hf3⟩ := CE k h1 h7;have c1 : W2.cell? ⟨w1.1.size, 1, none⟩ = some (.func (.func fid) #[] #[]) := by rw [ax W2 _ 1 _ _ _ hkb]; exact hf1
  have HW2 := hid hW2;have HKB := hid hkb;have HF := hid (au hf2 hf3);have HX := hid (au hrb2 (hb2.trans (hb3.mono (by omega))));have h0 : ∀ o, W2.cell? ⟨w.1.size, o, none⟩ = #[.int .i64 r.k, .int .u64 r.t, .int .u64 r.x, .int .u64 r.w, .int .u64 r.n, .int .u64 r.v, .int .i64 k0, .int .u64 k1, .int .u64 k2, .slice k3 k4 k5, .slice k6 n6 k7][o]? := fun o => ax W2 _ o _ _ _ hrb2
  clear hb1 hb2 hrb hb3 hkb hrb2 hW2 hf1 hf2 hf3 hk
  go_upto_region 2 with (refine wpList_store_row rfl 150 (.tmp 3) (.tmp 10) rfl rfl w1.1.size rfl (aV k) rfl 150 #[.string ⟨#[]⟩, .nilFunc, .nilFunc, .nilFunc, .nilFunc, .nilFunc] (aK _ _ _ rfl) (by rw [bT]; kernel_rfl) (by rw [bT]; rfl) (gX k) ?_)
  rw [← HW2.out];clear HW2 hz1 hz2;have l0 : w.1.size < W2.1.size := (ak HX.out.1).1;have HON := hid (show bL w S own r.only (.agg (dE k k r.t r k0 k1 k2 k3 k4 k5 k6 n6 k7)) from by
   have h := HN.out.2.2.2.1;rw [HN.out.1] at h ⊢;exact CF HKK.out h1 h7 HN.out.2.1 HN.out.2.2.1 h)
  have hk17 : 1 ≤ r.k ∧ r.k ≤ 7 := by rw [HKK.out]; omega
  have HK17 := hid hk17;clear hk17;have h5c : (r.k == 5) = false ∨ (r.k == 5) = true := by cases (r.k == 5) <;> simp
  rcases h5c with h5 | h5
  ·have HRS := hid (sJ HK17.out.1 HK17.out.2 (fun h => by rw [h] at h5; cases h5))
   have hcall := HF.out.1;unfold Enters at hcall;have h00 := h0 0;have h01 := h0 1;have h02 := h0 2;have h03 := h0 3;have h04 := h0 4;have h05 := h0 5;have h06 := h0 6;have h07 := h0 7;have h08 := h0 8;have h09 := h0 9;have h10 := h0 10;clear h0;go_wp2_with fail;clear hcall h02 h03 h04 h05 h06 h07 h08 h09 h10;refine (HF.out.2 r k0 k1 k2 k3 k4 k5 k6 n6 k7 _).mono ?_;rintro e w3 ⟨rfl, hb3⟩;have hb23 : Below w.1.size w w3 := HX.out.2.trans (hb3.mono (by omega));have hz3 := hb3.size;obtain ⟨W4, hW4⟩ : ∃ W4, W4 = ((w3.alloc (.cells #[.int .i64 0, .int .u64 0, .int .u64 0, .int .u64 0, .int .u64 0, .int .u64 0, .int .i64 0, .int .u64 0, .int .u64 0, .slice none 0 0, .slice none 0 0] 73)).setRow w3.1.size (dE k 0 0 r k0 k1 k2 k3 k4 k5 k6 n6 k7)) := ⟨_, rfl⟩;have hb4 : Below w3.1.size w3 W4 := (by rw [hW4]; exact below_setRow (br.alloc nl _) _ _ nl);have hkb : W4.1[w3.1.size]? = some (.cells (dE k 0 0 r k0 k1 k2 k3 k4 k5 k6 n6 k7) 73 (0, 0)) := (by rw [hW4]; exact aB _ _ _ _ _ _ (aK _ _ _ rfl));have hrb4 : W4.1[w.1.size]? = some (.cells #[.int .i64 r.k, .int .u64 r.t, .int .u64 r.x, .int .u64 r.w, .int .u64 r.n, .int .u64 r.v, .int .i64 k0, .int .u64 k1, .int .u64 k2, .slice k3 k4 k5, .slice k6 n6 k7] 73 (0, 0)) := (hb4.block _ (by omega)).trans ((hb3.block _ l0).trans HX.out.1);have HW4 := hid hW4;have HX4 := hid (au hrb4 (au hkb (hb23.trans (hb4.mono (by omega)))));have e0 : W4.cell? ⟨w.1.size, 0, none⟩ = some (.int .i64 r.k) := (by rw [ax W4 _ 0 _ _ _ hrb4]; rfl);have e1 : W4.cell? ⟨w.1.size, 1, none⟩ = some (.int .u64 r.t) := (by rw [ax W4 _ 1 _ _ _ hrb4]; rfl);have o0 : W4.cell? ⟨w3.1.size, 0, none⟩ = some (.int .i64 0) := (by rw [ax W4 _ 0 _ _ _ hkb]; exact BJ ..);have o1 : W4.cell? ⟨w3.1.size, 1, none⟩ = some (.int .u64 0) := (by rw [ax W4 _ 1 _ _ _ hkb]; exact BK ..);have f0 : W4.frozen? ⟨w3.1.size, 0, none⟩ = false := (by rw [aA W4 _ 0 _ _ hkb]);have f1 : W4.frozen? ⟨w3.1.size, 1, none⟩ = false := (by rw [aA W4 _ 1 _ _ hkb]);have l4 : w.1.size < w3.1.size := (by omega);clear hb3 hb23 hb4 hkb hrb4 hW4 h00 h01 hz3
   go_upto_region 5 with (refine wpList_store_row rfl 73 (.tmp 5) (.tmp 28) rfl rfl w3.1.size rfl (dE k 0 0 r k0 k1 k2 k3 k4 k5 k6 n6 k7) rfl 73 #[.int .i64 0, .int .u64 0, .int .u64 0, .int .u64 0, .int .u64 0, .int .u64 0, .int .i64 0, .int .u64 0, .int .u64 0, .slice none 0 0, .slice none 0 0] (aK _ _ _ rfl) (by rw [gP]; kernel_rfl) (by rw [gP]; rfl) (vF _ _ _ _ _ _ _ _ _ _ _ _ _) ?_)
   rw [← HW4.out];clear HW4
   go_region
   obtain ⟨W5, hW5⟩ : ∃ W5, W5 = ((W4.setCell ⟨w3.1.size, 0, none⟩ (.int .i64 r.k)).setCell ⟨w3.1.size, 1, none⟩ (.int .u64 (r.t : Nat))).drew := ⟨_, rfl⟩;have hb5 : Below w3.1.size W4 W5 := (by rw [hW5]; exact (((Below.refl w3.1.size W4).setCell (by simp) _).setCell (by simp) _).drew);have hz5 : w3.1.size ≤ W4.1.size := (by have := HX4.out.2.2.size; have := (ak HX4.out.2.1).1; omega);have hkb5 : W5.1[w3.1.size]? = some (.cells (dE k k r.t r k0 k1 k2 k3 k4 k5 k6 n6 k7) 73 (0, 0)) := by
    rw [hW5];show ((W4.setCell ⟨w3.1.size, 0, none⟩ (.int .i64 r.k)).setCell ⟨w3.1.size, 1, none⟩ (.int .u64 (r.t : Nat))).1[w3.1.size]? = _;rw [HKK.out];exact aM (aM HX4.out.2.1 (sK k 0 0 r k0 k1 k2 k3 k4 k5 k6 n6 k7 k)) (sM k k 0 r k0 k1 k2 k3 k4 k5 k6 n6 k7 r.t)
   have hrb5 : W5.1[w.1.size]? = some (.cells #[.int .i64 r.k, .int .u64 r.t, .int .u64 r.x, .int .u64 r.w, .int .u64 r.n, .int .u64 r.v, .int .i64 k0, .int .u64 k1, .int .u64 k2, .slice k3 k4 k5, .slice k6 n6 k7] 73 (0, 0)) := (hb5.block _ l4).trans HX4.out.1;have HX5 := hid (au hrb5 (au hkb5 (HX4.out.2.2.trans (hb5.mono (by omega)))));rw [← hW5];clear hW5 hb5 hkb5 hrb5 e0 e1 o0 o1 f0 f1
   go_upto_region 6 with fail
   go_wp2_with (first
    | (refine wpList_load_row rfl 73 (.tmp 1) rfl w.1.size rfl 73 _ (0, 0) _ HX5.out.1 Tryz.underlying73 rfl (by kernel_rfl) ?_)
    | (refine wpList_load_row rfl 73 (.tmp 5) rfl w3.1.size rfl 73 _ (0, 0) _ HX5.out.2.1 Tryz.underlying73 rfl (by rw [gP]; kernel_rfl) ?_))
   refine (qm S S own own r r.only _ _ W5 (HN.out.2.2.2.2.below (HX5.out.2.2) nl) (bL.below (HON.out) HX5.out.2.2 nl)).mono ?_;rintro e w6 ⟨rfl, hb6⟩;have HB6 := hid (au HRS.out (HX5.out.2.2.trans (hb6.mono HX5.out.2.2.size)));clear hb6;go_wp2_with fail;go_ret
   exact ⟨aR HB6.out.1.symm, HB6.out.2⟩
  ·have H5 := hid (show r.k = 5 from by simpa using h5)
   have h00 := h0 0;have h06 := h0 6;have h07 := h0 7;have h08 := h0 8;have h09 := h0 9;go_wp2_with fail;clear h00 h06 h07 h08 h09;refine (mi S own r.p _ W2 hsz (HN.out.2.2.1.below HX.out.2 nl)).mono ?_;rintro e w2 ⟨rfl, hbp⟩;cases hp : r.p.right with
   | false =>
    have HQ := hid (au (Ao H5.out hp) (HX.out.2.trans (hbp.mono (by omega))));clear hbp h0 c1;go_wp2_with fail;go_ret
    exact ⟨aR HQ.out.1.symm, HQ.out.2⟩
   | true =>
   have hx2 : w2.1[w.1.size]? = some (.cells #[.int .i64 r.k, .int .u64 r.t, .int .u64 r.x, .int .u64 r.w, .int .u64 r.n, .int .u64 r.v, .int .i64 k0, .int .u64 k1, .int .u64 k2, .slice k3 k4 k5, .slice k6 n6 k7] 73 (0, 0)) := (hbp.block _ l0).trans HX.out.1;have c1' := (hbp.cell (ak HKB.out).1).trans c1;have HX2 := hid (au hx2 (HX.out.2.trans (hbp.mono (by omega))));have HRS := hid (sJ HK17.out.1 HK17.out.2 (fun _ => hp));have h0' : ∀ o, w2.cell? ⟨w.1.size, o, none⟩ = #[.int .i64 r.k, .int .u64 r.t, .int .u64 r.x, .int .u64 r.w, .int .u64 r.n, .int .u64 r.v, .int .i64 k0, .int .u64 k1, .int .u64 k2, .slice k3 k4 k5, .slice k6 n6 k7][o]? := fun o => ax w2 _ o _ _ _ hx2
   have l0' : w.1.size < w2.1.size := (ak hx2).1;clear hbp c1 HX h0 l0 hp hx2;have HX := HX2;have h0 := h0';have l0 := l0';have c1 := c1';clear HX2 h0' l0' c1';have hcall := HF.out.1;unfold Enters at hcall;have h00 := h0 0;have h01 := h0 1;have h02 := h0 2;have h03 := h0 3;have h04 := h0 4;have h05 := h0 5;have h06 := h0 6;have h07 := h0 7;have h08 := h0 8;have h09 := h0 9;have h10 := h0 10;clear h0;go_wp2_with fail;clear hcall h02 h03 h04 h05 h06 h07 h08 h09 h10;refine (HF.out.2 r k0 k1 k2 k3 k4 k5 k6 n6 k7 _).mono ?_;rintro e w3 ⟨rfl, hb3⟩;have hb23 : Below w.1.size w w3 := HX.out.2.trans (hb3.mono (by omega));have hz3 := hb3.size;obtain ⟨W4, hW4⟩ : ∃ W4, W4 = ((w3.alloc (.cells #[.int .i64 0, .int .u64 0, .int .u64 0, .int .u64 0, .int .u64 0, .int .u64 0, .int .i64 0, .int .u64 0, .int .u64 0, .slice none 0 0, .slice none 0 0] 73)).setRow w3.1.size (dE k 0 0 r k0 k1 k2 k3 k4 k5 k6 n6 k7)) := ⟨_, rfl⟩;have hb4 : Below w3.1.size w3 W4 := (by rw [hW4]; exact below_setRow (br.alloc nl _) _ _ nl);have hkb : W4.1[w3.1.size]? = some (.cells (dE k 0 0 r k0 k1 k2 k3 k4 k5 k6 n6 k7) 73 (0, 0)) := (by rw [hW4]; exact aB _ _ _ _ _ _ (aK _ _ _ rfl));have hrb4 : W4.1[w.1.size]? = some (.cells #[.int .i64 r.k, .int .u64 r.t, .int .u64 r.x, .int .u64 r.w, .int .u64 r.n, .int .u64 r.v, .int .i64 k0, .int .u64 k1, .int .u64 k2, .slice k3 k4 k5, .slice k6 n6 k7] 73 (0, 0)) := (hb4.block _ (by omega)).trans ((hb3.block _ l0).trans HX.out.1);have HW4 := hid hW4;have HX4 := hid (au hrb4 (au hkb (hb23.trans (hb4.mono (by omega)))));have e0 : W4.cell? ⟨w.1.size, 0, none⟩ = some (.int .i64 r.k) := (by rw [ax W4 _ 0 _ _ _ hrb4]; rfl);have e1 : W4.cell? ⟨w.1.size, 1, none⟩ = some (.int .u64 r.t) := (by rw [ax W4 _ 1 _ _ _ hrb4]; rfl);have o0 : W4.cell? ⟨w3.1.size, 0, none⟩ = some (.int .i64 0) := (by rw [ax W4 _ 0 _ _ _ hkb]; exact BJ ..);have o1 : W4.cell? ⟨w3.1.size, 1, none⟩ = some (.int .u64 0) := (by rw [ax W4 _ 1 _ _ _ hkb]; exact BK ..);have f0 : W4.frozen? ⟨w3.1.size, 0, none⟩ = false := (by rw [aA W4 _ 0 _ _ hkb]);have f1 : W4.frozen? ⟨w3.1.size, 1, none⟩ = false := (by rw [aA W4 _ 1 _ _ hkb]);have l4 : w.1.size < w3.1.size := (by omega);clear hb3 hb23 hb4 hkb hrb4 hW4 h00 h01 hz3
   go_upto_region 5 with (refine wpList_store_row rfl 73 (.tmp 5) (.tmp 28) rfl rfl w3.1.size rfl (dE k 0 0 r k0 k1 k2 k3 k4 k5 k6 n6 k7) rfl 73 #[.int .i64 0, .int .u64 0, .int .u64 0, .int .u64 0, .int .u64 0, .int .u64 0, .int .i64 0, .int .u64 0, .int .u64 0, .slice none 0 0, .slice none 0 0] (aK _ _ _ rfl) (by rw [gP]; kernel_rfl) (by rw [gP]; rfl) (vF _ _ _ _ _ _ _ _ _ _ _ _ _) ?_)
   rw [← HW4.out];clear HW4
   go_region
   obtain ⟨W5, hW5⟩ : ∃ W5, W5 = ((W4.setCell ⟨w3.1.size, 0, none⟩ (.int .i64 r.k)).setCell ⟨w3.1.size, 1, none⟩ (.int .u64 (r.t : Nat))).drew := ⟨_, rfl⟩;have hb5 : Below w3.1.size W4 W5 := (by rw [hW5]; exact (((Below.refl w3.1.size W4).setCell (by simp) _).setCell (by simp) _).drew);have hz5 : w3.1.size ≤ W4.1.size := (by have := HX4.out.2.2.size; have := (ak HX4.out.2.1).1; omega);have hkb5 : W5.1[w3.1.size]? = some (.cells (dE k k r.t r k0 k1 k2 k3 k4 k5 k6 n6 k7) 73 (0, 0)) := by
    rw [hW5];show ((W4.setCell ⟨w3.1.size, 0, none⟩ (.int .i64 r.k)).setCell ⟨w3.1.size, 1, none⟩ (.int .u64 (r.t : Nat))).1[w3.1.size]? = _;rw [HKK.out];exact aM (aM HX4.out.2.1 (sK k 0 0 r k0 k1 k2 k3 k4 k5 k6 n6 k7 k)) (sM k k 0 r k0 k1 k2 k3 k4 k5 k6 n6 k7 r.t)
   have hrb5 : W5.1[w.1.size]? = some (.cells #[.int .i64 r.k, .int .u64 r.t, .int .u64 r.x, .int .u64 r.w, .int .u64 r.n, .int .u64 r.v, .int .i64 k0, .int .u64 k1, .int .u64 k2, .slice k3 k4 k5, .slice k6 n6 k7] 73 (0, 0)) := (hb5.block _ l4).trans HX4.out.1;have HX5 := hid (au hrb5 (au hkb5 (HX4.out.2.2.trans (hb5.mono (by omega)))));rw [← hW5];clear hW5 hb5 hkb5 hrb5 e0 e1 o0 o1 f0 f1
   go_upto_region 6 with fail
   go_wp2_with (first
    | (refine wpList_load_row rfl 73 (.tmp 1) rfl w.1.size rfl 73 _ (0, 0) _ HX5.out.1 Tryz.underlying73 rfl (by kernel_rfl) ?_)
    | (refine wpList_load_row rfl 73 (.tmp 5) rfl w3.1.size rfl 73 _ (0, 0) _ HX5.out.2.1 Tryz.underlying73 rfl (by rw [gP]; kernel_rfl) ?_))
   refine (qm S S own own r r.only _ _ W5 (HN.out.2.2.2.2.below (HX5.out.2.2) nl) (bL.below (HON.out) HX5.out.2.2 nl)).mono ?_;rintro e w6 ⟨rfl, hb6⟩;have HB6 := hid (au HRS.out (HX5.out.2.2.trans (hb6.mono HX5.out.2.2.size)));clear hb6;go_wp2_with fail;go_ret
   exact ⟨aR HB6.out.1.symm, HB6.out.2⟩
 ·have hb2 : Below w.1.size w w1 := HB0.out.trans (hb1.mono (by simp))
  have HB2 := hid (au (CG hn) hb2);clear hb1 hb2 hn
  go_upto_region 2 with (refine wpList_store_row rfl 150 (.tmp 3) (.tmp 10) rfl rfl w1.1.size rfl _ rfl 150 #[.string ⟨#[]⟩, .nilFunc, .nilFunc, .nilFunc, .nilFunc, .nilFunc] (aK _ _ _ rfl) (by kernel_rfl) rfl (by simp [Value.oneCell']) ?_)
  go_wp2_with fail;go_ret
  exact ⟨aR HB2.out.1.symm, below_setRow (HB2.out.2.alloc HB2.out.2.size _) _ _ HB2.out.2.size⟩
end Go.Proofs.YtlpgokcapdjgjaaGreatDoor
