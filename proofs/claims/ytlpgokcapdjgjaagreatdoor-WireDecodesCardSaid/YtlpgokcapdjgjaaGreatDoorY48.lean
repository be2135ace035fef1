/- Walks. -/
import Derived.Test.YtlpgokcapdjgjaaGreatDoorY20
set_option maxHeartbeats 1000000
set_option maxRecDepth 100000
namespace Go.Proofs.YtlpgokcapdjgjaaGreatDoor
open Go.RowKit Go
set_option linter.unusedVariables false
set_option linter.unusedSimpArgs false
theorem uy (u : Nat) (w : World) (hu64 : u < 18446744073709551616) (hL : Lv w.1.size w) :
  Calls Tryz.prog 92 #[.int .u64 u] w fun e w' => e = .returned (.string ⟨(Lib.decDigits u).toArray⟩) ∧ Below w.1.size w w' := by
 have HF := hid (rz u w hu64 hL.tab);clear hL
 go_enter Tryz.func92, Tryz.ntmps92
 go_wp2_with fail;refine HF.out.mono ?_;rintro e w' ⟨rfl, hb⟩;go_wp2_with fail;go_ret
 exact ⟨rfl, hb⟩
theorem wH (s : ByteArray) (w : World) (hL : Lv w.1.size w) (hsz : s.size ≤ 1000000) :
  Calls Tryz.prog 108 #[.string s, .int .i64 10, .int .i64 64] w fun e w' => ∃ (v : Nat) (er : Value), e = .returned (.tuple #[.int .u64 v, er]) ∧ v < 18446744073709551616 ∧
   ((er = .nilIface ∧ Lib.parseUintB 64 s.data.toList = .ok v) ∨ ((∃ te pe, er = .iface te (.pointer (some pe))) ∧ ∀ n, Lib.parseUintB 64 s.data.toList ≠ .ok n)) ∧ Below w.1.size w w' := by
 rcases yj s.data.toList with ⟨u, hp⟩ | ⟨hno, hp | hp⟩
 ·refine (Tryz.strconv_ParseUint_10_at64_ok s (by omega) _ hp w).mono ?_
  rintro e w' ⟨rfl, hw⟩;refine ⟨_, _, rfl, (rF hp).1, .inl ⟨rfl, hp⟩, ?_⟩;rcases hw with rfl | rfl
  ·exact br
  ·exact Lib.bytesWorld_below _ _ _
 ·obtain ⟨tp, p, hs⟩ := hL.rng
  refine (Tryz.strconv_ParseUint_10_at64_range_var s (by omega) hp tp p w hs).mono ?_;rintro e w' ⟨N, rfl, _, _, hb⟩;exact ⟨18446744073709551615, _, rfl, by omega, .inr ⟨⟨_, _, rfl⟩, hno⟩, hb⟩
 ·obtain ⟨tp, p, hs⟩ := hL.syn
  refine (Tryz.strconv_ParseUint_10_at64_syntax_var s (by omega) hp tp p w hs).mono ?_;rintro e w' ⟨N, rfl, _, _, hb⟩;exact ⟨0, _, rfl, by omega, .inr ⟨⟨_, _, rfl⟩, hno⟩, hb⟩
def Gx (g : Nat) (T : TypeId) (want : Option (Array Value)) (w : World) (e : Ending) (w' : World) : Prop :=
 ∃ cs', e = .returned (.bool want.isSome) ∧ w'.1[g]? = some (.cells cs' T (0, 0)) ∧ Rg g w w' ∧ ∀ c, want = some c → cs' = c
theorem Bq {g : Nat} {T : TypeId} {want : Option (Array Value)} {w w' : World} {b : Bool} {cs' : Array Value} (h1 : Rg g w w') (h2 : w'.1[g]? = some (.cells cs' T (0, 0))) (h3 : b = want.isSome) (h4 : ∀ c, want = some c → cs' = c) : Gx g T want w (.returned (.bool b)) w' :=
 ⟨cs', by rw [h3], h2, h1, h4⟩
theorem jy (s : ByteArray) (g o : Nat) (T : TypeId) (cs : Array Value) (w : World) (hs : s.size ≤ 100000) (hh : w.1[g]? = some (.cells cs T (0, 0))) (ho : o < cs.size) (hL : Lv g w) :
  Calls Tryz.prog 61 #[.string s, .pointer (some ⟨g, o, none⟩)] w (Gx g T ((eZ s.data.toList).map fun (n : Nat) => cs.setIfInBounds o (.int .u64 (n : Nat))) w) := by
 have hlt : g < w.1.size := (ak hh).1;have HP := hid (wH s w (hL.mono (by omega)) (by omega));have HH := hid hh;have HL := hid hL;clear hh hL
 go_enter Tryz.func61, Tryz.ntmps61
 go_wp2_with fail;refine HP.out.mono ?_;rintro e w1 ⟨v, er, rfl, hv, hcase, hb1⟩;have hh1 : w1.1[g]? = some (.cells cs T (0, 0)) := (hb1.block _ hlt).trans HH.out;have hz1 : g < w1.1.size := by have := hb1.size; omega
 obtain ⟨u, hu⟩ : ∃ u, w1.cell? ⟨g, o, none⟩ = some u := ⟨cs[o], by rw [ax w1 _ o _ _ _ hh1]; exact ag ho⟩;have hf : w1.frozen? ⟨g, o, none⟩ = false := by rw [aA w1 _ o _ _ hh1]
 have hhs : (w1.setCell ⟨g, o, none⟩ (.int .u64 v)).1[g]? = some (.cells (cs.setIfInBounds o (.int .u64 v)) T (0, 0)) := aM hh1 rfl;have HS := hid (au hhs ((Rg.of_below (rb := g) hb1).setCell o (.int .u64 v)));have HL1 := hid (HL.out.below (hb1.mono (by omega)));clear hh1 hhs hb1;rcases hcase with ⟨rfl, hp⟩ | ⟨⟨te, pe, rfl⟩, hno⟩
 ·have HN := hid (rF hp)
  have HLs : Hid (Lv (w1.setCell ⟨g, o, none⟩ (.int .u64 v)).1.size (w1.setCell ⟨g, o, none⟩ (.int .u64 v))) := hid ((HL.out.below (HS.out.2.below (by omega))).mono (by have := HS.out.2.size; omega));clear hp;go_wp2_with fail;refine (uy v _ hv HLs.out).mono ?_;rintro e w2 ⟨rfl, hb2⟩;have HB := hid hb2;clear hb2;go_wp2_with fail;go_ret
  refine Bq (HS.out.2.trans (Rg.of_below HB.out)) ((HB.out.block _ (by simp; omega)).trans HS.out.1) ?_ ?_
  ·rw [Option.isSome_map, ← HN.out.2.1, ByteArray.toList_eq]; by_cases hq : Lib.decDigits v = s.data.toList <;> simp [hq]
  ·intro c hc
   obtain ⟨n, hn, rfl⟩ := aa hc;rw [HN.out.2.2 n hn]
 ·have HN := hid (zY hno)
  clear hno;go_wp2_with fail;go_ret
  exact Bq HS.out.2 HS.out.1 (by rw [HN.out]; rfl) (fun c hc => by rw [HN.out] at hc; cases hc)
structure Lq (B : Nat) (w : World) : Prop where
 lv : Lv B w
 mx : ∃ m, w.cell? ⟨0, 0, none⟩ = some (.int .i64 m)
 ml : 0 < B
theorem Lq.below {B : Nat} {w w' : World} (h : Lq B w) (hb : Below B w w') : Lq B w' := ⟨h.lv.below hb, by obtain ⟨m, hm⟩ := h.mx; exact ⟨m, (hb.cell h.ml).trans hm⟩, h.ml⟩
theorem Lq.mono {B B' : Nat} {w : World} (h : Lq B w) (hB : B ≤ B') : Lq B' w := ⟨h.lv.mono hB, h.mx, by have := h.ml; omega⟩
theorem Cn (c : UInt8) (s : ByteArray) (w : World) (hs : s.size ≤ 1000000) (hL : Lq w.1.size w) :
  Calls Tryz.prog 59 #[.string s, .string ⟨#[c]⟩] w fun e w' => e = .returned (.slice (some ⟨w.1.size, 0, none⟩) (cuts c s.data.toList).length (cuts c s.data.toList).length) ∧ w' = w.alloc (.cells (strs (cuts c s.data.toList)).toArray 9) := by
 obtain ⟨m, hm⟩ := hL.mx;refine (Tryz.strings_Split s ⟨#[c]⟩ m w (by omega) hm (by simp [ByteArray.size])).mono ?_;rintro e w' ⟨rfl, rfl⟩;rw [zZ, ← ql];refine ⟨rfl, ?_⟩
 congr 3
 simp only [strs, List.map_map];apply List.map_congr_left;intro b _;simp
def mX (w : World) (S : Nat → Prop) (l : List (List UInt8)) (v : Value) : Prop := Sl w S true 1 l.length (strs l) v
theorem mX.at {w : World} {S : Nat → Prop} {l : List (List UInt8)} {ad : Option Addr} {cap : Nat} (h : mX w S l (.slice ad l.length cap)) (hn : 0 < l.length) :
  ∃ bl off, ad = some ⟨bl, off, none⟩ ∧ S bl ∧ ∀ j (hj : j < l.length), w.cell? ⟨bl, off + j, none⟩ = some (.string ⟨l[j].toArray⟩) := by
 obtain ⟨bl, off, h1, h2, h3⟩ := Sl.cells h hn;refine ⟨bl, off, h1, h2, fun j hj => ?_⟩;have := (h3 j (by rw [ic]; exact hj)).1;rw [this]; simp [strs]
theorem mX.alloc (w : World) (l : List (List UInt8)) (T : TypeId) (hl : l.length ≤ 9223372036854775807) : mX (w.alloc (.cells (strs l).toArray T)) (fun b => b = w.1.size) l (.slice (some ⟨w.1.size, 0, none⟩) l.length l.length) := by
 refine ⟨by rw [ic]; omega, hl, _, _, rfl, Nat.le_refl _, fun _ => ⟨_, _, rfl, rfl, fun j hj => ⟨?_, fun _ => ?_⟩⟩⟩
 ·rw [ax _ _ _ _ _ _ (aK w _ _ rfl), Nat.zero_add, List.getElem?_toArray, af hj]
 ·rw [aA _ _ _ _ _ (aK w _ _ rfl)]
theorem wI (w : World) : Calls Tryz.prog 104 #[] w fun e w' => e = .returned (.agg #[.string ⟨#[114, 101, 97, 100]⟩, .func (.func 144) #[] #[], .func (.func 145) #[] #[], .func (.func 146) #[] #[], .func (.func 148) #[] #[], .func (.func 150) #[] #[]]) ∧ Below w.1.size w w' := by
 go_enter Tryz.func104, Tryz.ntmps104
 go_wp2_with (refine wpList_store_row rfl 150 (.tmp 0) (.tmp 1) rfl rfl w.1.size rfl _ rfl 150 #[.string ⟨#[]⟩, .nilFunc, .nilFunc, .nilFunc, .nilFunc, .nilFunc] (aK _ _ _ rfl) (by kernel_rfl) rfl (by simp [Value.oneCell']) ?_)
 exact aC (v := .agg #[.string ⟨#[114, 101, 97, 100]⟩, .func (.func 144) #[] #[], .func (.func 145) #[] #[], .func (.func 146) #[] #[], .func (.func 148) #[] #[], .func (.func 150) #[] #[]]) (results_cell_row rfl _ _ w.1.size 150 _ _ _ rfl (aB _ _ _ _ _ _ (aK _ _ _ rfl)) Tryz.underlying150 rfl (by kernel_rfl)) rfl ⟨rfl, below_setRow (br.alloc nl _) _ _ nl⟩
theorem uz (w : World) : Calls Tryz.prog 105 #[] w fun e w' => e = .returned (.agg #[.string ⟨#[119, 114, 105, 116, 101]⟩, .func (.func 152) #[] #[], .func (.func 153) #[] #[], .func (.func 154) #[] #[], .func (.func 155) #[] #[], .func (.func 156) #[] #[]]) ∧ Below w.1.size w w' := by
 go_enter Tryz.func105, Tryz.ntmps105
 go_wp2_with (refine wpList_store_row rfl 150 (.tmp 0) (.tmp 1) rfl rfl w.1.size rfl _ rfl 150 #[.string ⟨#[]⟩, .nilFunc, .nilFunc, .nilFunc, .nilFunc, .nilFunc] (aK _ _ _ rfl) (by kernel_rfl) rfl (by simp [Value.oneCell']) ?_)
 exact aC (v := .agg #[.string ⟨#[119, 114, 105, 116, 101]⟩, .func (.func 152) #[] #[], .func (.func 153) #[] #[], .func (.func 154) #[] #[], .func (.func 155) #[] #[], .func (.func 156) #[] #[]]) (results_cell_row rfl _ _ w.1.size 150 _ _ _ rfl (aB _ _ _ _ _ _ (aK _ _ _ rfl)) Tryz.underlying150 rfl (by kernel_rfl)) rfl ⟨rfl, below_setRow (br.alloc nl _) _ _ nl⟩
theorem rH (w : World) : Calls Tryz.prog 106 #[] w fun e w' => e = .returned (.agg #[.string ⟨#[100, 101, 108, 101, 116, 101]⟩, .func (.func 157) #[] #[], .func (.func 158) #[] #[], .func (.func 159) #[] #[], .func (.func 160) #[] #[], .func (.func 161) #[] #[]]) ∧ Below w.1.size w w' := by
 go_enter Tryz.func106, Tryz.ntmps106
 go_wp2_with (refine wpList_store_row rfl 150 (.tmp 0) (.tmp 1) rfl rfl w.1.size rfl _ rfl 150 #[.string ⟨#[]⟩, .nilFunc, .nilFunc, .nilFunc, .nilFunc, .nilFunc] (aK _ _ _ rfl) (by kernel_rfl) rfl (by simp [Value.oneCell']) ?_)
 exact aC (v := .agg #[.string ⟨#[100, 101, 108, 101, 116, 101]⟩, .func (.func 157) #[] #[], .func (.func 158) #[] #[], .func (.func 159) #[] #[], .func (.func 160) #[] #[], .func (.func 161) #[] #[]]) (results_cell_row rfl _ _ w.1.size 150 _ _ _ rfl (aB _ _ _ _ _ _ (aK _ _ _ rfl)) Tryz.underlying150 rfl (by kernel_rfl)) rfl ⟨rfl, below_setRow (br.alloc nl _) _ _ nl⟩
theorem wJ (w : World) : Calls Tryz.prog 107 #[] w fun e w' => e = .returned (.agg #[.string ⟨#[112, 114, 101, 100]⟩, .func (.func 162) #[] #[], .func (.func 163) #[] #[], .func (.func 166) #[] #[], .func (.func 169) #[] #[], .func (.func 171) #[] #[]]) ∧ Below w.1.size w w' := by
 go_enter Tryz.func107, Tryz.ntmps107
 go_wp2_with (refine wpList_store_row rfl 150 (.tmp 0) (.tmp 1) rfl rfl w.1.size rfl _ rfl 150 #[.string ⟨#[]⟩, .nilFunc, .nilFunc, .nilFunc, .nilFunc, .nilFunc] (aK _ _ _ rfl) (by kernel_rfl) rfl (by simp [Value.oneCell']) ?_)
 exact aC (v := .agg #[.string ⟨#[112, 114, 101, 100]⟩, .func (.func 162) #[] #[], .func (.func 163) #[] #[], .func (.func 166) #[] #[], .func (.func 169) #[] #[], .func (.func 171) #[] #[]]) (results_cell_row rfl _ _ w.1.size 150 _ _ _ rfl (aB _ _ _ _ _ _ (aK _ _ _ rfl)) Tryz.underlying150 rfl (by kernel_rfl)) rfl ⟨rfl, below_setRow (br.alloc nl _) _ _ nl⟩
def ig : Value := .agg #[.string ⟨#[]⟩, .nilFunc, .nilFunc, .nilFunc, .nilFunc, .nilFunc,
 .string ⟨#[98, 101, 103, 105, 110]⟩, .func (.func 98) #[] #[], .func (.func 99) #[] #[], .func (.func 100) #[] #[], .func (.func 101) #[] #[], .func (.func 102) #[] #[],
 .string ⟨#[114, 101, 97, 100]⟩, .func (.func 144) #[] #[], .func (.func 145) #[] #[], .func (.func 146) #[] #[], .func (.func 148) #[] #[], .func (.func 150) #[] #[],
 .string ⟨#[119, 114, 105, 116, 101]⟩, .func (.func 152) #[] #[], .func (.func 153) #[] #[], .func (.func 154) #[] #[], .func (.func 155) #[] #[], .func (.func 156) #[] #[],
 .string ⟨#[100, 101, 108, 101, 116, 101]⟩, .func (.func 157) #[] #[], .func (.func 158) #[] #[], .func (.func 159) #[] #[], .func (.func 160) #[] #[], .func (.func 161) #[] #[],
 .string ⟨#[112, 114, 101, 100]⟩, .func (.func 162) #[] #[], .func (.func 163) #[] #[], .func (.func 166) #[] #[], .func (.func 169) #[] #[], .func (.func 171) #[] #[],
 .string ⟨#[99, 111, 109, 109, 105, 116]⟩, .func (.func 98) #[] #[], .func (.func 99) #[] #[], .func (.func 100) #[] #[], .func (.func 101) #[] #[], .func (.func 102) #[] #[],
 .string ⟨#[97, 98, 111, 114, 116]⟩, .func (.func 98) #[] #[], .func (.func 99) #[] #[], .func (.func 100) #[] #[], .func (.func 101) #[] #[], .func (.func 102) #[] #[]]
def aV (n : Nat) : Array Value :=
 if n = 1 then #[.string ⟨#[98, 101, 103, 105, 110]⟩, .func (.func 98) #[] #[], .func (.func 99) #[] #[], .func (.func 100) #[] #[], .func (.func 101) #[] #[], .func (.func 102) #[] #[]] else if n = 2 then #[.string ⟨#[114, 101, 97, 100]⟩, .func (.func 144) #[] #[], .func (.func 145) #[] #[], .func (.func 146) #[] #[], .func (.func 148) #[] #[], .func (.func 150) #[] #[]] else if n = 3 then #[.string ⟨#[119, 114, 105, 116, 101]⟩, .func (.func 152) #[] #[], .func (.func 153) #[] #[], .func (.func 154) #[] #[], .func (.func 155) #[] #[], .func (.func 156) #[] #[]] else if n = 4 then #[.string ⟨#[100, 101, 108, 101, 116, 101]⟩, .func (.func 157) #[] #[], .func (.func 158) #[] #[], .func (.func 159) #[] #[], .func (.func 160) #[] #[], .func (.func 161) #[] #[]] else if n = 5 then #[.string ⟨#[112, 114, 101, 100]⟩, .func (.func 162) #[] #[], .func (.func 163) #[] #[], .func (.func 166) #[] #[], .func (.func 169) #[] #[], .func (.func 171) #[] #[]]
 else if n = 6 then #[.string ⟨#[99, 111, 109, 109, 105, 116]⟩, .func (.func 98) #[] #[], .func (.func 99) #[] #[], .func (.func 100) #[] #[], .func (.func 101) #[] #[], .func (.func 102) #[] #[]] else if n = 7 then #[.string ⟨#[97, 98, 111, 114, 116]⟩, .func (.func 98) #[] #[], .func (.func 99) #[] #[], .func (.func 100) #[] #[], .func (.func 101) #[] #[], .func (.func 102) #[] #[]] else #[.string ⟨#[]⟩, .nilFunc, .nilFunc, .nilFunc, .nilFunc, .nilFunc]
theorem rJ (k : Nat) (h : k ≤ 7) (w : World) : (Instr.index 151 ig (.int .i64 k)).run Tryz.prog w = .ok (.agg (aV k)) w := by
 have hc : k = 0 ∨ k = 1 ∨ k = 2 ∨ k = 3 ∨ k = 4 ∨ k = 5 ∨ k = 6 ∨ k = 7 := by omega
 rcases hc with rfl | rfl | rfl | rfl | rfl | rfl | rfl | rfl
 all_goals (show _ = _; kernel_rfl)
theorem jV (wd : ByteArray) (nb : Nat) (T : TypeId) (w : World) (hh : w.1[nb]? = some (.cells #[.string ⟨#[]⟩, .func (.func 98) #[] #[], .func (.func 99) #[] #[], .func (.func 100) #[] #[], .func (.func 101) #[] #[], .func (.func 102) #[] #[]] T (0, 0))) :
  Calls Tryz.prog 103 #[.string wd, .pointer (some ⟨nb, 0, none⟩)] w fun e w' => e = .returned (.agg #[.string wd, .func (.func 98) #[] #[], .func (.func 99) #[] #[], .func (.func 100) #[] #[], .func (.func 101) #[] #[], .func (.func 102) #[] #[]]) ∧ Below w.1.size w w' := by
 have hlt : nb < w.1.size := (ak hh).1;have c0 : w.cell? ⟨nb, 0, none⟩ = some (.string ⟨#[]⟩) := by rw [ax w _ 0 _ _ _ hh]; rfl
 have c1 : w.cell? ⟨nb, 1, none⟩ = some (.func (.func 98) #[] #[]) := by rw [ax w _ 1 _ _ _ hh]; rfl
 have c2 : w.cell? ⟨nb, 2, none⟩ = some (.func (.func 99) #[] #[]) := by rw [ax w _ 2 _ _ _ hh]; rfl
 have c3 : w.cell? ⟨nb, 3, none⟩ = some (.func (.func 100) #[] #[]) := by rw [ax w _ 3 _ _ _ hh]; rfl
 have c4 : w.cell? ⟨nb, 4, none⟩ = some (.func (.func 101) #[] #[]) := by rw [ax w _ 4 _ _ _ hh]; rfl
 have c5 : w.cell? ⟨nb, 5, none⟩ = some (.func (.func 102) #[] #[]) := by rw [ax w _ 5 _ _ _ hh]; rfl
 clear hh
 go_enter Tryz.func103, Tryz.ntmps103
 go_wp2_with fail;exact aC (v := .agg #[.string wd, .func (.func 98) #[] #[], .func (.func 99) #[] #[], .func (.func 100) #[] #[], .func (.func 101) #[] #[], .func (.func 102) #[] #[]]) (results_cell_row rfl _ _ w.1.size 150 _ _ _ rfl (heap_alloc2_old _ _ _) Tryz.underlying150 rfl (by kernel_rfl)) rfl
  ⟨rfl, (br.alloc nl _).alloc (by simp) _⟩
theorem jW (w : World) : Calls Tryz.prog 60 #[] w fun e w' => e = .returned ig ∧ Below w.1.size w w' := by
 go_enter Tryz.func60, Tryz.ntmps60
 go_wp2_with (refine wpList_store_row rfl 150 (.tmp 1) (.tmp 3) rfl rfl (w.1.size + 1) rfl _ rfl 150 #[.string ⟨#[]⟩, .nilFunc, .nilFunc, .nilFunc, .nilFunc, .nilFunc] (aK _ _ _ (by simp)) (by kernel_rfl) rfl (by simp [Value.oneCell']) ?_)
 obtain ⟨W, hW⟩ : ∃ W, W = (((w.alloc (.cells #[.string ⟨#[]⟩, .nilFunc, .nilFunc, .nilFunc, .nilFunc, .nilFunc, .string ⟨#[]⟩, .nilFunc, .nilFunc, .nilFunc, .nilFunc, .nilFunc, .string ⟨#[]⟩, .nilFunc, .nilFunc, .nilFunc, .nilFunc, .nilFunc, .string ⟨#[]⟩, .nilFunc, .nilFunc, .nilFunc, .nilFunc, .nilFunc, .string ⟨#[]⟩, .nilFunc, .nilFunc, .nilFunc, .nilFunc, .nilFunc, .string ⟨#[]⟩, .nilFunc, .nilFunc, .nilFunc, .nilFunc, .nilFunc, .string ⟨#[]⟩, .nilFunc, .nilFunc, .nilFunc, .nilFunc, .nilFunc, .string ⟨#[]⟩, .nilFunc, .nilFunc, .nilFunc, .nilFunc, .nilFunc] 151)).alloc (.cells #[.string ⟨#[]⟩, .nilFunc, .nilFunc, .nilFunc, .nilFunc, .nilFunc] 150)).setRow (w.1.size + 1) #[.string ⟨#[]⟩, .func (.func 98) #[] #[], .func (.func 99) #[] #[], .func (.func 100) #[] #[], .func (.func 101) #[] #[], .func (.func 102) #[] #[]]) := ⟨_, rfl⟩;have hN : W.1[w.1.size + 1]? = some (.cells #[.string ⟨#[]⟩, .func (.func 98) #[] #[], .func (.func 99) #[] #[], .func (.func 100) #[] #[], .func (.func 101) #[] #[], .func (.func 102) #[] #[]] 150 (0, 0)) := by rw [hW]; exact aB _ _ _ _ _ _ (aK _ _ _ (by simp))
 have hZ : W.1[w.1.size]? = some (.cells #[.string ⟨#[]⟩, .nilFunc, .nilFunc, .nilFunc, .nilFunc, .nilFunc, .string ⟨#[]⟩, .nilFunc, .nilFunc, .nilFunc, .nilFunc, .nilFunc, .string ⟨#[]⟩, .nilFunc, .nilFunc, .nilFunc, .nilFunc, .nilFunc, .string ⟨#[]⟩, .nilFunc, .nilFunc, .nilFunc, .nilFunc, .nilFunc, .string ⟨#[]⟩, .nilFunc, .nilFunc, .nilFunc, .nilFunc, .nilFunc, .string ⟨#[]⟩, .nilFunc, .nilFunc, .nilFunc, .nilFunc, .nilFunc, .string ⟨#[]⟩, .nilFunc, .nilFunc, .nilFunc, .nilFunc, .nilFunc, .string ⟨#[]⟩, .nilFunc, .nilFunc, .nilFunc, .nilFunc, .nilFunc] 151 (0, 0)) := by rw [hW]; exact (setRow_other _ _ _ _ (by simp)).trans (heap_alloc2_old _ _ _)
 have hB : Below w.1.size w W := by rw [hW]; exact below_setRow ((br.alloc nl _).alloc (by simp) _) _ _ (by omega)
 rw [← hW];have lN : w.1.size + 1 < W.1.size := (ak hN).1;have HW := hid (au hN (au hZ hB));clear hW hN hZ hB;refine (jV ⟨#[98, 101, 103, 105, 110]⟩ (w.1.size + 1) _ _ HW.out.1).mono ?_;rintro e w1 ⟨rfl, hb1⟩;go_wp2_with fail;refine (wI _).mono ?_;rintro e w2 ⟨rfl, hb2⟩;go_wp2_with fail;refine (uz _).mono ?_;rintro e w3 ⟨rfl, hb3⟩;go_wp2_with fail;refine (rH _).mono ?_;rintro e w4 ⟨rfl, hb4⟩;go_wp2_with fail;refine (wJ _).mono ?_;rintro e w5 ⟨rfl, hb5⟩;have s1 := hb1.size;have s2 := hb2.size;have s3 := hb3.size;have s4 := hb4.size;have s5 := hb5.size;have hb : Below W.1.size W w5 := hb1.trans ((hb2.mono s1).trans ((hb3.mono (by omega)).trans ((hb4.mono (by omega)).trans (hb5.mono (by omega)))));have HB := hid hb;clear hb hb1 hb2 hb3 hb4 hb5;go_wp2_with fail;refine (jV ⟨#[99, 111, 109, 109, 105, 116]⟩ (w.1.size + 1) _ _ ((HB.out.block _ lN).trans HW.out.1)).mono ?_;rintro e w6 ⟨rfl, hb6⟩;have s6 := hb6.size;have HB6 := hid (HB.out.trans (hb6.mono HB.out.size));clear hb6;go_wp2_with fail;refine (jV ⟨#[97, 98, 111, 114, 116]⟩ (w.1.size + 1) _ _ ((HB6.out.block _ lN).trans HW.out.1)).mono ?_;rintro e w7 ⟨rfl, hb7⟩;have HB7 := hid (HB6.out.trans (hb7.mono HB6.out.size));clear hb7;have HZ := hid ((HB7.out.block _ (by omega)).trans HW.out.2.1)
 go_wp2_with (refine wpList_store_row rfl 151 (.tmp 0) (.tmp 15) rfl rfl w.1.size rfl _ rfl 151 _ HZ.out (by kernel_rfl) rfl (by simp [Value.oneCell']) ?_)
 exact aC (v := ig) (results_cell_row rfl _ _ w.1.size 151 _ _ _ rfl (aB _ _ _ _ _ _ HZ.out) Tryz.underlying151 rfl (by kernel_rfl)) rfl ⟨rfl, below_setRow (HW.out.2.2.trans (HB7.out.mono (by omega))) _ _ nl⟩
theorem bT (n : Nat) : (aV n).size = 6 := by
 unfold aV
 repeat' split
 all_goals rfl
theorem gX (n : Nat) : ∀ v ∈ (aV n).toList, v.oneCell' = true := by
 unfold aV
 repeat' split
 all_goals simp [Value.oneCell']
def Gy (n : Int) (w : World) (e : Ending) (w' : World) : Prop :=
 ((∃ k : Nat, n = (k : Int) ∧ 1 ≤ k ∧ k ≤ 7 ∧ e = .returned (.tuple #[.agg (aV k), .bool true])) ∨ (¬ (1 ≤ n ∧ n ≤ 7) ∧ e = .returned (.tuple #[.agg #[.string ⟨#[]⟩, .nilFunc, .nilFunc, .nilFunc, .nilFunc, .nilFunc], .bool false]))) ∧ Below w.1.size w w'
theorem vg (n : Int) (w : World) (h0 : -9223372036854775808 ≤ n) (h1 : n ≤ 9223372036854775807) : Calls Tryz.prog 68 #[.int .i64 n] w (Gy n w) := by
 have hp : Below w.1.size w (w.alloc (.cells #[.string ⟨#[]⟩, .nilFunc, .nilFunc, .nilFunc, .nilFunc, .nilFunc] 150)) := br.alloc nl _;have HP := hid hp;clear hp;by_cases hn : n < 1
 ·have t1 : decide (n < 1) = true := by simp; omega
  go_enter Tryz.func68, Tryz.ntmps68
  go_wp2_with (refine wpList_store_row rfl 150 (.tmp 2) (.tmp 10) rfl rfl w.1.size rfl _ rfl 150 #[.string ⟨#[]⟩, .nilFunc, .nilFunc, .nilFunc, .nilFunc, .nilFunc] (aK _ _ _ rfl) (by kernel_rfl) rfl (by simp [Value.oneCell']) ?_)
  exact aC (v := .tuple #[.agg #[.string ⟨#[]⟩, .nilFunc, .nilFunc, .nilFunc, .nilFunc, .nilFunc], .bool false]) (aN rfl _ _ w.1.size 150 _ _ _ _ rfl (aB _ _ _ _ _ _ (aK _ _ _ rfl)) Tryz.underlying150 rfl (by kernel_rfl) rfl) rfl ⟨.inr ⟨by omega, rfl⟩, below_setRow HP.out _ _ nl⟩
 ·obtain ⟨k, rfl⟩ := Int.eq_ofNat_of_zero_le (show 0 ≤ n by omega)
  have t1 : decide ((k : Int) < 1) = false := by simp; omega
  by_cases h7 : 7 < k
  ·have t2 : decide ((7 : Int) < (k : Int)) = true := by simp; omega
   go_enter Tryz.func68, Tryz.ntmps68
   go_wp2_with (refine wpList_store_row rfl 150 (.tmp 2) (.tmp 10) rfl rfl w.1.size rfl _ rfl 150 #[.string ⟨#[]⟩, .nilFunc, .nilFunc, .nilFunc, .nilFunc, .nilFunc] (aK _ _ _ rfl) (by kernel_rfl) rfl (by simp [Value.oneCell']) ?_)
   exact aC (v := .tuple #[.agg #[.string ⟨#[]⟩, .nilFunc, .nilFunc, .nilFunc, .nilFunc, .nilFunc], .bool false]) (aN rfl _ _ w.1.size 150 _ _ _ _ rfl (aB _ _ _ _ _ _ (aK _ _ _ rfl)) Tryz.underlying150 rfl (by kernel_rfl) rfl) rfl ⟨.inr ⟨by omega, rfl⟩, below_setRow HP.out _ _ nl⟩
  ·have t2 : decide ((7 : Int) < (k : Int)) = false := by simp; omega
   go_enter Tryz.func68, Tryz.ntmps68
   go_wp2_with fail;refine (jW _).mono ?_;rintro e w1 ⟨rfl, hb1⟩;have hi := rJ k (by omega);obtain ⟨T, hT⟩ : ∃ T, T = ig := ⟨_, rfl⟩;rw [← hT] at hi ⊢;clear hT;have hz : w1.1[w.1.size]? = some (.cells #[.string ⟨#[]⟩, .nilFunc, .nilFunc, .nilFunc, .nilFunc, .nilFunc] 150 (0, 0)) := (hb1.block _ (by simp)).trans (aK _ _ _ rfl);have HZ := hid (au hz (HP.out.trans (hb1.mono (by simp))));clear hz hb1
   go_wp2_with (refine wpList_store_row rfl 150 (.tmp 2) (.tmp 13) rfl rfl w.1.size rfl (aV k) rfl 150 #[.string ⟨#[]⟩, .nilFunc, .nilFunc, .nilFunc, .nilFunc, .nilFunc] HZ.out.1 (by rw [bT]; kernel_rfl) (by rw [bT]; rfl) (gX k) ?_)
   exact aC (v := .tuple #[.agg (aV k), .bool true]) (aN rfl _ _ w.1.size 150 _ _ _ _ rfl (aB _ _ _ _ _ _ HZ.out.1) Tryz.underlying150 rfl (by rw [bT]; kernel_rfl) rfl) rfl ⟨.inl ⟨k, rfl, by omega, by omega, rfl⟩, below_setRow HZ.out.2 _ _ nl⟩
end Go.Proofs.YtlpgokcapdjgjaaGreatDoor
