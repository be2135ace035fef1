/- Walks. -/
import Derived.Test.YtmgbhhmipmgcpaaGreatDoorYW40
import Derived.Test.YtmgbhhmipmgcpaaGreatDoorY30
set_option maxHeartbeats 4000000
set_option maxRecDepth 100000
namespace Go.Proofs.YtmgbhhmipmgcpaaGreatDoor
open Go.RowKit Go
set_option linter.unusedVariables false
set_option linter.unusedSimpArgs false
theorem fe (rb : Nat) (l : List UInt8) (sv : Value) (s s1 : Option (List UInt8)) (n : Nat) (w : World) (h : VrS w rb l sv s) (hn : aW s = (n, s1)) :
  Calls Tryz.prog 38 #[.pointer (some ⟨rb, 0, none⟩)] w fun r w' => r = .returned (.int .u64 (n : Nat)) ∧ VrS w' rb l sv s1 ∧ Rg rb w w' := by
 have := qo rb l sv s w h
 rw [hn] at this
 exact this
structure RdS (w : World) (pb rb : Nat) (l : List UInt8) (sv : Value) (s : Option (List UInt8)) (f : Bool) : Prop where
 hd : w.heap[pb]? = some (.cells #[.pointer (some ⟨rb, 0, none⟩), .bool f] 96 (0, 0))
 vr : VrS w rb l sv s
 lt : rb < pb
theorem RdS.plt {w : World} {pb rb : Nat} {l : List UInt8} {sv : Value} {s : Option (List UInt8)} {f : Bool} (h : RdS w pb rb l sv s f) : pb < w.heap.size := (Array.getElem?_eq_some_iff.1 h.hd).1
theorem RdS.c0 {w : World} {pb rb : Nat} {l : List UInt8} {sv : Value} {s : Option (List UInt8)} {f : Bool} (h : RdS w pb rb l sv s f) : w.cell? ⟨pb, 0, none⟩ = some (.pointer (some ⟨rb, 0, none⟩)) := by rw [cell_of_row w _ 0 _ _ _ h.hd]; rfl
theorem RdS.c1 {w : World} {pb rb : Nat} {l : List UInt8} {sv : Value} {s : Option (List UInt8)} {f : Bool} (h : RdS w pb rb l sv s f) : w.cell? ⟨pb, 1, none⟩ = some (.bool f) ∧ w.frozen? ⟨pb, 1, none⟩ = false := ⟨by rw [cell_of_row w _ 1 _ _ _ h.hd]; rfl, by rw [frozen_of_row w _ 1 _ _ h.hd]⟩
theorem RdS.below {w w' : World} {pb rb : Nat} {l : List UInt8} {sv : Value} {s : Option (List UInt8)} {f : Bool} (h : RdS w pb rb l sv s f) (hb : Below w.heap.size w w') : RdS w' pb rb l sv s f := ⟨(hb.block _ h.plt).trans h.hd, h.vr.below hb, h.lt⟩
theorem RdS.step {w w' : World} {pb rb : Nat} {l : List UInt8} {sv : Value} {s s' : Option (List UInt8)} {f : Bool} (h : RdS w pb rb l sv s f) (hv : VrS w' rb l sv s') (hg : Rg rb w w') : RdS w' pb rb l sv s' f := ⟨(hg.keep _ h.plt (by have := h.lt; omega)).trans h.hd, hv, h.lt⟩
theorem RdS.keep {w w' : World} {pb rb : Nat} {l : List UInt8} {sv : Value} {s : Option (List UInt8)} {f : Bool} (h : RdS w pb rb l sv s f) (hk : ∀ b, b ≤ pb → w'.heap[b]? = w.heap[b]?) : RdS w' pb rb l sv s f := ⟨(hk pb nl).trans h.hd, h.vr.keep (fun b hb => hk b (by have := h.lt; omega)), h.lt⟩
structure RdZ (W : World) (pb rb gg : Nat) (l : List UInt8) (sv : Value) (f : Bool) (T : TypeId) (sts : List (Option (List UInt8))) (rows : List (Array Value)) (t : Nat) (vs : Nat → Value) (w : World) : Prop where
 rd : ∃ s, sts[t]? = some s ∧ RdS w pb rb l sv s f
 bx : ∃ r, rows[t]? = some r ∧ w.heap[gg]? = some (.cells r T (0, 0))
 rk : Rk (fun b => b = rb ∨ b = gg) W w
 lt : pb < gg
section
variable {W w w' : World} {pb rb gg : Nat} {l : List UInt8} {sv : Value} {f : Bool} {T : TypeId} {sts : List (Option (List UInt8))} {rows : List (Array Value)} {t : Nat} {vs : Nat → Value}
theorem RdZ.at (h : RdZ W pb rb gg l sv f T sts rows t vs w) {s : Option (List UInt8)} (hs : sts[t]? = some s) : RdS w pb rb l sv s f := by
 obtain ⟨s', h1, h2⟩ := h.rd
 rw [hs] at h1
 injection h1 with h1
 rw [h1]; exact h2
theorem RdZ.st (h : RdZ W pb rb gg l sv f T sts rows t vs w) {s : Option (List UInt8)} (hs : sts[t]? = some s) : VrS w rb l sv s := (h.at hs).vr
theorem RdZ.box (h : RdZ W pb rb gg l sv f T sts rows t vs w) {r : Array Value} (hr : rows[t]? = some r) : w.heap[gg]? = some (.cells r T (0, 0)) := by
 obtain ⟨r', h1, h2⟩ := h.bx
 rw [hr] at h1
 injection h1 with h1
 rw [h1]; exact h2
theorem RdZ.c0 (h : RdZ W pb rb gg l sv f T sts rows t vs w) : w.cell? ⟨pb, 0, none⟩ = some (.pointer (some ⟨rb, 0, none⟩)) := by
 obtain ⟨s', h1, h2⟩ := h.rd
 exact h2.c0
theorem RdZ.num {s1 : Option (List UInt8)} {r : Array Value} {i : Nat} {u : Value} (h : RdZ W pb rb gg l sv f T sts rows t vs w) (hs : sts[t + 1]? = some s1) (hr : rows[t]? = some r) (hr2 : rows[t + 1]? = some r) (hv : VrS w' rb l sv s1) (hg : Rg rb w w') :
  RdZ W pb rb gg l sv f T sts rows (t + 1) (upd vs i u) w' := by
 obtain ⟨s', h1, h2⟩ := h.rd
 have hb := h.box hr
 have hl := h.lt
 have hl2 := h2.lt
 exact ⟨⟨s1, hs, h2.step hv hg⟩, ⟨r, hr2, (hg.keep _ (Array.getElem?_eq_some_iff.1 hb).1 (by omega)).trans hb⟩, h.rk.trans' ⟨hg.os, hg.tape, hg.output, hg.size, fun b hb hn => hg.keep b hb hn⟩ (fun i _ hi => .inl hi), hl⟩
theorem RdZ.sto {s : Option (List UInt8)} {r : Array Value} {i : Nat} {u : Value} (h : RdZ W pb rb gg l sv f T sts rows t vs w) (o : Nat) (v : Value) (hs : sts[t]? = some s) (hs2 : sts[t + 1]? = some s) (hr : rows[t]? = some r) (hr2 : rows[t + 1]? = some (r.setIfInBounds o v)) :
  RdZ W pb rb gg l sv f T sts rows (t + 1) (upd vs i u) (w.setCell ⟨gg, o, none⟩ v) := by
 have h2 := h.at hs
 have hb := h.box hr
 have hl := h.lt
 have hsz := h.rk.size
 refine ⟨⟨s, hs2, h2.keep (fun b hb => Below.heap_setCell _ _ _ _ (by simp; omega))⟩, ⟨_, hr2, af hb rfl⟩, ⟨h.rk.os, h.rk.tape, h.rk.output, by simpa using hsz, fun b hbl hn => ?_⟩, hl⟩
 exact (Below.heap_setCell _ _ _ _ (by simp only [ne_eq]; intro e; exact hn (.inr e))).trans (h.rk.keep b hbl hn)
theorem RdZ.start {s : Option (List UInt8)} {r : Array Value} (h : RdS w pb rb l sv s f) (hb : w.heap[gg]? = some (.cells r T (0, 0))) (hl : pb < gg) (hs : sts[0]? = some s) (hr : rows[0]? = some r) : RdZ w pb rb gg l sv f T sts rows 0 vs w.drew :=
 ⟨⟨s, hs, h.below br.drew⟩, ⟨r, hr, hb⟩, Rk.of_below br.drew, hl⟩
end
theorem BV {W W0 w : World} {rb gg : Nat} (h : Rk (fun b => b = rb ∨ b = gg) W w) (h0 : Below W0.heap.size W0 W) (hg : W0.heap.size ≤ gg) : Rg rb W0 w :=
 ⟨h.os.trans h0.os, h.tape.trans h0.tape, h.output.trans h0.output, Nat.le_trans h0.size h.size, fun b hb hn => (h.keep b (by have := h0.size; omega) (by intro e; rcases e with e | e <;> omega)).trans (h0.block b hb)⟩
theorem RdZ.sto2 {W w : World} {pb rb gg : Nat} {l : List UInt8} {sv : Value} {f : Bool} {T : TypeId} {sts : List (Option (List UInt8))} {rows : List (Array Value)} {t : Nat} {vs : Nat → Value} {s : Option (List UInt8)} {r : Array Value} {i : Nat} {u : Value} (h : RdZ W pb rb gg l sv f T sts rows t vs w) (o o' : Nat) (v v' : Value) (hs : sts[t]? = some s) (hs2 : sts[t + 1]? = some s) (hr : rows[t]? = some r) (hr2 : rows[t + 1]? = some ((r.setIfInBounds o v).setIfInBounds o' v')) :
  RdZ W pb rb gg l sv f T sts rows (t + 1) (upd vs i u) ((w.setCell ⟨gg, o, none⟩ v).setCell ⟨gg, o', none⟩ v') := by
 have h2 := h.at hs
 have hb := h.box hr
 have hl := h.lt
 have hsz := h.rk.size
 refine ⟨⟨s, hs2, h2.keep (fun b hb => (Below.heap_setCell _ _ _ _ (by simp; omega)).trans (Below.heap_setCell _ _ _ _ (by simp; omega)))⟩, ⟨_, hr2, af (af hb rfl) rfl⟩, ⟨h.rk.os, h.rk.tape, h.rk.output, by simpa using hsz, fun b hbl hn => ?_⟩, hl⟩
 exact ((Below.heap_setCell _ _ _ _ (by simp only [ne_eq]; intro e; exact hn (.inr e))).trans (Below.heap_setCell _ _ _ _ (by simp only [ne_eq]; intro e; exact hn (.inr e)))).trans (h.rk.keep b hbl hn)
theorem kF (pb rb : Nat) (l : List UInt8) (sv : Value) (s s2 : Option (List UInt8)) (f : Bool) (a b : Nat) (w : World) (h : RdS w pb rb l sv s f) (hv : iw s = ((a, b), s2)) :
  Calls Tryz.prog 117 #[.pointer (some ⟨pb, 0, none⟩)] w fun e w' => e = .returned (.agg #[.int .u64 (a : Nat), .int .u64 (b : Nat)]) ∧ VrS w' rb l sv s2 ∧ Rg rb w w' := by
 obtain ⟨s1, ha, hb⟩ : ∃ s1, aW s = (a, s1) ∧ aW s1 = (b, s2) := by
  unfold iw at hv
  simp only [Prod.mk.injEq] at hv
  obtain ⟨⟨rfl, rfl⟩, rfl⟩ := hv
  exact ⟨_, rfl, rfl⟩
 have hb1 : Below w.heap.size w (w.alloc (.cells #[.int .u64 0, .int .u64 0] 41)) := br.alloc nl _
 have hbx : (w.alloc (.cells #[.int .u64 0, .int .u64 0] 41)).heap[w.heap.size]? = some (.cells #[.int .u64 0, .int .u64 0] 41 (0, 0)) := aa _ _ _ rfl
 have hp := h.plt
 have HA := hid ha
 have HB := hid hb
 have HH := hid (And.intro (h.below hb1) (And.intro hbx hb1))
 clear h hv ha hb hb1 hbx
 go_enter Tryz.func117, Tryz.ntmps117
 go_wp2_with fail
 generalize w.alloc (.cells #[.int .u64 0, .int .u64 0] 41) = W1 at HH ⊢
 obtain ⟨gg, hgg⟩ : ∃ gg, gg = w.heap.size := ⟨_, rfl⟩
 rw [← hgg] at HH ⊢
 have HG := hid hgg
 clear hgg
 have HZ := hid (RdZ.start (sts := [s, s1, s2, s2]) (rows := [#[.int .u64 0, .int .u64 0], #[.int .u64 0, .int .u64 0], #[.int .u64 0, .int .u64 0], #[.int .u64 (a : Nat), .int .u64 (b : Nat)]]) (vs := fun _ => undef) HH.out.1 HH.out.2.1 (by have := HG.out; omega) rfl rfl)
 refine aF (w0 := W1) rfl [.eq (.pointer (some ⟨pb, 0, none⟩)), .eq (.pointer (some ⟨pb, 0, none⟩)), .eq (.pointer (some ⟨pb, 0, none⟩)), .eq (.pointer (some ⟨rb, 0, none⟩)), .weq (.int .u64 (a : Nat)), .eq (.pointer (some ⟨pb, 0, none⟩)), .eq (.pointer (some ⟨pb, 0, none⟩)), .eq (.pointer (some ⟨pb, 0, none⟩)), .eq (.pointer (some ⟨rb, 0, none⟩)), .weq (.int .u64 (b : Nat)), .eq (.agg #[.int .u64 (a : Nat), .int .u64 (b : Nat)]), .wr] (RdZ W1 pb rb gg l sv f 41 [s, s1, s2, s2] [#[.int .u64 0, .int .u64 0], #[.int .u64 0, .int .u64 0], #[.int .u64 0, .int .u64 0], #[.int .u64 (a : Nat), .int .u64 (b : Nat)]]) (by kernel_rfl) (⟨fun _ => undef, HZ.out⟩) ⟨?_, ?_, ?_, ?_, ?_, ?_, ?_, ?_, ?_, ?_, ?_, ?_, trivial⟩ (fun vs => [(3, .pointer (some ⟨pb, 0, none⟩)), (4, .pointer (some ⟨pb, 0, none⟩)), (5, .pointer (some ⟨pb, 0, none⟩)), (6, .pointer (some ⟨rb, 0, none⟩)), (7, .int .u64 (a : Nat)), (8, .pointer (some ⟨pb, 0, none⟩)), (9, .pointer (some ⟨pb, 0, none⟩)), (10, .pointer (some ⟨pb, 0, none⟩)), (11, .pointer (some ⟨rb, 0, none⟩)), (12, .int .u64 (b : Nat)), (13, .agg #[.int .u64 (a : Nat), .int .u64 (b : Nat)])]) (fun _ => rfl) 3 (by kernel_rfl) ?_
 ·refine ag.mk rfl rfl (fun t vs ac wx K Q hR hZ hK => ?_)
  have t0 : ac.tmps[0]? = some (.pointer (some ⟨pb, 0, none⟩)) := (hR.old 0 (by kernel_rfl)).trans (by kernel_rfl)
  go_simp
  exact hK _ hZ
 ·refine ag.mk rfl rfl (fun t vs ac wx K Q hR hZ hK => ?_)
  have t3 := hR.eq 0 (by kernel_rfl) rfl rfl
  go_simp
  exact hK _ hZ
 ·refine ag.mk rfl rfl (fun t vs ac wx K Q hR hZ hK => ?_)
  have t4 := hR.eq 1 (by kernel_rfl) rfl rfl
  go_simp
  exact hK _ hZ
 ·refine ag.mk rfl rfl (fun t vs ac wx K Q hR hZ hK => ?_)
  have t5 := hR.eq 2 (by kernel_rfl) rfl rfl
  have y0 := hZ.c0
  go_simp
  exact hK _ hZ
 ·refine aH.mk rfl rfl (fun vs ac wx K Q hR hZ hK => ?_)
  have t6 := hR.eq 3 (by kernel_rfl) rfl rfl
  go_simp
  go_at_call 38
  refine (fe rb l sv _ _ _ _ (hZ.st rfl) HA.out).mono ?_
  rintro e w' ⟨rfl, hs', hg'⟩
  exact hK _ _ aO (hZ.num rfl rfl rfl hs' hg')
 ·refine ag.mk rfl rfl (fun t vs ac wx K Q hR hZ hK => ?_)
  have t0 : ac.tmps[0]? = some (.pointer (some ⟨pb, 0, none⟩)) := (hR.old 0 (by kernel_rfl)).trans (by kernel_rfl)
  go_simp
  exact hK _ hZ
 ·refine ag.mk rfl rfl (fun t vs ac wx K Q hR hZ hK => ?_)
  have t8 := hR.eq 5 (by kernel_rfl) rfl rfl
  go_simp
  exact hK _ hZ
 ·refine ag.mk rfl rfl (fun t vs ac wx K Q hR hZ hK => ?_)
  have t9 := hR.eq 6 (by kernel_rfl) rfl rfl
  go_simp
  exact hK _ hZ
 ·refine ag.mk rfl rfl (fun t vs ac wx K Q hR hZ hK => ?_)
  have t10 := hR.eq 7 (by kernel_rfl) rfl rfl
  have y0 := hZ.c0
  go_simp
  exact hK _ hZ
 ·refine aH.mk rfl rfl (fun vs ac wx K Q hR hZ hK => ?_)
  have t11 := hR.eq 8 (by kernel_rfl) rfl rfl
  go_simp
  go_at_call 38
  refine (fe rb l sv _ _ _ _ (hZ.st rfl) HB.out).mono ?_
  rintro e w' ⟨rfl, hs', hg'⟩
  exact hK _ _ aO (hZ.num rfl rfl rfl hs' hg')
 ·refine ag.mk rfl rfl (fun t vs ac wx K Q hR hZ hK => ?_)
  have t7 := hR.weq 4 (by kernel_rfl) rfl rfl
  have t12 := hR.weq 9 (by kernel_rfl) rfl rfl
  go_simp
  exact hK _ hZ
 ·refine aH.mk rfl rfl (fun vs ac wx K Q hR hZ hK => ?_)
  have t2 : ac.tmps[2]? = some (.pointer (some ⟨gg, 0, none⟩)) := (hR.old 2 (by kernel_rfl)).trans (by kernel_rfl)
  have t13 := hR.eq 10 (by kernel_rfl) rfl rfl
  have hh := hZ.box rfl
  have c0 : wx.cell? ⟨gg, 0, none⟩ = some (.int .u64 0) := by rw [cell_of_row wx _ 0 _ _ _ hh]; rfl
  have c1 : wx.cell? ⟨gg, 1, none⟩ = some (.int .u64 0) := by rw [cell_of_row wx _ 1 _ _ _ hh]; rfl
  have f0 : wx.frozen? ⟨gg, 0, none⟩ = false := by rw [frozen_of_row wx _ 0 _ _ hh]
  have f1 : wx.frozen? ⟨gg, 1, none⟩ = false := by rw [frozen_of_row wx _ 1 _ _ hh]
  go_simp
  exact hK undef _ nofun (hZ.sto2 0 1 (.int .u64 (a : Nat)) (.int .u64 (b : Nat)) rfl rfl rfl rfl)
 intro vs wN hZ
 simp only [bq, List.foldl_cons, List.foldl_nil]
 have HN := hid (And.intro (hZ.box rfl) (And.intro (hZ.st rfl) hZ.rk))
 clear hZ
 go_simp
 go_wp2_with fail
 exact bodyPost_ret (v := .agg #[.int .u64 (a : Nat), .int .u64 (b : Nat)]) (results_cell_row rfl _ _ gg 41 _ _ _ rfl HN.out.1 Tryz.underlying41 rfl (by kernel_rfl)) rfl ⟨rfl, HN.out.2.1, BV HN.out.2.2 (by have := HH.out.2.2; rw [HG.out] at this; exact this) (by have := HG.out; omega)⟩
def ym (k t pb rb g : Nat) (l : List UInt8) (sv : Value) (s : Option (List UInt8)) (f : Bool) (w : World) (e : Ending) (w' : World) : Prop :=
 e = .returned (.tuple #[]) ∧ ∃ cs', w'.heap[g]? = some (.cells cs' 47 (0, 0)) ∧ bZ w' (fun b => w.heap.size ≤ b) true (eD k t s f).1 (.agg cs') ∧ RdS w' pb rb l sv (eD k t s f).2.1 (eD k t s f).2.2 ∧ Rk (fun b => b = rb ∨ b = pb ∨ b = g) w w'
def qY (k fid : Nat) : Prop := ∀ (t pb rb g : Nat) (l : List UInt8) (sv : Value) (s : Option (List UInt8)) (f : Bool) (w : World), t < 18446744073709551616 → l.length ≤ 100000 → RdS w pb rb l sv s f → pb < g → w.heap[g]? = some (.cells #[.int .i64 (k : Nat), .int .u64 (t : Nat), .int .u64 0, .int .u64 0, .int .u64 0, .int .u64 0, .int .i64 0, .int .u64 0, .int .u64 0, .slice none 0 0, .slice none 0 0] 47 (0, 0)) →
 Calls Tryz.prog fid #[.pointer (some ⟨pb, 0, none⟩), .pointer (some ⟨g, 0, none⟩)] w (ym k t pb rb g l sv s f w)
theorem kS (k : Nat) (hk : k = 1 ∨ k = 6 ∨ k = 7) : qY k 81 := by
 intro t pb rb g l sv s f w ht hl h hg hh
 have h1 : eD k t s f = (⟨k, t, 0, 0, 0, 0, .zero, []⟩, s, f) := by unfold eD; rw [if_neg (by omega), if_neg (by omega), if_neg (by omega), if_neg (by omega)]
 have H := hid (And.intro h1 (And.intro h hh))
 clear h1 h hh
 go_enter Tryz.func81, Tryz.ntmps81
 go_wp2_with fail
 go_end0
 refine ⟨rfl, _, H.out.2.2, ?_, ?_, Rk.refl _ _⟩
 ·rw [H.out.1]; exact cO w _ k t 0 0 0 0 (by omega) ht (by omega) (by omega) (by omega) (by omega)
 ·rw [H.out.1]; exact H.out.2.1
theorem uU {w w' : World} {pb rb g : Nat} (h : Rg rb w w') : Rk (fun b => b = rb ∨ b = pb ∨ b = g) w w' := ⟨h.os, h.tape, h.output, h.size, fun b hb hn => h.keep b hb (fun e => hn (.inl e))⟩
theorem sZ : qY 4 128 := by
 intro t pb rb g l sv s f w ht hl h hg hh
 obtain ⟨x, s1, hx⟩ : ∃ x s1, aW s = (x, s1) := ⟨_, _, rfl⟩
 have h1 : eD 4 t s f = (⟨4, t, x, 0, 0, 0, .zero, []⟩, s1, f) := by unfold eD; simp [hx]
 have hxl : x < 18446744073709551616 := by have := dX s; rw [hx] at this; exact this
 have c0 := h.c0
 have H := hid (And.intro h1 (And.intro h hh))
 have HX := hid hx
 have hlt := h.lt
 have hgl : g < w.heap.size := (Array.getElem?_eq_some_iff.1 hh).1
 clear h1 h hh hx
 go_enter Tryz.func128, Tryz.ntmps128
 go_wp2_with fail
 refine (fe rb l sv s s1 x w H.out.2.1.vr HX.out).mono ?_
 rintro e w1 ⟨rfl, hs1, hg1⟩
 have hh1 : w1.heap[g]? = some (.cells _ 47 (0, 0)) := (hg1.keep g hgl (by omega)).trans H.out.2.2
 have b2 : w1.cell? ⟨g, 2, none⟩ = some (.int .u64 0) := by rw [cell_of_row w1 _ 2 _ _ _ hh1]; rfl
 have f2 : w1.frozen? ⟨g, 2, none⟩ = false := by rw [frozen_of_row w1 _ 2 _ _ hh1]
 have HQ := hid (And.intro hh1 (And.intro (H.out.2.1.step hs1 hg1) hg1))
 clear hh1 hs1 hg1 c0
 go_wp2_with fail
 go_end0
 refine ⟨rfl, _, af HQ.out.1 rfl, ?_, ?_, (uU HQ.out.2.2).setCell g (.inr (.inr (.inr rfl))) 2 _⟩
 ·rw [H.out.1]; exact cO _ _ 4 t x 0 0 0 (by omega) ht hxl (by omega) (by omega) (by omega)
 ·rw [H.out.1]; exact HQ.out.2.1.keep (fun b hb => Below.heap_setCell _ _ _ _ (by simp; omega))
theorem wH : qY 2 116 := by
 intro t pb rb g l sv s f w ht hl h hg hh
 obtain ⟨x, s1, hx⟩ : ∃ x s1, aW s = (x, s1) := ⟨_, _, rfl⟩
 obtain ⟨a, b, s2, hv⟩ : ∃ a b s2, iw s1 = ((a, b), s2) := ⟨_, _, _, rfl⟩
 have h1 : eD 2 t s f = (⟨2, t, x, a, b, 0, .zero, []⟩, s2, f) := by unfold eD; simp [hx, hv]
 have hxl : x < 18446744073709551616 := by have := dX s; rw [hx] at this; exact this
 have hvl := nJ s1
 rw [hv] at hvl
 have c0 := h.c0
 have H := hid (And.intro h1 (And.intro h hh))
 have HX := hid (And.intro hx hv)
 have HL := hid hvl
 have hlt := h.lt
 have hgl : g < w.heap.size := (Array.getElem?_eq_some_iff.1 hh).1
 clear h1 h hh hx hv hvl
 go_enter Tryz.func116, Tryz.ntmps116
 go_wp2_with fail
 refine (fe rb l sv s s1 x w H.out.2.1.vr HX.out.1).mono ?_
 rintro e w1 ⟨rfl, hs1, hg1⟩
 have HR1 := hid (And.intro (H.out.2.1.step hs1 hg1) hg1)
 clear hs1 hg1 c0
 go_wp2_with fail
 refine (kF pb rb l sv s1 s2 f a b w1 HR1.out.1 HX.out.2).mono ?_
 rintro e w2 ⟨rfl, hs2, hg2⟩
 have hh1 : w2.heap[g]? = some (.cells _ 47 (0, 0)) := ((HR1.out.2.trans hg2).keep g hgl (by omega)).trans H.out.2.2
 have b2 : w2.cell? ⟨g, 2, none⟩ = some (.int .u64 0) := by rw [cell_of_row w2 _ 2 _ _ _ hh1]; rfl
 have b3 : w2.cell? ⟨g, 3, none⟩ = some (.int .u64 0) := by rw [cell_of_row w2 _ 3 _ _ _ hh1]; rfl
 have b4 : w2.cell? ⟨g, 4, none⟩ = some (.int .u64 0) := by rw [cell_of_row w2 _ 4 _ _ _ hh1]; rfl
 have f2 : w2.frozen? ⟨g, 2, none⟩ = false := by rw [frozen_of_row w2 _ 2 _ _ hh1]
 have f3 : w2.frozen? ⟨g, 3, none⟩ = false := by rw [frozen_of_row w2 _ 3 _ _ hh1]
 have f4 : w2.frozen? ⟨g, 4, none⟩ = false := by rw [frozen_of_row w2 _ 4 _ _ hh1]
 have HQ := hid (And.intro hh1 (And.intro (HR1.out.1.step hs2 hg2) (HR1.out.2.trans hg2)))
 clear hh1 hs2 hg2
 go_wp2_with fail
 go_end0
 refine ⟨rfl, _, af (af (af HQ.out.1 rfl) rfl) rfl, ?_, ?_, (((uU HQ.out.2.2).setCell g (.inr (.inr (.inr rfl))) 2 _).setCell g (.inr (.inr (.inr rfl))) 3 _).setCell g (.inr (.inr (.inr rfl))) 4 _⟩
 ·rw [H.out.1]; exact cO _ _ 2 t x a b 0 (by omega) ht hxl HL.out.1 HL.out.2 (by omega)
 ·rw [H.out.1]; exact HQ.out.2.1.keep (fun b hb => (Below.heap_setCell _ _ _ _ (by simp; omega)).trans ((Below.heap_setCell _ _ _ _ (by simp; omega)).trans (Below.heap_setCell _ _ _ _ (by simp; omega))))
theorem uV : qY 3 123 := by
 intro t pb rb gg l sv s f w ht hl h hg hh
 obtain ⟨x, s1, hx⟩ : ∃ x s1, aW s = (x, s1) := ⟨_, _, rfl⟩
 obtain ⟨v, s2, hv⟩ : ∃ v s2, aW s1 = (v, s2) := ⟨_, _, rfl⟩
 have h1 : eD 3 t s f = (⟨3, t, x, 0, 0, v, .zero, []⟩, s2, f) := by unfold eD; simp [hx, hv]
 have hxl : x < 18446744073709551616 := by have := dX s; rw [hx] at this; exact this
 have hvl : v < 18446744073709551616 := by have := dX s1; rw [hv] at this; exact this
 have HA := hid hx
 have HB := hid hv
 have H := hid h1
 have HZ := hid (RdZ.start (sts := [s, s1, s2, s2, s2]) (rows := [#[.int .i64 3, .int .u64 (t : Nat), .int .u64 0, .int .u64 0, .int .u64 0, .int .u64 0, .int .i64 0, .int .u64 0, .int .u64 0, .slice none 0 0, .slice none 0 0], #[.int .i64 3, .int .u64 (t : Nat), .int .u64 0, .int .u64 0, .int .u64 0, .int .u64 0, .int .i64 0, .int .u64 0, .int .u64 0, .slice none 0 0, .slice none 0 0], #[.int .i64 3, .int .u64 (t : Nat), .int .u64 0, .int .u64 0, .int .u64 0, .int .u64 0, .int .i64 0, .int .u64 0, .int .u64 0, .slice none 0 0, .slice none 0 0], #[.int .i64 3, .int .u64 (t : Nat), .int .u64 (x : Nat), .int .u64 0, .int .u64 0, .int .u64 0, .int .i64 0, .int .u64 0, .int .u64 0, .slice none 0 0, .slice none 0 0], #[.int .i64 3, .int .u64 (t : Nat), .int .u64 (x : Nat), .int .u64 0, .int .u64 0, .int .u64 (v : Nat), .int .i64 0, .int .u64 0, .int .u64 0, .slice none 0 0, .slice none 0 0]]) (vs := fun _ => undef) h hh hg rfl rfl)
 clear h1 h hh hx hv
 go_enter Tryz.func123, Tryz.ntmps123
 go_wp2_with fail
 refine aF (w0 := w) rfl [.eq (.pointer (some ⟨gg, 0, none⟩)), .eq (.pointer (some ⟨gg, 0, none⟩)), .eq (.pointer (some ⟨pb, 0, none⟩)), .eq (.pointer (some ⟨pb, 0, none⟩)), .eq (.pointer (some ⟨pb, 0, none⟩)), .eq (.pointer (some ⟨rb, 0, none⟩)), .weq (.int .u64 (x : Nat)), .eq (.pointer (some ⟨pb, 0, none⟩)), .eq (.pointer (some ⟨pb, 0, none⟩)), .eq (.pointer (some ⟨pb, 0, none⟩)), .eq (.pointer (some ⟨rb, 0, none⟩)), .weq (.int .u64 (v : Nat)), .eq (.pointer (some ⟨gg, 0, none⟩)), .eq (.pointer (some ⟨gg, 2, none⟩)), .wr, .eq (.pointer (some ⟨gg, 0, none⟩)), .eq (.pointer (some ⟨gg, 5, none⟩)), .wr] (RdZ w pb rb gg l sv f 47 [s, s1, s2, s2, s2] [#[.int .i64 3, .int .u64 (t : Nat), .int .u64 0, .int .u64 0, .int .u64 0, .int .u64 0, .int .i64 0, .int .u64 0, .int .u64 0, .slice none 0 0, .slice none 0 0], #[.int .i64 3, .int .u64 (t : Nat), .int .u64 0, .int .u64 0, .int .u64 0, .int .u64 0, .int .i64 0, .int .u64 0, .int .u64 0, .slice none 0 0, .slice none 0 0], #[.int .i64 3, .int .u64 (t : Nat), .int .u64 0, .int .u64 0, .int .u64 0, .int .u64 0, .int .i64 0, .int .u64 0, .int .u64 0, .slice none 0 0, .slice none 0 0], #[.int .i64 3, .int .u64 (t : Nat), .int .u64 (x : Nat), .int .u64 0, .int .u64 0, .int .u64 0, .int .i64 0, .int .u64 0, .int .u64 0, .slice none 0 0, .slice none 0 0], #[.int .i64 3, .int .u64 (t : Nat), .int .u64 (x : Nat), .int .u64 0, .int .u64 0, .int .u64 (v : Nat), .int .i64 0, .int .u64 0, .int .u64 0, .slice none 0 0, .slice none 0 0]]) (by kernel_rfl) (⟨fun _ => undef, HZ.out⟩) ⟨?_, ?_, ?_, ?_, ?_, ?_, ?_, ?_, ?_, ?_, ?_, ?_, ?_, ?_, ?_, ?_, ?_, ?_, trivial⟩ (fun vs => [(4, .pointer (some ⟨gg, 0, none⟩)), (5, .pointer (some ⟨gg, 0, none⟩)), (6, .pointer (some ⟨pb, 0, none⟩)), (7, .pointer (some ⟨pb, 0, none⟩)), (8, .pointer (some ⟨pb, 0, none⟩)), (9, .pointer (some ⟨rb, 0, none⟩)), (10, .int .u64 (x : Nat)), (11, .pointer (some ⟨pb, 0, none⟩)), (12, .pointer (some ⟨pb, 0, none⟩)), (13, .pointer (some ⟨pb, 0, none⟩)), (14, .pointer (some ⟨rb, 0, none⟩)), (15, .int .u64 (v : Nat)), (16, .pointer (some ⟨gg, 0, none⟩)), (17, .pointer (some ⟨gg, 2, none⟩)), (18, .pointer (some ⟨gg, 0, none⟩)), (19, .pointer (some ⟨gg, 5, none⟩))]) (fun _ => rfl) 4 (by kernel_rfl) ?_
 ·refine ag.mk rfl rfl (fun t vs ac wx K Q hR hZ hK => ?_)
  have t1 : ac.tmps[1]? = some (.pointer (some ⟨gg, 0, none⟩)) := (hR.old 1 (by kernel_rfl)).trans (by kernel_rfl)
  go_simp
  exact hK _ hZ
 ·refine ag.mk rfl rfl (fun t vs ac wx K Q hR hZ hK => ?_)
  have t1 : ac.tmps[1]? = some (.pointer (some ⟨gg, 0, none⟩)) := (hR.old 1 (by kernel_rfl)).trans (by kernel_rfl)
  go_simp
  exact hK _ hZ
 ·refine ag.mk rfl rfl (fun t vs ac wx K Q hR hZ hK => ?_)
  have t0 : ac.tmps[0]? = some (.pointer (some ⟨pb, 0, none⟩)) := (hR.old 0 (by kernel_rfl)).trans (by kernel_rfl)
  go_simp
  exact hK _ hZ
 ·refine ag.mk rfl rfl (fun t vs ac wx K Q hR hZ hK => ?_)
  have t6 := hR.eq 2 (by kernel_rfl) rfl rfl
  go_simp
  exact hK _ hZ
 ·refine ag.mk rfl rfl (fun t vs ac wx K Q hR hZ hK => ?_)
  have t7 := hR.eq 3 (by kernel_rfl) rfl rfl
  go_simp
  exact hK _ hZ
 ·refine ag.mk rfl rfl (fun t vs ac wx K Q hR hZ hK => ?_)
  have t8 := hR.eq 4 (by kernel_rfl) rfl rfl
  have y0 := hZ.c0
  go_simp
  exact hK _ hZ
 ·refine aH.mk rfl rfl (fun vs ac wx K Q hR hZ hK => ?_)
  have t9 := hR.eq 5 (by kernel_rfl) rfl rfl
  go_simp
  go_at_call 38
  refine (fe rb l sv _ _ _ _ (hZ.st rfl) HA.out).mono ?_
  rintro e w' ⟨rfl, hs', hg'⟩
  exact hK _ _ aO (hZ.num rfl rfl rfl hs' hg')
 ·refine ag.mk rfl rfl (fun t vs ac wx K Q hR hZ hK => ?_)
  have t0 : ac.tmps[0]? = some (.pointer (some ⟨pb, 0, none⟩)) := (hR.old 0 (by kernel_rfl)).trans (by kernel_rfl)
  go_simp
  exact hK _ hZ
 ·refine ag.mk rfl rfl (fun t vs ac wx K Q hR hZ hK => ?_)
  have t11 := hR.eq 7 (by kernel_rfl) rfl rfl
  go_simp
  exact hK _ hZ
 ·refine ag.mk rfl rfl (fun t vs ac wx K Q hR hZ hK => ?_)
  have t12 := hR.eq 8 (by kernel_rfl) rfl rfl
  go_simp
  exact hK _ hZ
 ·refine ag.mk rfl rfl (fun t vs ac wx K Q hR hZ hK => ?_)
  have t13 := hR.eq 9 (by kernel_rfl) rfl rfl
  have y0 := hZ.c0
  go_simp
  exact hK _ hZ
 ·refine aH.mk rfl rfl (fun vs ac wx K Q hR hZ hK => ?_)
  have t14 := hR.eq 10 (by kernel_rfl) rfl rfl
  go_simp
  go_at_call 38
  refine (fe rb l sv _ _ _ _ (hZ.st rfl) HB.out).mono ?_
  rintro e w' ⟨rfl, hs', hg'⟩
  exact hK _ _ aO (hZ.num rfl rfl rfl hs' hg')
 ·refine ag.mk rfl rfl (fun t vs ac wx K Q hR hZ hK => ?_)
  have t4 := hR.eq 0 (by kernel_rfl) rfl rfl
  go_simp
  exact hK _ hZ
 ·refine ag.mk rfl rfl (fun t vs ac wx K Q hR hZ hK => ?_)
  have t16 := hR.eq 12 (by kernel_rfl) rfl rfl
  go_simp
  exact hK _ hZ
 ·refine aH.mk rfl rfl (fun vs ac wx K Q hR hZ hK => ?_)
  have t17 := hR.eq 13 (by kernel_rfl) rfl rfl
  have t10 := hR.weq 6 (by kernel_rfl) rfl rfl
  have hh := hZ.box rfl
  have c0 : wx.cell? ⟨gg, 2, none⟩ = some (.int .u64 0) := by rw [cell_of_row wx _ 2 _ _ _ hh]; rfl
  have f0 : wx.frozen? ⟨gg, 2, none⟩ = false := by rw [frozen_of_row wx _ 2 _ _ hh]
  go_simp
  exact hK undef _ nofun (hZ.sto 2 (.int .u64 (x : Nat)) rfl rfl rfl rfl)
 ·refine ag.mk rfl rfl (fun t vs ac wx K Q hR hZ hK => ?_)
  have t5 := hR.eq 1 (by kernel_rfl) rfl rfl
  go_simp
  exact hK _ hZ
 ·refine ag.mk rfl rfl (fun t vs ac wx K Q hR hZ hK => ?_)
  have t18 := hR.eq 15 (by kernel_rfl) rfl rfl
  go_simp
  exact hK _ hZ
 ·refine aH.mk rfl rfl (fun vs ac wx K Q hR hZ hK => ?_)
  have t19 := hR.eq 16 (by kernel_rfl) rfl rfl
  have t15 := hR.weq 11 (by kernel_rfl) rfl rfl
  have hh := hZ.box rfl
  have c0 : wx.cell? ⟨gg, 5, none⟩ = some (.int .u64 0) := by rw [cell_of_row wx _ 5 _ _ _ hh]; rfl
  have f0 : wx.frozen? ⟨gg, 5, none⟩ = false := by rw [frozen_of_row wx _ 5 _ _ hh]
  go_simp
  exact hK undef _ nofun (hZ.sto 5 (.int .u64 (v : Nat)) rfl rfl rfl rfl)
 intro vs wN hZ
 simp only [bq, List.foldl_cons, List.foldl_nil]
 have HN := hid (And.intro (hZ.box rfl) (And.intro (hZ.at rfl) hZ.rk))
 clear hZ
 go_simp
 go_wp2_with fail
 go_end0
 refine ⟨rfl, _, HN.out.1, ?_, ?_, ⟨HN.out.2.2.os, HN.out.2.2.tape, HN.out.2.2.output, HN.out.2.2.size, fun b hb hn => HN.out.2.2.keep b hb (fun e => hn (e.elim .inl (fun e => .inr (.inr e))))⟩⟩
 ·rw [H.out]; exact cO _ _ 3 t x 0 0 v (by omega) ht hxl (by omega) (by omega) hvl
 ·rw [H.out]; exact HN.out.2.1
end Go.Proofs.YtmgbhhmipmgcpaaGreatDoor
