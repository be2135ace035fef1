/- Walks. -/
import Derived.Test.YtmgbhhmipmgcpaaGreatDoorQ48
set_option maxHeartbeats 4000000
set_option maxRecDepth 100000
namespace Go.Proofs.YtmgbhhmipmgcpaaGreatDoor
open Go.RowKit Go
set_option linter.unusedVariables false
set_option linter.unusedSimpArgs false
def Rec.tailP (r : Rec) : List UInt8 :=
 if r.k = 2 then ay [r.x, r.w, r.n] else if r.k = 3 then ay [r.x, r.v] else if r.k = 4 then ay [r.x]
 else if r.k = 5 then ay [r.p.put.length] ++ (r.p.put ++ (ay [r.es.length] ++ aZ r.es)) else []
theorem ib (a : Nat) (b : List Nat) : ay (a :: b) = ay [a] ++ ay b := by simp [ay]
theorem sj (r : Rec) : r.body = ay [r.t] ++ r.tailP := by
 unfold Rec.body Rec.tailP
 split
 ·rw [ib]
 split
 ·rw [ib]
 split
 ·rw [ib]
 split
 ·rw [ib, List.append_assoc]
 ·simp
theorem su (own : Bool) (wb : Nat) (sv : Value) (l m : List UInt8) (v : Value) (w : World) (hw : Wr 111 5 w wb sv l) (hr : bM w (fun b => b ≠ wb ∧ sv.ownBlock ≠ some b) own m v) (h1 : l.length + m.length ≤ 900000) :
  Calls Tryz.prog 133 #[.pointer (some ⟨wb, 0, none⟩), v] w (Wg 111 5 w wb sv (l ++ (ay [m.length] ++ m)) (.int .i64 0)) := by
 obtain ⟨hl, ad, cap, rfl, hc⟩ := hr.shape
 have hlt := hw.lt
 have hb0 : Below w.heap.size w (w.alloc (.cells #[.int .u64 (m.length : Nat)] 29)) := br.alloc nl _
 have q1 : IntKind.u64.wrap (m.length : Int) = (m.length : Int) := by unfold IntKind.wrap; simp [IntKind.signed, IntKind.bits]; omega
 have HN := hid (aN true wb sv l [m.length] (.slice (some ⟨w.heap.size, 0, none⟩) 1 1) _ (hw.below hb0) (by simpa [nums] using bR w _ #[.int .u64 (m.length : Nat)] 29 1 1 (by simp) (by omega) ⟨by omega, fun e => by have := (hlt.2 _ e).2; omega⟩ (by omega)) (by intro n hn; simp at hn; omega) (by simp; omega))
 have HR := hid (And.intro (hr.below hb0 nl) (And.intro (hw.below hb0) (Wrote.of_below (wb := wb) (sv := sv) hb0)))
 clear hr hw
 go_enter Tryz.func133, Tryz.ntmps133
 go_wp2_with fail
 refine HN.out.mono ?_
 rintro e w1 ⟨rfl, sv1, hw1, ht1⟩
 have hr1 : bM w1 (fun b => b ≠ wb ∧ sv.ownBlock ≠ some b) own m (.slice ad m.length cap) := Sl.keep HR.out.1 (by omega) (fun b hb hl => ht1.keep b hl hb.1 hb.2) (fun _ _ h => h)
 have HQ := hid (And.intro hr1 (And.intro hw1 (HR.out.2.2.trans ht1)))
 clear hr1 hw1 ht1
 go_wp2_with fail
 refine (di _ own wb sv1 (l ++ ay [m.length]) m _ w1 HQ.out.2.1 HQ.out.1 (by have := aK [m.length]; simp at this ⊢; omega)).mono ?_
 rintro e w2 ⟨rfl, sv2, hw2, ht2⟩
 have HZ := hid (And.intro hw2 (HQ.out.2.2.trans ht2))
 clear hw2 ht2
 go_wp2_with fail
 go_ret
 exact ⟨rfl, sv2, by rw [← List.append_assoc]; exact HZ.out.1, HZ.out.2⟩
def uM (k fid : Nat) : Prop := ∀ (own : Bool) (r : Rec) (k0 : Int) (k1 k2 : Nat) (k3 : Option Addr) (k4 k5 : Nat) (k6 : Option Addr) (n6 k7 wb : Nat) (sv : Value) (l : List UInt8) (w : World), n6 = r.es.length → r.k = (k : Int) → r.p.size ≤ 900 → r.es.length ≤ 10000 → r.nums →
 av w (fun b => b < wb) own r.p (.agg #[.int .i64 k0, .int .u64 k1, .int .u64 k2, .slice k3 k4 k5]) → bZ w (fun b => b < wb) own r.es (.slice k6 n6 k7) → Wr 111 5 w wb sv l → l.length ≤ 1000 →
 Calls Tryz.prog fid #[.pointer (some ⟨wb, 0, none⟩), .agg #[.int .i64 r.k, .int .u64 r.t, .int .u64 r.x, .int .u64 r.w, .int .u64 r.n, .int .u64 r.v, .int .i64 k0, .int .u64 k1, .int .u64 k2, .slice k3 k4 k5, .slice k6 n6 k7]] w (Wg 111 5 w wb sv (l ++ r.tailP) (.tuple #[]))
theorem jT (k : Nat) (hk : k = 1 ∨ k = 6 ∨ k = 7) : uM k 80 := by
 intro own r k0 k1 k2 k3 k4 k5 k6 n6 k7 wb sv l w hn6 hk hsz hle hnums he hes hw hl
 have hb0 : Below w.heap.size w (w.alloc (.cells #[.int .i64 r.k, .int .u64 r.t, .int .u64 r.x, .int .u64 r.w, .int .u64 r.n, .int .u64 r.v, .int .i64 k0, .int .u64 k1, .int .u64 k2, .slice k3 k4 k5, .slice k6 n6 k7] 47)) := br.alloc nl _
 have hlt := hw.lt
 have ht : r.tailP = [] := by unfold Rec.tailP; rw [if_neg (by omega), if_neg (by omega), if_neg (by omega), if_neg (by omega)]
 rw [ht, List.append_nil]
 have HW := hid (And.intro (hw.below hb0) (Wrote.of_below (wb := wb) (sv := sv) hb0))
 clear he hes hw hb0 ht
 clear hk hn6
 go_enter Tryz.func80, Tryz.ntmps80
 go_wp2_with fail
 go_end0
 exact ⟨rfl, sv, HW.out.1, HW.out.2⟩
theorem uN : uM 2 115 := by
 intro own r k0 k1 k2 k3 k4 k5 k6 n6 k7 wb sv l w hn6 hk hsz hle hnums he hes hw hl
 have hb0 : Below w.heap.size w (w.alloc (.cells #[.int .i64 r.k, .int .u64 r.t, .int .u64 r.x, .int .u64 r.w, .int .u64 r.n, .int .u64 r.v, .int .i64 k0, .int .u64 k1, .int .u64 k2, .slice k3 k4 k5, .slice k6 n6 k7] 47)) := br.alloc nl _
 have hlt := hw.lt
 have ht : r.tailP = ay [r.x, r.w, r.n] := by unfold Rec.tailP; simp [hk]
 rw [ht]
 have hb1 : Below w.heap.size w ((w.alloc (.cells #[.int .i64 r.k, .int .u64 r.t, .int .u64 r.x, .int .u64 r.w, .int .u64 r.n, .int .u64 r.v, .int .i64 k0, .int .u64 k1, .int .u64 k2, .slice k3 k4 k5, .slice k6 n6 k7] 47)).alloc (.cells #[.int .u64 r.x, .int .u64 r.w, .int .u64 r.n] 29)) := hb0.alloc (by simp) _
 have hz0 : (w.alloc (.cells #[.int .i64 r.k, .int .u64 r.t, .int .u64 r.x, .int .u64 r.w, .int .u64 r.n, .int .u64 r.v, .int .i64 k0, .int .u64 k1, .int .u64 k2, .slice k3 k4 k5, .slice k6 n6 k7] 47)).heap.size = w.heap.size + 1 := by simp
 have HN := hid (aN true wb sv l [r.x, r.w, r.n] _ _ (hw.below hb1) (by simpa [nums] using bR (w.alloc (.cells #[.int .i64 r.k, .int .u64 r.t, .int .u64 r.x, .int .u64 r.w, .int .u64 r.n, .int .u64 r.v, .int .i64 k0, .int .u64 k1, .int .u64 k2, .slice k3 k4 k5, .slice k6 n6 k7] 47)) _ #[.int .u64 r.x, .int .u64 r.w, .int .u64 r.n] 29 3 3 (by simp) (by omega) ⟨by omega, fun e => by have := (hlt.2 _ e).2; omega⟩ (by omega)) (by intro n hn; simp only [List.mem_cons, List.not_mem_nil, or_false] at hn; have := hnums.2; have := hnums.2.1; have := hnums.2.2.1; have := hnums.2.2.2.1; have := hnums.2.2.2.2.1; omega) (by simp; omega))
 have HW := hid (Wrote.of_below (wb := wb) (sv := sv) hb1)
 clear he hes hw hb0 hb1 ht hk hn6
 go_enter Tryz.func115, Tryz.ntmps115
 go_wp2_with fail
 refine HN.out.mono ?_
 rintro e w1 ⟨rfl, sv1, hw1, ht1⟩
 have HQ := hid (And.intro hw1 (HW.out.trans ht1))
 clear hw1 ht1
 go_wp2_with fail
 go_end0
 exact ⟨rfl, sv1, HQ.out.1, HQ.out.2⟩
theorem sw : uM 3 122 := by
 intro own r k0 k1 k2 k3 k4 k5 k6 n6 k7 wb sv l w hn6 hk hsz hle hnums he hes hw hl
 have hb0 : Below w.heap.size w (w.alloc (.cells #[.int .i64 r.k, .int .u64 r.t, .int .u64 r.x, .int .u64 r.w, .int .u64 r.n, .int .u64 r.v, .int .i64 k0, .int .u64 k1, .int .u64 k2, .slice k3 k4 k5, .slice k6 n6 k7] 47)) := br.alloc nl _
 have hlt := hw.lt
 have ht : r.tailP = ay [r.x, r.v] := by unfold Rec.tailP; simp [hk]
 rw [ht]
 have hb1 : Below w.heap.size w ((w.alloc (.cells #[.int .i64 r.k, .int .u64 r.t, .int .u64 r.x, .int .u64 r.w, .int .u64 r.n, .int .u64 r.v, .int .i64 k0, .int .u64 k1, .int .u64 k2, .slice k3 k4 k5, .slice k6 n6 k7] 47)).alloc (.cells #[.int .u64 r.x, .int .u64 r.v] 29)) := hb0.alloc (by simp) _
 have hz0 : (w.alloc (.cells #[.int .i64 r.k, .int .u64 r.t, .int .u64 r.x, .int .u64 r.w, .int .u64 r.n, .int .u64 r.v, .int .i64 k0, .int .u64 k1, .int .u64 k2, .slice k3 k4 k5, .slice k6 n6 k7] 47)).heap.size = w.heap.size + 1 := by simp
 have HN := hid (aN true wb sv l [r.x, r.v] _ _ (hw.below hb1) (by simpa [nums] using bR (w.alloc (.cells #[.int .i64 r.k, .int .u64 r.t, .int .u64 r.x, .int .u64 r.w, .int .u64 r.n, .int .u64 r.v, .int .i64 k0, .int .u64 k1, .int .u64 k2, .slice k3 k4 k5, .slice k6 n6 k7] 47)) _ #[.int .u64 r.x, .int .u64 r.v] 29 2 2 (by simp) (by omega) ⟨by omega, fun e => by have := (hlt.2 _ e).2; omega⟩ (by omega)) (by intro n hn; simp only [List.mem_cons, List.not_mem_nil, or_false] at hn; have := hnums.2; have := hnums.2.1; have := hnums.2.2.1; have := hnums.2.2.2.1; have := hnums.2.2.2.2.1; omega) (by simp; omega))
 have HW := hid (Wrote.of_below (wb := wb) (sv := sv) hb1)
 clear he hes hw hb0 hb1 ht hk hn6
 go_enter Tryz.func122, Tryz.ntmps122
 go_wp2_with fail
 refine HN.out.mono ?_
 rintro e w1 ⟨rfl, sv1, hw1, ht1⟩
 have HQ := hid (And.intro hw1 (HW.out.trans ht1))
 clear hw1 ht1
 go_wp2_with fail
 go_end0
 exact ⟨rfl, sv1, HQ.out.1, HQ.out.2⟩
theorem qG : uM 4 127 := by
 intro own r k0 k1 k2 k3 k4 k5 k6 n6 k7 wb sv l w hn6 hk hsz hle hnums he hes hw hl
 have hb0 : Below w.heap.size w (w.alloc (.cells #[.int .i64 r.k, .int .u64 r.t, .int .u64 r.x, .int .u64 r.w, .int .u64 r.n, .int .u64 r.v, .int .i64 k0, .int .u64 k1, .int .u64 k2, .slice k3 k4 k5, .slice k6 n6 k7] 47)) := br.alloc nl _
 have hlt := hw.lt
 have ht : r.tailP = ay [r.x] := by unfold Rec.tailP; simp [hk]
 rw [ht]
 have hb1 : Below w.heap.size w ((w.alloc (.cells #[.int .i64 r.k, .int .u64 r.t, .int .u64 r.x, .int .u64 r.w, .int .u64 r.n, .int .u64 r.v, .int .i64 k0, .int .u64 k1, .int .u64 k2, .slice k3 k4 k5, .slice k6 n6 k7] 47)).alloc (.cells #[.int .u64 r.x] 29)) := hb0.alloc (by simp) _
 have hz0 : (w.alloc (.cells #[.int .i64 r.k, .int .u64 r.t, .int .u64 r.x, .int .u64 r.w, .int .u64 r.n, .int .u64 r.v, .int .i64 k0, .int .u64 k1, .int .u64 k2, .slice k3 k4 k5, .slice k6 n6 k7] 47)).heap.size = w.heap.size + 1 := by simp
 have HN := hid (aN true wb sv l [r.x] _ _ (hw.below hb1) (by simpa [nums] using bR (w.alloc (.cells #[.int .i64 r.k, .int .u64 r.t, .int .u64 r.x, .int .u64 r.w, .int .u64 r.n, .int .u64 r.v, .int .i64 k0, .int .u64 k1, .int .u64 k2, .slice k3 k4 k5, .slice k6 n6 k7] 47)) _ #[.int .u64 r.x] 29 1 1 (by simp) (by omega) ⟨by omega, fun e => by have := (hlt.2 _ e).2; omega⟩ (by omega)) (by intro n hn; simp only [List.mem_cons, List.not_mem_nil, or_false] at hn; have := hnums.2; have := hnums.2.1; have := hnums.2.2.1; have := hnums.2.2.2.1; have := hnums.2.2.2.2.1; omega) (by simp; omega))
 have HW := hid (Wrote.of_below (wb := wb) (sv := sv) hb1)
 clear he hes hw hb0 hb1 ht hk hn6
 go_enter Tryz.func127, Tryz.ntmps127
 go_wp2_with fail
 refine HN.out.mono ?_
 rintro e w1 ⟨rfl, sv1, hw1, ht1⟩
 have HQ := hid (And.intro hw1 (HW.out.trans ht1))
 clear hw1 ht1
 go_wp2_with fail
 go_end0
 exact ⟨rfl, sv1, HQ.out.1, HQ.out.2⟩
theorem kC (b : Bool) (q : Nat) (hq : q = if b then 1 else 0) (w : World) : Calls Tryz.prog 136 #[.bool b] w fun e w' => e = .returned (.int .u8 (q : Int)) ∧ w' = w := by
 subst hq
 cases b
 ·go_enter Tryz.func136, Tryz.ntmps136
  go_wp2_with fail
  go_ret
  exact ⟨rfl, rfl⟩
 ·go_enter Tryz.func136, Tryz.ntmps136
  go_wp2_with fail
  go_ret
  exact ⟨rfl, rfl⟩
structure PrZ (W : World) (rb wb : Nat) (sv svi : Value) (li : List UInt8) (row : Array Value) (TR : TypeId) (w : World) : Prop where
 wr : Wr 111 5 w wb svi li
 wt : Wrote wb sv svi W w
 lt : wb < W.heap.size ∧ rb < w.heap.size ∧ rb ≠ wb ∧ svi.ownBlock ≠ some rb
 box : w.heap[rb]? = some (.cells row TR (0, 0))
theorem PrZ.below {W w w' : World} {rb wb : Nat} {sv svi : Value} {li : List UInt8} {row : Array Value} {TR : TypeId} (h : PrZ W rb wb sv svi li row TR w) (hb : Below w.heap.size w w') : PrZ W rb wb sv svi li row TR w' :=
 ⟨h.wr.below hb, h.wt.trans (Wrote.of_below hb), ⟨h.lt.1, by have := h.lt.2.1; have := hb.size; omega, h.lt.2.2.1, h.lt.2.2.2⟩, (hb.block _ h.lt.2.1).trans h.box⟩
theorem PrZ.step {W w w' : World} {rb wb : Nat} {sv svi svj : Value} {li lj : List UInt8} {row : Array Value} {TR : TypeId} (h : PrZ W rb wb sv svi li row TR w) (hw : Wr 111 5 w' wb svj lj) (ht : Wrote wb svi svj w w') : PrZ W rb wb sv svj lj row TR w' := by
 have hl := h.lt
 refine ⟨hw, h.wt.trans ht, ⟨hl.1, by have := ht.size; omega, hl.2.2.1, ?_⟩, (ht.keep _ hl.2.1 hl.2.2.1 hl.2.2.2).trans h.box⟩
 rcases ht.row with h2 | ⟨k, h2, h3⟩
 ·rw [h2]; exact hl.2.2.2
 ·intro e; rw [e] at h2; injection h2 with h2; omega
theorem PrZ.cell {W w : World} {rb wb : Nat} {sv svi : Value} {li : List UInt8} {row : Array Value} {TR : TypeId} (h : PrZ W rb wb sv svi li row TR w) (o : Nat) : w.cell? ⟨rb, o, none⟩ = row[o]? := cell_of_row w _ o _ _ _ h.box
theorem uO : uM 5 132 := by
 intro own r k0 k1 k2 k3 k4 k5 k6 n6 k7 wb sv l w hn6 hk hsz hle hnums he hes hw hl
 have hb0 : Below w.heap.size w (w.alloc (.cells #[.int .i64 r.k, .int .u64 r.t, .int .u64 r.x, .int .u64 r.w, .int .u64 r.n, .int .u64 r.v, .int .i64 k0, .int .u64 k1, .int .u64 k2, .slice k3 k4 k5, .slice k6 n6 k7] 47)) := br.alloc nl _
 have hlt := hw.lt
 have ht : r.tailP = ay [r.p.put.length] ++ (r.p.put ++ (ay [r.es.length] ++ aZ r.es)) := by unfold Rec.tailP; simp [hk]
 rw [ht]
 subst hn6
 have hP0 : PrZ w w.heap.size wb sv sv l #[.int .i64 r.k, .int .u64 r.t, .int .u64 r.x, .int .u64 r.w, .int .u64 r.n, .int .u64 r.v, .int .i64 k0, .int .u64 k1, .int .u64 k2, .slice k3 k4 k5, .slice k6 r.es.length k7] 47 (w.alloc (.cells #[.int .i64 r.k, .int .u64 r.t, .int .u64 r.x, .int .u64 r.w, .int .u64 r.n, .int .u64 r.v, .int .i64 k0, .int .u64 k1, .int .u64 k2, .slice k3 k4 k5, .slice k6 r.es.length k7] 47)) := ⟨hw.below hb0, Wrote.of_below hb0, ⟨hlt.1, by simp, by have := hlt.1; omega, fun e => by have := (hlt.2 _ e).2; omega⟩, aa _ _ _ rfl⟩
 have HE := hid (And.intro he (And.intro hes hw))
 have HP0 := hid hP0
 have HB0 := hid hb0
 have HK := hid hk
 clear he hes hw hb0 hP0 ht hk
 go_enter Tryz.func132, Tryz.ntmps132
 go_wp2_with fail
 refine (qc _ own r.p _ _ hsz (HE.out.1.below HB0.out nl)).mono ?_
 rintro e w1 ⟨v1, rfl, hown1, hb1⟩
 have hz1 := hb1.size
 simp only [World.size_alloc] at hz1 hown1
 have hpl : r.p.put.length ≤ 992 := by
  by_cases h : r.p.right = true
  ·exact gD h
  ·simp [Ex.put, h]
 have hp1 := HP0.out.below hb1
 have hv1 : bM w1 (fun b => b ≠ wb ∧ sv.ownBlock ≠ some b) true r.p.put v1 := Sl.keep (bM.of_owns hown1) (by omega) (fun _ _ _ => rfl) (fun b _ hb => ⟨by have := hlt.1; have h2 := hb.2; omega, fun e => by have := (hlt.2 _ e).2; have h2 := hb.2; omega⟩)
 obtain ⟨_, pad, pcap, rfl, _⟩ := hv1.shape
 have HV1 := hid (And.intro hp1 hv1)
 clear hown1 hb1 hp1 hv1
 go_wp2_with fail
 refine (su true wb sv l r.p.put _ w1 HV1.out.1.wr HV1.out.2 (by omega)).mono ?_
 rintro e w2 ⟨rfl, sv2, hw2, ht2⟩
 have hp2 := HV1.out.1.step hw2 ht2
 have b10 : w2.cell? ⟨w.heap.size, 10, none⟩ = some (.slice k6 r.es.length k7) := hp2.cell 10
 have hlt2 := hp2.wr.lt
 have hbA : Below w2.heap.size w2 (w2.alloc (.cells #[.int .u64 (r.es.length : Nat)] 29)) := br.alloc nl _
 have HP2 := hid hp2
 have HPA := hid (hp2.below hbA)
 have q1 : IntKind.u64.wrap (r.es.length : Int) = (r.es.length : Int) := by unfold IntKind.wrap; simp [IntKind.signed, IntKind.bits]; omega
 have HLA := hid hlt2
 clear hw2 ht2 hp2 hbA hlt2
 go_wp2_with fail
 refine (aN true wb sv2 _ [r.es.length] _ _ HPA.out.wr (by simpa [nums] using bR w2 _ #[.int .u64 (r.es.length : Nat)] 29 1 1 (by simp) (by omega) ⟨by have := HLA.out.1; omega, fun e => by have := (HLA.out.2 _ e).2; omega⟩ (by omega)) (by intro n hn; simp at hn; omega) (by have := aK [r.p.put.length]; simp at this ⊢; omega)).mono ?_
 rintro e w3 ⟨rfl, sv3, hw3, ht3⟩
 have hp3 := HPA.out.step hw3 ht3
 have b10' : w3.cell? ⟨w.heap.size, 10, none⟩ = some (.slice k6 r.es.length k7) := hp3.cell 10
 obtain ⟨L0, hL0⟩ : ∃ L0, L0 = l ++ (ay [r.p.put.length] ++ r.p.put) ++ ay [r.es.length] := ⟨_, rfl⟩
 have hL0l : L0.length ≤ 3000 := by
  have h1 := aK [r.p.put.length]
  have h2 := aK [r.es.length]
  rw [hL0]; simp at h1 h2 ⊢; omega
 rw [← hL0] at hp3
 have HL0 := hid hL0
 have HP3 := hid hp3
 clear b10 hw3 ht3 hp3 HLA hL0
 go_wp2_with fail
 clear b10'
 go_loopw [21] (fun i wr => ∃ j : Nat, ∃ svi, j ≤ r.es.length ∧ i = .int .i64 j ∧ PrZ w w.heap.size wb sv svi (L0 ++ aZ (r.es.take j)) #[.int .i64 r.k, .int .u64 r.t, .int .u64 r.x, .int .u64 r.w, .int .u64 r.n, .int .u64 r.v, .int .i64 k0, .int .u64 k1, .int .u64 k2, .slice k3 k4 k5, .slice k6 r.es.length k7] 47 wr) (fun i _ => r.es.length - (intOf i).toNat)
 case atStart => exact ⟨0, _, by omega, rfl, by simpa [aZ] using HP3.out⟩
 case round =>
  obtain ⟨j, svi, hj, rfl, hp⟩ := hrel
  by_cases hlj : j < r.es.length
  ·have hk : bB (fun b => b < wb) w wr := fun b hb _ => (hp.wt.below HE.out.2.2).block b hb
   obtain ⟨bl, off, rfl, _, d0, d1, d2, d3, _⟩ := (HE.out.2.1.keep hk (fun _ _ h => h)).part j hlj
   have hlj2 := hp.wr.lt
   have hnj := hnums.2.2.2.2.2.2 r.es[j] (List.getElem_mem hlj)
   have hel := fG r.es j
   have HPS := hid (jF r.es j hlj)
   have hbA : Below wr.heap.size wr (wr.alloc (.cells #[.int .u64 (r.es[j].x : Nat), .int .u64 (r.es[j].w : Nat), .int .u64 (r.es[j].n : Nat), .bool r.es[j].m] 78)) := br.alloc nl _
   have hbB := hbA.alloc (o := .cells #[.int .u64 (r.es[j].x : Nat), .int .u64 (r.es[j].w : Nat), .int .u64 (r.es[j].n : Nat)] 29) (by simp)
   have hlB : ((wr.alloc (.cells #[.int .u64 (r.es[j].x : Nat), .int .u64 (r.es[j].w : Nat), .int .u64 (r.es[j].n : Nat), .bool r.es[j].m] 78))).heap.size = wr.heap.size + 1 := by simp
   have HPB := hid (And.intro (hp.below hbB) (And.intro hlj2 hnj))
   have hxB : ((wr.alloc (.cells #[.int .u64 (r.es[j].x : Nat), .int .u64 (r.es[j].w : Nat), .int .u64 (r.es[j].n : Nat), .bool r.es[j].m] 78)).alloc (.cells #[.int .u64 (r.es[j].x : Nat), .int .u64 (r.es[j].w : Nat), .int .u64 (r.es[j].n : Nat)] 29)).heap[wr.heap.size]? = some (.cells #[.int .u64 (r.es[j].x : Nat), .int .u64 (r.es[j].w : Nat), .int .u64 (r.es[j].n : Nat), .bool r.es[j].m] 78 (0, 0)) := heap_alloc2_old _ _ _
   have HXB := hid hxB
   clear hp hk hbA hbB hxB hlj2 hnj
   go_wp2_with fail
   refine (aN true wb svi _ [r.es[j].x, r.es[j].w, r.es[j].n] _ _ HPB.out.1.wr (by simpa [nums] using bR (wr.alloc (.cells #[.int .u64 (r.es[j].x : Nat), .int .u64 (r.es[j].w : Nat), .int .u64 (r.es[j].n : Nat), .bool r.es[j].m] 78)) _ #[.int .u64 (r.es[j].x : Nat), .int .u64 (r.es[j].w : Nat), .int .u64 (r.es[j].n : Nat)] 29 3 3 (by simp) (by omega) ⟨by have := HPB.out.2.1.1; omega, fun e => by have := (HPB.out.2.1.2 _ e).2; omega⟩ (by omega))
    (by intro n hn; simp only [List.mem_cons, List.not_mem_nil, or_false] at hn; have := HPB.out.2.2; unfold Ent.ok at this; omega) (by simp; omega)).mono ?_
   rintro e w5 ⟨rfl, sv5, hw5, ht5⟩
   have hp5 := HPB.out.1.step hw5 ht5
   have hx5 : w5.heap[wr.heap.size]? = some (.cells #[.int .u64 (r.es[j].x : Nat), .int .u64 (r.es[j].w : Nat), .int .u64 (r.es[j].n : Nat), .bool r.es[j].m] 78 (0, 0)) := (ht5.keep _ (by simp; omega) (by have := HPB.out.2.1.1; omega) (fun e => by have := (HPB.out.2.1.2 _ e).2; omega)).trans HXB.out
   have c2 : w5.cell? ⟨wr.heap.size, 3, none⟩ = some (.bool r.es[j].m) := by rw [cell_of_row w5 _ 3 _ _ _ hx5]; rfl
   have HP5 := hid hp5
   clear hw5 ht5 hp5 hx5 HPB HXB
   obtain ⟨q, hq⟩ : ∃ q : Nat, q = if r.es[j].m then 1 else 0 := ⟨_, rfl⟩
   have HQ := hid hq
   have hq2 : q < 256 := by rw [hq]; split <;> omega
   clear hq
   go_wp2_with fail
   refine (kC r.es[j].m q HQ.out w5).mono ?_
   rintro e w6 ⟨rfl, rfl⟩
   have hb6 : Below w6.heap.size w6 (w6.alloc (.cells #[.int .u8 (q : Int)] 5)) := br.alloc nl _
   have HP6 := hid (HP5.out.below hb6)
   clear hb6
   go_wp2_with fail
   refine (di _ _ wb sv5 _ [q.toUInt8] _ _ HP6.out.wr (eY w6 q hq2 5) (by have := aK [r.es[j].x, r.es[j].w, r.es[j].n]; simp at this ⊢; omega)).mono ?_
   rintro e w7 ⟨rfl, sv7, hw7, ht7⟩
   have HP7 := hid (HP6.out.step hw7 ht7)
   clear hw7 ht7
   go_wp2_with fail
   go_roundw
   case rel =>
    refine ⟨j + 1, sv7, by omega, by go_num, ?_⟩
    rw [HPS.out, ← List.append_assoc]
    have e1 : r.es[j].put = ay [r.es[j].x, r.es[j].w, r.es[j].n] ++ [q.toUInt8] := by rw [HQ.out]; unfold Ent.put; cases r.es[j].m <;> rfl
    rw [e1, ← List.append_assoc]
    exact HP7.out
   case measure => simp [intOf]; omega
  ·have hj2 : j = r.es.length := by omega
   subst hj2
   rw [List.take_length] at hp
   have HP := hid hp
   clear hp
   go_wp2_with fail
   go_end0
   refine ⟨rfl, svi, ?_, HP.out.wt⟩
   have h := HP.out.wr
   rw [HL0.out] at h
   simpa only [List.append_assoc] using h
end Go.Proofs.YtmgbhhmipmgcpaaGreatDoor
