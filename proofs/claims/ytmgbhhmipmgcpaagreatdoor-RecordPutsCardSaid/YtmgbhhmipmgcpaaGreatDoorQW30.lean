/- Walks. -/
import Derived.Test.YtmgbhhmipmgcpaaGreatDoorQ23
import Derived.Test.YtmgbhhmipmgcpaaGreatDoorQW29
set_option maxHeartbeats 8000000
set_option maxRecDepth 100000
namespace Go.Proofs.YtmgbhhmipmgcpaaGreatDoor
open Go.RowKit Go
set_option linter.unusedVariables false
set_option linter.unusedSimpArgs false
def kM (r : Rec) (w : World) (e : Ending) (w' : World) : Prop :=
 (r.right = true → ∃ bv, e = .returned (.tuple #[.agg #[.int .u8 r.k, bv], .int .i64 0]) ∧ bM w' (fun b => w.heap.size ≤ b) true r.body bv) ∧ (r.right = false → e = .returned (.tuple #[.agg #[.int .u8 0, .slice none 0 0], .int .i64 50])) ∧ Below w.heap.size w w'
theorem uP (k : Nat) (h1 : 1 ≤ k) (h7 : k ≤ 7) : ∃ fid, Enters fid ∧ uM k fid ∧ ∀ w, (Instr.field 89 (.agg (aG k)) 2).run Tryz.prog w = .ok (.func (.func fid) #[] #[]) w := by
 have hc : k = 1 ∨ k = 2 ∨ k = 3 ∨ k = 4 ∨ k = 5 ∨ k = 6 ∨ k = 7 := by omega
 rcases hc with rfl | rfl | rfl | rfl | rfl | rfl | rfl
 ·exact ⟨80, (fun _ _ => by kernel_rfl), jT 1 (by omega), fun _ => by kernel_rfl⟩
 ·exact ⟨115, (fun _ _ => by kernel_rfl), uN, fun _ => by kernel_rfl⟩
 ·exact ⟨122, (fun _ _ => by kernel_rfl), sw, fun _ => by kernel_rfl⟩
 ·exact ⟨127, (fun _ _ => by kernel_rfl), qG, fun _ => by kernel_rfl⟩
 ·exact ⟨132, (fun _ _ => by kernel_rfl), uO, fun _ => by kernel_rfl⟩
 ·exact ⟨80, (fun _ _ => by kernel_rfl), jT 6 (by omega), fun _ => by kernel_rfl⟩
 ·exact ⟨80, (fun _ _ => by kernel_rfl), jT 7 (by omega), fun _ => by kernel_rfl⟩
def PuZ (W : World) (rb wb : Nat) (sv : Value) (l m : List UInt8) (row : Array Value) (TR : TypeId) (t : Nat) (vs : Nat → Value) (w : World) : Prop := ∃ svi, PrZ W rb wb sv svi (if t = 0 then l else l ++ m) row TR w
theorem PuZ.at {W : World} {rb wb : Nat} {sv : Value} {l m : List UInt8} {row : Array Value} {TR : TypeId} {t : Nat} {vs : Nat → Value} {w : World} (h : PuZ W rb wb sv l m row TR t vs w) (o : Nat) : w.cell? ⟨rb, o, none⟩ = row[o]? := by
 obtain ⟨svi, h1⟩ := h
 exact h1.cell o
theorem PuZ.below {W : World} {rb wb : Nat} {sv : Value} {l m : List UInt8} {row : Array Value} {TR : TypeId} {t : Nat} {vs : Nat → Value} {w w' : World} (h : PuZ W rb wb sv l m row TR t vs w) (hb : Below w.heap.size w w') : PuZ W rb wb sv l m row TR t vs w' := by
 obtain ⟨svi, h1⟩ := h
 exact ⟨svi, h1.below hb⟩
theorem av.keepPr {W w : World} {rb wb : Nat} {sv svi : Value} {li : List UInt8} {row : Array Value} {TR : TypeId} {own : Bool} {e : Ex} {v : Value} (h : av W (fun b => b < wb) own e v) (hw : Wr 111 5 W wb sv li) {lj : List UInt8} (hp : PrZ W rb wb sv svi lj row TR w) : av w (fun b => b < wb) own e v :=
 av.keep (fun b hb _ => (hp.wt.below hw).block b hb) (fun _ _ h => h) h
theorem bZ.keepPr {W w : World} {rb wb : Nat} {sv svi : Value} {li : List UInt8} {row : Array Value} {TR : TypeId} {own : Bool} {es : List Ent} {v : Value} (h : bZ W (fun b => b < wb) own es v) (hw : Wr 111 5 W wb sv li) {lj : List UInt8} (hp : PrZ W rb wb sv svi lj row TR w) : bZ w (fun b => b < wb) own es v :=
 bZ.keep h (fun b hb _ => (hp.wt.below hw).block b hb) (fun _ _ h => h)
structure PfZ (W : World) (fb : Nat) (lm : List UInt8) (k : Int) (TF : TypeId) (t : Nat) (vs : Nat → Value) (w : World) : Prop where
 rg : Rg fb W w
 lt : fb < W.heap.size
 z0 : t = 0 → Below W.heap.size W w
 by1 : 1 ≤ t → bM w (fun b => W.heap.size ≤ b) true lm (vs 3)
 fr : w.heap[fb]? = some (.cells (if t ≤ 1 then #[.int .u8 0, .slice none 0 0] else #[.int .u8 k, vs 3]) TF (0, 0))
theorem PfZ.bytes {W : World} {fb : Nat} {lm : List UInt8} {k : Int} {TF TB : TypeId} {vs : Nat → Value} {w w' : World} {bv : Value} (h : PfZ W fb lm k TF 0 vs w) (ho : w'.ownsRow w.heap.size TB 1 bv lm.length (bytes lm)) (hb : Below w.heap.size w w') : PfZ W fb lm k TF 1 (upd vs 3 bv) w' := by
 have hs := (h.z0 rfl).size
 refine ⟨h.rg.trans (Rg.of_below hb), h.lt, (fun h => by omega), fun _ => ?_, (hb.block _ (Array.getElem?_eq_some_iff.1 h.fr).1).trans h.fr⟩
 rw [upd_self]
 exact Sl.keep (bM.of_owns ho) (by omega) (fun _ _ _ => rfl) (fun b _ hb => by have := hb.2; omega)
theorem PfZ.store {W : World} {fb : Nat} {lm : List UInt8} {k : Int} {TF : TypeId} {vs : Nat → Value} {w : World} {i : Nat} {u bv : Value} (h : PfZ W fb lm k TF 1 vs w) (hbv : vs 3 = bv) (hi : i ≠ 3 := by omega) : PfZ W fb lm k TF 2 (upd vs i u) ((w.setCell ⟨fb, 0, none⟩ (.int .u8 k)).setCell ⟨fb, 1, none⟩ bv) := by
 refine ⟨(h.rg.setCell _ _).setCell _ _, h.lt, (fun h => by omega), fun _ => ?_, ?_⟩
 ·rw [upd_ne _ _ (fun e => hi e.symm)]
  have hl := h.lt
  exact Sl.keep (h.by1 (by omega)) (by omega) (fun b hb _ => (Below.heap_setCell _ _ _ _ (by simp; omega)).trans (Below.heap_setCell _ _ _ _ (by simp; omega))) (fun _ _ h => h)
 ·rw [if_neg (by omega), upd_ne _ _ (fun e => hi e.symm), hbv]
  exact af (af h.fr rfl) rfl
theorem wB (r : Rec) (hsz : r.p.size ≤ 900) (hle : r.es.length ≤ 10000) : r.body.length ≤ 140737488355328 := by
 have h1 := aK [r.t, r.x, r.w, r.n]
 have h2 := aK [r.t, r.x, r.v]
 have h3 := aK [r.t, r.x]
 have h4 := aK [r.t, r.p.put.length]
 have h5 := aK [r.es.length]
 have h6 := gu r.es
 have h7 := aK [r.t]
 have hpl : r.p.put.length ≤ 992 := by
  by_cases h : r.p.right = true
  ·exact gD h
  ·simp [Ex.put, h]
 unfold Rec.body
 repeat' split
 all_goals simp only [List.length_append, List.length_cons, List.length_nil] at *
 all_goals omega
theorem jm (S : Nat → Prop) (own : Bool) (r : Rec) (v : Value) (w : World) (hsz : r.p.size ≤ 900) (hle : r.es.length ≤ 10000) (hv : aI w S own r v) :
  Calls Tryz.prog 15 #[v] w (kM r w) := by
 obtain ⟨k0, k1, k2, k3, k4, k5, k6, k7, rfl, hk1, hk2, hnums, he, hes⟩ := hv.conc
 obtain ⟨n6, hn6⟩ : ∃ n6, n6 = r.es.length := ⟨_, rfl⟩
 rw [← hn6] at hes hv hle ⊢
 have hbA : Below w.heap.size w ((w.alloc (.cells #[.int .i64 r.k, .int .u64 r.t, .int .u64 r.x, .int .u64 r.w, .int .u64 r.n, .int .u64 r.v, .int .i64 k0, .int .u64 k1, .int .u64 k2, .slice k3 k4 k5, .slice k6 n6 k7] 47)).alloc (.cells #[.int .u8 0, .slice none 0 0] 24)) := (br.alloc nl _).alloc (by simp) _
 have HN := hid (And.intro hn6 (And.intro hnums (And.intro he (And.intro hes hv))))
 have HBA := hid hbA
 clear hn6 hnums he hes hv hbA
 go_enter Tryz.func15, Tryz.ntmps15
 go_wp2_with fail
 refine (gZ S own r _ _ hsz (HN.out.2.2.2.2.below HBA.out nl)).mono ?_
 rintro e w1 ⟨rfl, hb1⟩
 have hz1 := hb1.size
 simp only [World.size_alloc] at hz1
 have hrb : w1.heap[w.heap.size]? = some (.cells #[.int .i64 r.k, .int .u64 r.t, .int .u64 r.x, .int .u64 r.w, .int .u64 r.n, .int .u64 r.v, .int .i64 k0, .int .u64 k1, .int .u64 k2, .slice k3 k4 k5, .slice k6 n6 k7] 47 (0, 0)) := (hb1.block _ (by simp; omega)).trans (heap_alloc2_old _ _ _)
 have hfb : w1.heap[w.heap.size + 1]? = some (.cells #[.int .u8 0, .slice none 0 0] 24 (0, 0)) := (hb1.block _ (by simp)).trans (aa _ _ _ (by simp))
 have hB1 : Below w.heap.size w w1 := HBA.out.trans (hb1.mono (by simp; omega))
 cases hr : r.right with
 | false =>
  have HQ := hid (And.intro hfb (And.intro hB1 hr))
  clear hb1 hrb hfb hB1 hr
  go_wp2_with (refine wpList_store_row rfl 24 (.tmp 2) (.tmp 8) rfl rfl (w.heap.size + 1) rfl _ rfl 24 _ HQ.out.1 (by kernel_rfl) rfl (by simp [Value.oneCell']) ?_)
  exact bodyPost_ret (v := .tuple #[.agg #[.int .u8 0, .slice none 0 0], .int .i64 50]) (aD rfl _ _ (w.heap.size + 1) 24 _ _ _ _ rfl (setRow_heap _ _ _ _ _ _ HQ.out.1) Tryz.underlying24 rfl (by kernel_rfl) rfl) rfl ⟨(fun h => by rw [HQ.out.2.2] at h; cases h), fun _ => rfl, below_setRow HQ.out.2.1 _ _ (by omega)⟩
 | true =>
  obtain ⟨hr1, hr7, _, _⟩ := (Rec.right_iff r).1 hr
  obtain ⟨k, hk⟩ := Int.eq_ofNat_of_zero_le (show 0 ≤ r.k by omega)
  have HQ := hid (And.intro hrb (And.intro hfb (And.intro hB1 (And.intro hr hk))))
  have b1 : w1.cell? ⟨w.heap.size, 1, none⟩ = some (.int .u64 r.t) := by rw [cell_of_row w1 _ 1 _ _ _ hrb]; rfl
  clear hb1 hrb hfb hB1 hr hk
  have hl1 : w.heap.size + 2 ≤ w1.heap.size := by omega
  have hl2 : w.heap.size < w1.heap.size := by omega
  have hl3 : w.heap.size + 1 < w1.heap.size := by omega
  go_wp2_with fail
  obtain ⟨W3, hW3⟩ : ∃ W3, W3 = w1.alloc (.cells #[.slice none 0 0] 111) := ⟨_, rfl⟩
  obtain ⟨wb, hwb⟩ : ∃ wb, wb = w1.heap.size := ⟨_, rfl⟩
  have hw3 : Wr 111 5 W3 wb (.slice none 0 0) [] := by rw [hW3, hwb]; exact ⟨heap_alloc_new _ _, World.ownsRow_nil _ _ _ _⟩
  have hz3 : W3.heap.size = wb + 1 := by rw [hW3, hwb]; simp
  have hb3 : Below w1.heap.size w1 W3 := by rw [hW3]; exact br.alloc nl _
  rw [← hW3, ← hwb]
  have hB3 : Below w.heap.size w W3 := HQ.out.2.2.1.trans (hb3.mono (by omega))
  have hrb3 : W3.heap[w.heap.size]? = some (.cells #[.int .i64 r.k, .int .u64 r.t, .int .u64 r.x, .int .u64 r.w, .int .u64 r.n, .int .u64 r.v, .int .i64 k0, .int .u64 k1, .int .u64 k2, .slice k3 k4 k5, .slice k6 n6 k7] 47 (0, 0)) := (hb3.block _ (by omega)).trans HQ.out.1
  have hfb3 : W3.heap[w.heap.size + 1]? = some (.cells #[.int .u8 0, .slice none 0 0] 24 (0, 0)) := (hb3.block _ (by omega)).trans HQ.out.2.1
  have hb4 : Below W3.heap.size W3 (W3.alloc (.cells #[.int .u64 (r.t : Nat)] 29)) := br.alloc nl _
  have hp3 : PrZ W3 w.heap.size wb (.slice none 0 0) (.slice none 0 0) [] #[.int .i64 r.k, .int .u64 r.t, .int .u64 r.x, .int .u64 r.w, .int .u64 r.n, .int .u64 r.v, .int .i64 k0, .int .u64 k1, .int .u64 k2, .slice k3 k4 k5, .slice k6 n6 k7] 47 W3 := ⟨hw3, Wrote.refl _ _ _, ⟨by omega, by omega, by omega, by simp [Value.ownBlock]⟩, hrb3⟩
  have he3 : av W3 (fun b => b < wb) own r.p (.agg #[.int .i64 k0, .int .u64 k1, .int .u64 k2, .slice k3 k4 k5]) := av.keep (w := w) (S := S) (S' := fun b => b < wb) (Below.keeps hB3 nl S) (fun b hb _ => by omega) HN.out.2.2.1
  have hes3 : bZ W3 (fun b => b < wb) own r.es (.slice k6 n6 k7) := bZ.keep (w := w) (S := S) (S' := fun b => b < wb) HN.out.2.2.2.1 (Below.keeps hB3 nl S) (fun b hb _ => by omega)
  have HW3 := hid (And.intro hw3 (And.intro he3 (And.intro hes3 (And.intro hfb3 (And.intro hB3 hz3)))))
  have HP4 := hid (hp3.below hb4)
  have ht64 : r.t < 18446744073709551616 := HN.out.2.1.1
  have hlw : w.heap.size + 2 ≤ wb := by omega
  have HWB := hid hwb
  clear b1 hW3 hw3 hb3 hB3 hrb3 hfb3 hp3 he3 hes3 hb4 hwb
  have hsl : Sl (W3.alloc (.cells #[.int .u64 (r.t : Nat)] 29)) (fun b => b ≠ wb ∧ (Value.slice none 0 0).ownBlock ≠ some b) true 1 [r.t].length (nums [r.t]) (.slice (some ⟨W3.heap.size, 0, none⟩) 1 1) := bR W3 _ #[.int .u64 (r.t : Nat)] 29 1 1 (by simp) (by omega) ⟨by omega, by simp [Value.ownBlock]⟩ (by omega)
  have hns : ∀ n ∈ [r.t], n < 18446744073709551616 := by intro n hn; simp at hn; omega
  rw [hz3] at hsl
  have HN4 := hid (aN true wb (.slice none 0 0) [] [r.t] (.slice (some ⟨wb + 1, 0, none⟩) 1 1) (W3.alloc (.cells #[.int .u64 (r.t : Nat)] 29)) HP4.out.wr hsl hns (by simp))
  clear hsl hns
  refine HN4.out.mono ?_
  rintro e w5 ⟨rfl, sv5, hw5, ht5⟩
  have hp5 := HP4.out.step hw5 ht5
  obtain ⟨L, hL⟩ : ∃ L, L = ay [r.t] := ⟨_, rfl⟩
  have hLl : L.length ≤ 1000 := by have := aK [r.t]; rw [hL]; simp at this ⊢; omega
  obtain ⟨M, hM⟩ : ∃ M, M = r.tailP := ⟨_, rfl⟩
  have hbody : r.body = L ++ M := by rw [hL, hM]; exact sj r
  simp only [List.nil_append] at hp5
  rw [← hL] at hp5
  obtain ⟨k, hk⟩ : ∃ k : Nat, r.k = (k : Int) := ⟨k, HQ.out.2.2.2.2⟩
  have HBD := hid (And.intro hbody (And.intro hM (And.intro hLl hk)))
  have HP5 := hid hp5
  clear hw5 ht5 hp5 hL hM hLl hbody
  have hkk : 1 ≤ k ∧ k ≤ 7 := by omega
  clear hk
  obtain ⟨fid, hf2, hf3, hf1⟩ := uP k hkk.1 hkk.2
  have hKI := jH k hkk.2
  have hKA : ∀ W : World, Calls Tryz.prog 48 #[] W fun e w' => e = .returned dF ∧ Below W.heap.size W w' := fun W => fJ W
  obtain ⟨T, hT⟩ : ∃ T, T = dF := ⟨_, rfl⟩
  rw [← hT] at hKI hKA
  have HKI := hid hKI
  have HKK := hid hKA
  have HFI := hid hf1
  have HF := hid (And.intro hf2 hf3)
  clear hT hKI hKA hf1 hf2 hf3
  go_wp2_with fail
  have hZ0 : PuZ W3 w.heap.size wb (.slice none 0 0) L M #[.int .i64 r.k, .int .u64 r.t, .int .u64 r.x, .int .u64 r.w, .int .u64 r.n, .int .u64 r.v, .int .i64 k0, .int .u64 k1, .int .u64 k2, .slice k3 k4 k5, .slice k6 n6 k7] 47 0 (fun _ => undef) w5.drew := ⟨_, HP5.out.below br.drew⟩
  have HZ0 := hid hZ0
  clear hZ0
  refine aF (w0 := w5) rfl [.eq (T), .eq (.pointer (some ⟨w.heap.size, 0, none⟩)), .eq (.int .i64 r.k), .eq (.agg (aG k)), .eq (.func (.func fid) #[] #[]), .eq (.agg #[.int .i64 r.k, .int .u64 r.t, .int .u64 r.x, .int .u64 r.w, .int .u64 r.n, .int .u64 r.v, .int .i64 k0, .int .u64 k1, .int .u64 k2, .slice k3 k4 k5, .slice k6 n6 k7]), .weq (.tuple #[])] (PuZ W3 w.heap.size wb (.slice none 0 0) L M #[.int .i64 r.k, .int .u64 r.t, .int .u64 r.x, .int .u64 r.w, .int .u64 r.n, .int .u64 r.v, .int .i64 k0, .int .u64 k1, .int .u64 k2, .slice k3 k4 k5, .slice k6 n6 k7] 47) (by kernel_rfl) (⟨fun _ => undef, HZ0.out⟩) ⟨?_, ?_, ?_, ?_, ?_, ?_, ?_, trivial⟩ (fun vs => [(13, T), (14, .pointer (some ⟨w.heap.size, 0, none⟩)), (15, .int .i64 r.k), (16, .agg (aG k)), (17, .func (.func fid) #[] #[]), (18, .agg #[.int .i64 r.k, .int .u64 r.t, .int .u64 r.x, .int .u64 r.w, .int .u64 r.n, .int .u64 r.v, .int .i64 k0, .int .u64 k1, .int .u64 k2, .slice k3 k4 k5, .slice k6 n6 k7]), (19, .tuple #[])]) (fun _ => rfl) 1 (by kernel_rfl) ?_
  ·refine ae.mk rfl rfl (fun t vs ac wx K Q hR hZ hK => ?_)
   go_simp
   go_at_call 48
   refine (HKK.out _).mono ?_
   rintro e w' ⟨rfl, hbx⟩
   exact hK _ (hZ.below hbx)
  ·refine ae.mk rfl rfl (fun t vs ac wx K Q hR hZ hK => ?_)
   have t1 : ac.tmps[1]? = some (.pointer (some ⟨w.heap.size, 0, none⟩)) := (hR.old 1 (by kernel_rfl)).trans (by kernel_rfl)
   go_simp
   exact hK _ hZ
  ·refine ae.mk rfl rfl (fun t vs ac wx K Q hR hZ hK => ?_)
   have t14 := hR.eq 1 (by kernel_rfl) rfl rfl
   have y0 := hZ.at 0
   go_simp
   exact hK _ hZ
  ·refine ae.mk rfl rfl (fun t vs ac wx K Q hR hZ hK => ?_)
   have t13 := hR.eq 0 (by kernel_rfl) rfl rfl
   have t15 := hR.eq 2 (by kernel_rfl) rfl rfl
   have hi := HKI.out wx
   rw [HBD.out.2.2.2] at t15
   go_simp
   exact hK _ hZ
  ·refine ae.mk rfl rfl (fun t vs ac wx K Q hR hZ hK => ?_)
   have t16 := hR.eq 3 (by kernel_rfl) rfl rfl
   have hi := HFI.out wx
   go_simp
   exact hK _ hZ
  ·refine ae.mk rfl rfl (fun t vs ac wx K Q hR hZ hK => ?_)
   have t1 : ac.tmps[1]? = some (.pointer (some ⟨w.heap.size, 0, none⟩)) := (hR.old 1 (by kernel_rfl)).trans (by kernel_rfl)
   have y0 := hZ.at 0
   have y1 := hZ.at 1
   have y2 := hZ.at 2
   have y3 := hZ.at 3
   have y4 := hZ.at 4
   have y5 := hZ.at 5
   have y6 := hZ.at 6
   have y7 := hZ.at 7
   have y8 := hZ.at 8
   have y9 := hZ.at 9
   have y10 := hZ.at 10
   go_simp
   exact hK _ hZ
  ·refine aL.mk rfl rfl (fun vs ac wx K Q hR hZ hK => ?_)
   have t17 := hR.eq 4 (by kernel_rfl) rfl rfl
   have t4 : ac.tmps[4]? = some (.pointer (some ⟨wb, 0, none⟩)) := (hR.old 4 (by kernel_rfl)).trans (by kernel_rfl)
   have t18 := hR.eq 5 (by kernel_rfl) rfl rfl
   have hcall := HF.out.1
   unfold Enters at hcall
   obtain ⟨svi, hZ1⟩ := hZ
   replace hZ1 : PrZ W3 w.heap.size wb (.slice none 0 0) svi L _ 47 wx := hZ1
   go_simp
   refine (HF.out.2 own r k0 k1 k2 k3 k4 k5 k6 n6 k7 wb svi L wx HN.out.1 HBD.out.2.2.2 hsz (by have := HN.out.1; omega) HN.out.2.1 (HW3.out.2.1.keepPr HW3.out.1 hZ1) (HW3.out.2.2.1.keepPr HW3.out.1 hZ1) hZ1.wr HBD.out.2.2.1).mono ?_
   rintro e w' ⟨rfl, svj, hwj, htj⟩
   rw [← HBD.out.2.1] at hwj
   exact hK _ _ aR ⟨svj, hZ1.step hwj htj⟩
  intro vs W6 hZ
  obtain ⟨svW, hZ6⟩ := hZ
  replace hZ6 : PrZ W3 w.heap.size wb (.slice none 0 0) svW (L ++ M) #[.int .i64 r.k, .int .u64 r.t, .int .u64 r.x, .int .u64 r.w, .int .u64 r.n, .int .u64 r.v, .int .i64 k0, .int .u64 k1, .int .u64 k2, .slice k3 k4 k5, .slice k6 n6 k7] 47 W6 := hZ6
  simp only [aM, List.foldl_cons, List.foldl_nil]
  obtain ⟨LM, hLM⟩ : ∃ LM, LM = L ++ M := ⟨_, rfl⟩
  have hLMl : LM.length ≤ 140737488355328 := by rw [hLM, ← HBD.out.1]; exact wB r hsz (by have := HN.out.1; omega)
  rw [← hLM] at hZ6
  have hfb6 : W6.heap[w.heap.size + 1]? = some (.cells #[.int .u8 0, .slice none 0 0] 24 (0, 0)) := (hZ6.wt.keep _ (by omega) (by omega) (by simp [Value.ownBlock])).trans HW3.out.2.2.2.1
  have hB6 : Below w.heap.size w W6 := HW3.out.2.2.2.2.1.trans ((hZ6.wt.below HW3.out.1).mono (by omega))
  have b60 : W6.cell? ⟨w.heap.size, 0, none⟩ = some (.int .i64 r.k) := hZ6.cell 0
  have l6 := hZ6.lt.2.1
  have l61 : w.heap.size + 1 < W6.heap.size := (Array.getElem?_eq_some_iff.1 hfb6).1
  have q8 : IntKind.u8.wrap r.k = r.k := by unfold IntKind.wrap; simp [IntKind.signed, IntKind.bits]; omega
  have HQ8 := hid q8
  have HLM := hid (And.intro hLMl hLM)
  have HW6 := hid hZ6.wr
  have HB6 := hid (And.intro hB6 b60)
  have hZ1 : PfZ W6 (w.heap.size + 1) LM r.k 24 0 (fun _ => undef) W6.drew := ⟨Rg.of_below br.drew, l61, fun _ => br.drew, (fun h => by omega), hfb6⟩
  have HZ1 := hid hZ1
  clear hZ6 hfb6 hB6 b60 q8 hLM hLMl hZ1
  go_simp
  go_wp2_with fail
  refine aF (w0 := W6) rfl [.eq (.pointer (some ⟨w.heap.size, 0, none⟩)), .eq (.int .i64 r.k), .eq (.int .u8 r.k), .wr, .fn 3 (fun v => .agg #[.int .u8 r.k, v]), .wr, .eq ((Value.int IntKind.i64 0))] (PfZ W6 (w.heap.size + 1) LM r.k 24) (by kernel_rfl) (⟨fun _ => undef, HZ1.out⟩) ⟨?_, ?_, ?_, ?_, ?_, ?_, ?_, trivial⟩ (fun vs => [(20, .pointer (some ⟨w.heap.size, 0, none⟩)), (21, .int .i64 r.k), (22, .int .u8 r.k), (23, vs 3), (24, .agg #[.int .u8 r.k, vs 3]), (3, (Value.int IntKind.i64 0))]) (fun _ => rfl) 2 (by kernel_rfl) ?_
  ·refine ae.mk rfl rfl (fun t vs ac wx K Q hR hZ hK => ?_)
   have t1 : ac.tmps[1]? = some (.pointer (some ⟨w.heap.size, 0, none⟩)) := (hR.old 1 (by kernel_rfl)).trans (by kernel_rfl)
   go_simp
   exact hK _ hZ
  ·refine ae.mk rfl rfl (fun t vs ac wx K Q hR hZ hK => ?_)
   have t20 := hR.eq 0 (by kernel_rfl) rfl rfl
   have y0 := hZ.rg.cell HB6.out.2 (by omega)
   go_simp
   exact hK _ hZ
  ·refine ae.mk rfl rfl (fun t vs ac wx K Q hR hZ hK => ?_)
   have t21 := hR.eq 1 (by kernel_rfl) rfl rfl
   have q8 := HQ8.out
   go_simp
   (try go_ints)
   exact hK _ hZ
  ·refine aL.mk rfl rfl (fun vs ac wx K Q hR hZ hK => ?_)
   have t4 : ac.tmps[4]? = some (.pointer (some ⟨wb, 0, none⟩)) := (hR.old 4 (by kernel_rfl)).trans (by kernel_rfl)
   go_simp
   go_at_call 49
   refine (jZ wb svW LM wx (HW6.out.below (hZ.z0 rfl)) HLM.out.1).mono ?_
   rintro e w' ⟨bv, rfl, hown, hbx⟩
   exact hK _ _ nofun (hZ.bytes hown hbx)
  ·refine ae.mk rfl rfl (fun t vs ac wx K Q hR hZ hK => ?_)
   have t22 := hR.eq 2 (by kernel_rfl) rfl rfl
   have t23 := hR.wr 3 (by kernel_rfl) rfl rfl
   obtain ⟨_, bad, bcap, ev, _⟩ := (hZ.by1 (by have h : 0 < t := hR.lo 3 .wr rfl rfl (by kernel_rfl); omega)).shape
   have hk := hK wx hZ
   change K (ac.put _ (.agg #[.int .u8 r.k, vs 3])) wx at hk
   rw [ev] at t23 hk
   clear ev
   go_simp
   exact hk
  ·refine aL.mk rfl rfl (fun vs ac wx K Q hR hZ hK => ?_)
   have t2 : ac.tmps[2]? = some (.pointer (some ⟨w.heap.size + 1, 0, none⟩)) := (hR.old 2 (by kernel_rfl)).trans (by kernel_rfl)
   have t24 := hR.fn 4 (by kernel_rfl) rfl rfl
   have hh := hZ.fr
   obtain ⟨_, bad, bcap, ev, _⟩ := (hZ.by1 (by omega)).shape
   rw [ev] at t24
   have f0 : wx.frozen? ⟨w.heap.size + 1, 0, none⟩ = false := by rw [frozen_of_row wx _ 0 _ _ hh]
   have f1 : wx.frozen? ⟨w.heap.size + 1, 1, none⟩ = false := by rw [frozen_of_row wx _ 1 _ _ hh]
   have c0 : wx.cell? ⟨w.heap.size + 1, 0, none⟩ = some (.int .u8 0) := by rw [cell_of_row wx _ 0 _ _ _ hh]; rfl
   have c1 : wx.cell? ⟨w.heap.size + 1, 1, none⟩ = some (.slice none 0 0) := by rw [cell_of_row wx _ 1 _ _ _ hh]; rfl
   have HEV := hid ev
   clear ev
   go_simp
   exact hK undef _ nofun (hZ.store HEV.out)
  ·refine ae.mk rfl rfl (fun t vs ac wx K Q hR hZ hK => ?_)
   go_simp
   exact hK _ hZ
  intro vs wN hZ
  obtain ⟨_, bad, bcap, ev, _⟩ := (hZ.by1 (by omega)).shape
  have hby := hZ.by1 (by omega)
  have hfr := hZ.fr
  rw [ev] at hby hfr
  have HE := hid (And.intro hby (And.intro hfr ((hZ.rg.below (by omega)))))
  simp only [aM, List.foldl_cons, List.foldl_nil]
  rw [ev]
  clear ev hZ hby hfr
  go_simp
  go_wp2_with fail
  have hlg : w.heap.size ≤ W6.heap.size := HB6.out.1.size
  refine bodyPost_ret (v := .tuple #[.agg #[.int .u8 r.k, .slice bad LM.length bcap], .int .i64 0]) (aD rfl _ _ (w.heap.size + 1) 24 _ _ _ _ rfl HE.out.2.1 Tryz.underlying24 rfl (by kernel_rfl) rfl) rfl ⟨fun _ => ⟨_, rfl, ?_⟩, (fun h => by rw [HQ.out.2.2.2.1] at h; cases h), HB6.out.1.trans (HE.out.2.2.mono (by omega))⟩
  have hbd : r.body = LM := by rw [HBD.out.1, HLM.out.2]
  rw [hbd]
  exact Sl.keep HE.out.1 (by omega) (fun _ _ _ => rfl) (fun b _ hb => by omega)
end Go.Proofs.YtmgbhhmipmgcpaaGreatDoor
