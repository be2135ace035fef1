/- Walks. -/
import Derived.Test.YtmgbhhmipmgcpaaGreatDoorQ23
import Derived.Test.YtmgbhhmipmgcpaaGreatDoorQ49
set_option maxHeartbeats 8000000
set_option maxRecDepth 100000
namespace Go.Proofs.YtmgbhhmipmgcpaaGreatDoor
open Go.RowKit Go
set_option linter.unusedVariables false
set_option linter.unusedSimpArgs false
theorem mU (S : Nat → Prop) (l : List (List UInt8)) (v : Value) (w : World) (h : dm w S l v) (hl : l.length ≤ 1000000) (hlen : (Lib.join l [32]).length ≤ 140737488355328) :
  Calls Tryz.prog 50 #[v] w fun e w' => e = .returned (.string ⟨(Lib.join l [32]).toArray⟩) ∧ Below w.heap.size w w' := by
 have HJ := hid (nJ S l v [32] w h hl hlen)
 clear h
 go_enter Tryz.func50, Tryz.ntmps50
 go_wp2_with fail
 refine HJ.out.mono ?_
 rintro e w1 ⟨rfl, hb1⟩
 have HB := hid hb1
 clear hb1
 go_wp2_with fail
 go_ret
 exact ⟨rfl, HB.out⟩
theorem sI (k : Nat) (h1 : 1 ≤ k) (h7 : k ≤ 7) : ∃ fid, (aG k)[4]? = some (.func (.func fid) #[] #[]) ∧ Enters fid ∧ jU k fid := by
 have hc : k = 1 ∨ k = 2 ∨ k = 3 ∨ k = 4 ∨ k = 5 ∨ k = 6 ∨ k = 7 := by omega
 rcases hc with rfl | rfl | rfl | rfl | rfl | rfl | rfl
 ·exact ⟨82, rfl, (fun _ _ => by kernel_rfl), iG 1 (by omega)⟩
 ·exact ⟨118, rfl, (fun _ _ => by kernel_rfl), qH⟩
 ·exact ⟨124, rfl, (fun _ _ => by kernel_rfl), oV⟩
 ·exact ⟨129, rfl, (fun _ _ => by kernel_rfl), mR⟩
 ·exact ⟨140, rfl, (fun _ _ => by kernel_rfl), qI⟩
 ·exact ⟨82, rfl, (fun _ _ => by kernel_rfl), iG 6 (by omega)⟩
 ·exact ⟨82, rfl, (fun _ _ => by kernel_rfl), iG 7 (by omega)⟩
theorem wF (l : List (List UInt8)) : ∀ u ∈ strs l, u.oneCell' = true := by
 intro u hu
 simp only [strs, List.mem_map] at hu
 obtain ⟨x, _, rfl⟩ := hu
 rfl
theorem wG : ∀ (l : List (List UInt8)) (n : Nat), (∀ x ∈ l, x.length ≤ n) → (Lib.join l [32]).length ≤ (n + 1) * l.length
 | [], n, _ => by simp [Lib.join, List.intercalate]
 | x :: l, n, h => by
  rw [Lib.join_cons]
  have h1 := h x (by simp)
  have key : ∀ l : List (List UInt8), (∀ x ∈ l, x.length ≤ n) → (Lib.joinTail [32] l).length ≤ (n + 1) * l.length := by
   intro l
   induction l with
   | nil => intro _; simp [Lib.joinTail]
   | cons a l ih =>
    intro h
    have h2 := h a (by simp)
    have h3 := ih (fun y hy => h y (List.mem_cons_of_mem _ hy))
    simp only [Lib.joinTail, List.map_cons, List.flatten_cons, List.length_append, List.length_cons, List.length_nil, Nat.mul_add] at h3 ⊢
    omega
  have h2 := key l (fun y hy => h y (List.mem_cons_of_mem _ hy))
  simp only [List.length_append, List.length_cons, Nat.mul_add]; omega
theorem kE {r : Rec} (hn : r.nums) (hsz : r.p.size ≤ 900) (hle : r.es.length ≤ 10000) : (∀ x ∈ r.words, x.length ≤ 45000) ∧ r.words.length ≤ 10003 := by
 obtain ⟨n1, n2, n3, n4, n5, n6, n7⟩ := hn
 have dt := ak _ n1
 have dx := ak _ n2
 have dw := ak _ n3
 have dn := ak _ n4
 have dv := ak _ n5
 have dp := Ex.told_len r.p n6
 have hw : (aC r.k).length ≤ 6 := by
  unfold aC
  repeat' split
  all_goals decide
 have hv : (dU r.w r.n).length ≤ 41 := by simp only [dU, List.length_append, List.length_cons]; omega
 have he : ∀ e ∈ r.es, e.told.length ≤ 70 := fun e he => by
  obtain ⟨a1, a2, a3⟩ := n7 e he
  have := ak _ a1
  have := ak _ a2
  have := ak _ a3
  have h4 : (cB e.m).length = 1 := by unfold cB; split <;> rfl
  simp only [Ent.told, dU, List.length_append, List.length_cons]; omega
 have ht : (∀ x ∈ r.tail, x.length ≤ 45000) ∧ r.tail.length ≤ 10001 := by
  unfold Rec.tail
  split
  ·refine ⟨fun x hx => ?_, by simp⟩
   simp only [List.mem_cons, List.not_mem_nil, or_false] at hx
   rcases hx with rfl | rfl <;> omega
  split
  ·refine ⟨fun x hx => ?_, by simp⟩
   simp only [List.mem_cons, List.not_mem_nil, or_false] at hx
   rcases hx with rfl | rfl <;> omega
  split
  ·refine ⟨fun x hx => ?_, by simp⟩
   simp only [List.mem_cons, List.not_mem_nil, or_false] at hx
   rw [hx]; omega
  split
  ·refine ⟨fun x hx => ?_, by simp; omega⟩
   simp only [List.mem_cons, List.mem_map] at hx
   rcases hx with rfl | ⟨e, h1, rfl⟩
   ·omega
   ·have := he e h1; omega
  ·exact ⟨by simp, by simp⟩
 refine ⟨fun x hx => ?_, by simp only [Rec.words, List.length_cons]; have := ht.2; omega⟩
 simp only [Rec.words, List.mem_cons] at hx
 rcases hx with rfl | rfl | hx
 ·omega
 ·omega
 ·exact ht.1 x hx
structure TxZ (W : World) (a b : List UInt8) (tl : List (List UInt8)) (t : Nat) (vs : Nat → Value) (w : World) : Prop where
 bel : Below W.heap.size W w
 hd : vs 5 ≠ undef → t = 0 → ∃ g, vs 5 = .slice (some ⟨g, 0, none⟩) 2 2 ∧ w.ownsRow W.heap.size 9 1 (.slice (some ⟨g, 0, none⟩) 2 2) 2 (strs [a, b])
 tx : vs 9 ≠ undef → t = 0 → dm w (fun b => W.heap.size ≤ b) tl (vs 9)
 all : 1 ≤ t → dm w (fun b => W.heap.size ≤ b) (a :: b :: tl) (vs 10)
section
variable {W w w' : World} {a b : List UInt8} {tl : List (List UInt8)} {t : Nat} {vs : Nat → Value}
theorem TxZ.below (h : TxZ W a b tl t vs w) (hb : Below w.heap.size w w') : TxZ W a b tl t vs w' :=
 ⟨h.bel.trans (hb.mono h.bel.size), fun h1 h2 => by
  obtain ⟨g, e, ho⟩ := h.hd h1 h2
  exact ⟨g, e, ownsRow_below ho hb nl⟩, fun h1 h2 => Sl.below (h.tx h1 h2) (by omega) hb nl, fun h1 => Sl.below (h.all h1) (by omega) hb nl⟩
theorem TxZ.mkHd (h : TxZ W a b tl t vs w) (hu : vs 5 = undef) : TxZ W a b tl t (upd vs 5 (.slice (some ⟨w.heap.size, 0, none⟩) 2 2)) (w.alloc (.cells #[.string ⟨a.toArray⟩, .string ⟨b.toArray⟩] 9)) := by
 have hb : Below w.heap.size w (w.alloc (.cells #[.string ⟨a.toArray⟩, .string ⟨b.toArray⟩] 9)) := br.alloc nl _
 have h' := h.below hb
 refine ⟨h'.bel, fun _ _ => ⟨_, upd_self _ _ _, ?_⟩, fun h1 h2 => ?_, fun h1 => ?_⟩
 ·exact ownsRow_lit w W.heap.size #[.string ⟨a.toArray⟩, .string ⟨b.toArray⟩] 9 h.bel.size (by simp)
 ·rw [upd_ne _ _ (by omega)] at h1 ⊢; exact h'.tx h1 h2
 ·rw [upd_ne _ _ (by omega)]; exact h'.all h1
theorem TxZ.mkTl (h : TxZ W a b tl t vs w) {v : Value} (hv : dm w' (fun b => w.heap.size ≤ b) tl v) (hb : Below w.heap.size w w') : TxZ W a b tl t (upd vs 9 v) w' := by
 have h' := h.below hb
 have hs := h.bel.size
 refine ⟨h'.bel, fun h1 h2 => ?_, fun _ _ => ?_, fun h1 => ?_⟩
 ·rw [upd_ne _ _ (by omega)] at h1 ⊢; exact h'.hd h1 h2
 ·rw [upd_self]; exact Sl.keep hv (by omega) (fun _ _ _ => rfl) (fun b _ hb => by omega)
 ·rw [upd_ne _ _ (by omega)]; exact h'.all h1
theorem TxZ.app (h : TxZ W a b tl 0 vs w) {g : Nat} {v' : Value} (ho : w'.ownsRow W.heap.size 9 1 v' (2 + tl.length) (strs [a, b] ++ strs tl)) (hg : w.grownBy w' (Value.slice (some ⟨g, 0, none⟩) 2 2).ownBlock) (hgl : W.heap.size ≤ g) : TxZ W a b tl 1 (upd vs 10 v') w' := by
 refine ⟨Below.grown2 h.bel hg (fun k hk => by simp [Value.ownBlock] at hk; omega) h.bel.size nl, (fun _ h => by omega), (fun _ h => by omega), fun _ => ?_⟩
 rw [upd_self, ← iA] at *
 have h2 := Sl.of_owns ho (by omega)
 unfold dm
 have e : (a :: b :: tl).length = 2 + tl.length := by simp; omega
 rw [e]
 exact Sl.keep h2 (by omega) (fun _ _ _ => rfl) (fun b _ hb => hb.2)
end
theorem qL (S : Nat → Prop) (own : Bool) (r : Rec) (v : Value) (w : World) (hsz : r.p.size ≤ 900) (hle : r.es.length ≤ 10000) (hv : aI w S own r v) (hL : Lv w.heap.size w) :
  Calls Tryz.prog 16 #[v] w fun e w' => e = .returned (.string ⟨r.text.toArray⟩) ∧ Below w.heap.size w w' := by
 obtain ⟨i0, hi0, hz0, hz1, hz2⟩ := info_parts nZ
 have HI := hid (And.intro hi0 (And.intro hz0 (And.intro hz1 hz2)))
 clear hi0 hz0 hz1 hz2
 obtain ⟨k0, k1, k2, k3, k4, k5, k6, k7, rfl, hk1, hk2, hnums, he, hes⟩ := hv.conc
 obtain ⟨n6, hn6⟩ : ∃ n6, n6 = r.es.length := ⟨_, rfl⟩
 rw [← hn6] at hes hv ⊢
 have hb0 : Below w.heap.size w (w.alloc (.cells #[.int .i64 r.k, .int .u64 r.t, .int .u64 r.x, .int .u64 r.w, .int .u64 r.n, .int .u64 r.v, .int .i64 k0, .int .u64 k1, .int .u64 k2, .slice k3 k4 k5, .slice k6 n6 k7] 47)) := br.alloc nl _
 have hh0 : (w.alloc (.cells #[.int .i64 r.k, .int .u64 r.t, .int .u64 r.x, .int .u64 r.w, .int .u64 r.n, .int .u64 r.v, .int .i64 k0, .int .u64 k1, .int .u64 k2, .slice k3 k4 k5, .slice k6 n6 k7] 47)).heap[w.heap.size]? = some (.cells #[.int .i64 r.k, .int .u64 r.t, .int .u64 r.x, .int .u64 r.w, .int .u64 r.n, .int .u64 r.v, .int .i64 k0, .int .u64 k1, .int .u64 k2, .slice k3 k4 k5, .slice k6 n6 k7] 47 (0, 0)) := aa _ _ _ rfl
 have HN := hid (And.intro hn6 (And.intro hnums (And.intro he (And.intro hes hv))))
 have HB0 := hid (And.intro hb0 hh0)
 have HL := hid hL
 clear hn6 he hes hv hb0 hh0 hL
 go_enter Tryz.func16, Tryz.ntmps16
 go_wp2_with fail
 refine (gZ S own r _ _ hsz (HN.out.2.2.2.2.below HB0.out.1 nl)).mono ?_
 rintro e w1 ⟨rfl, hb1⟩
 have hz1 := hb1.size
 simp only [World.size_alloc] at hz1
 have hrb : w1.heap[w.heap.size]? = some (.cells #[.int .i64 r.k, .int .u64 r.t, .int .u64 r.x, .int .u64 r.w, .int .u64 r.n, .int .u64 r.v, .int .i64 k0, .int .u64 k1, .int .u64 k2, .slice k3 k4 k5, .slice k6 n6 k7] 47 (0, 0)) := (hb1.block _ (by simp)).trans HB0.out.2
 have hB1 : Below w.heap.size w w1 := HB0.out.1.trans (hb1.mono (by simp))
 cases hr : r.right with
 | false =>
  have HQ := hid (And.intro hB1 (show r.text = [] from by unfold Rec.text; rw [hr]; rfl))
  clear hb1 hrb hB1 hr
  go_wp2_with fail
  go_ret
  rw [HQ.out.2]
  exact ⟨rfl, HQ.out.1⟩
 | true =>
  obtain ⟨hr1, hr7, _, _⟩ := (Rec.right_iff r).1 hr
  obtain ⟨k, hk⟩ := Int.eq_ofNat_of_zero_le (show 0 ≤ r.k by omega)
  have hkk : 1 ≤ k ∧ k ≤ 7 := by omega
  have b0 : w1.cell? ⟨w.heap.size, 0, none⟩ = some (.int .i64 (k : Nat)) := by rw [cell_of_row w1 _ 0 _ _ _ hrb, ← hk]; rfl
  have l0 : w.heap.size < w1.heap.size := by omega
  have HQ := hid (And.intro hrb (And.intro hB1 (And.intro hr hk)))
  have hTX : r.text = Lib.join (aC k :: Lib.decDigits r.t :: r.tail) [32] := by unfold Rec.text; rw [hr, if_pos rfl]; unfold Rec.told Rec.words; rw [hk]
  have HTX := hid hTX
  clear hb1 hrb hB1 hr hk hTX
  have hKI := jH k hkk.2
  have hKA : ∀ W : World, Calls Tryz.prog 48 #[] W fun e w' => e = .returned dF ∧ Below W.heap.size W w' := fun W => fJ W
  have hinf : (Tryz.prog.info? 89).map (·.size) = some 6 := by kernel_rfl
  obtain ⟨T, hT⟩ : ∃ T, T = dF := ⟨_, rfl⟩
  rw [← hT] at hKI hKA
  have HKI := hid hKI
  have HKK := hid hKA
  have HINF := hid hinf
  clear hT hKI hKA hinf
  go_wp2_with fail
  refine aA (w0 := w1) rfl [.eq (T), .eq (.pointer (some ⟨w.heap.size, 0, none⟩)), .eq (.int .i64 (k : Nat)), .eq (.agg (aG k)), .box 89 #[.string ⟨#[]⟩, .nilFunc, .nilFunc, .nilFunc, .nilFunc, .nilFunc], .sto 4 3] (by kernel_rfl) ⟨?_, ?_, ?_, ?_, ?_, ?_, trivial⟩ (fun vs => [(7, (T)), (8, (.pointer (some ⟨w.heap.size, 0, none⟩))), (9, (.int .i64 (k : Nat))), (10, (.agg (aG k))), (3, vs 4)]) (fun _ => rfl) ?_
  ·refine rs fun S a wx K Q hR hK => ?_
   go_simp
   go_at_call 48
   refine (HKK.out _).mono ?_
   rintro e w' ⟨rfl, hbx⟩
   exact hK _ _ hbx rfl
  ·refine rs fun S a wx K Q hR hK => ?_
   have t1 : a.tmps[1]? = some (.pointer (some ⟨w.heap.size, 0, none⟩)) := (hR.old 1 (by kernel_rfl)).trans (by kernel_rfl)
   go_simp
   exact hK _ _ br rfl
  ·refine rs fun S a wx K Q hR hK => ?_
   have t8 := hR.eq 1 (by kernel_rfl) rfl rfl
   have y0 := (hR.bel.cell l0).trans b0
   go_simp
   exact hK _ _ br rfl
  ·refine rs fun S a wx K Q hR hK => ?_
   have t7 := hR.eq 0 (by kernel_rfl) rfl rfl
   have t9 := hR.eq 2 (by kernel_rfl) rfl rfl
   have hi := HKI.out wx
   go_simp
   exact hK _ _ br rfl
  ·intro w; kernel_rfl
  ·exact StoOK.mk rfl rfl rfl HINF.out (fun S v w h => ⟨aG k, h, bD k, eU k⟩)
  intro S1 vs w2 hD
  obtain ⟨g, cs, e3, hgl, hgl2, hg3, e10, _⟩ := hD.box 5 4 3 _ _ rfl rfl
  have e10' : vs 3 = .agg (aG k) := hD.eqs 3 _ rfl
  have hcs : cs = aG k := by rw [e10'] at e10; injection e10 with e10; exact e10.symm
  subst hcs
  have hb2 := hD.bel
  have hrb2 : w2.heap[w.heap.size]? = some (.cells #[.int .i64 r.k, .int .u64 r.t, .int .u64 r.x, .int .u64 r.w, .int .u64 r.n, .int .u64 r.v, .int .i64 k0, .int .u64 k1, .int .u64 k2, .slice k3 k4 k5, .slice k6 n6 k7] 47 (0, 0)) := (hb2.block _ l0).trans HQ.out.1
  have e3' : vs 4 = .pointer (some ⟨g, 0, none⟩) := e3
  simp only [aM, List.foldl_cons, List.foldl_nil]
  rw [e3']
  have HB2 := hid (HQ.out.2.1.trans (hb2.mono (by omega)))
  have hz2 := hb2.size
  obtain ⟨fid, hf1, hf2, hf3⟩ := sI k hkk.1 hkk.2
  have hw0 := iF k hkk.1 hkk.2
  obtain ⟨DT, hDT⟩ : ∃ DT : ByteArray, DT = ⟨(Lib.decDigits r.t).toArray⟩ := ⟨_, rfl⟩
  obtain ⟨WB, hWB⟩ : ∃ WB : ByteArray, WB = ⟨(aC k).toArray⟩ := ⟨_, rfl⟩
  rw [← hWB] at hw0
  have c0 : w2.cell? ⟨g, 0, none⟩ = some (.string WB) := by rw [cell_of_row w2 _ 0 _ _ _ hg3]; exact hw0
  have c4 : w2.cell? ⟨g, 4, none⟩ = some (.func (.func fid) #[] #[]) := by rw [cell_of_row w2 _ 4 _ _ _ hg3]; exact hf1
  have hr0 : ∀ o, w2.cell? ⟨w.heap.size, o, none⟩ = #[.int .i64 r.k, .int .u64 r.t, .int .u64 r.x, .int .u64 r.w, .int .u64 r.n, .int .u64 r.v, .int .i64 k0, .int .u64 k1, .int .u64 k2, .slice k3 k4 k5, .slice k6 n6 k7][o]? := fun o => cell_of_row w2 _ o _ _ _ hrb2
  have HD : Hid (∀ W : World, Lv W.heap.size W → Calls Tryz.prog 51 #[.int .u64 (r.t : Nat)] W fun e w' => e = .returned (.string DT) ∧ Below W.heap.size W w') := hid (fun W h => by rw [hDT]; exact bH _ W HN.out.2.1.1 h)
  have HF := hid (And.intro hf2 hf3)
  have HWB := hid (And.intro hWB hDT)
  have HR0 := hid hr0
  have HZ : Hid (TxZ w2 (aC k) (Lib.decDigits r.t) r.tail 0 (fun _ => undef) w2.drew) := hid ⟨br.drew, (fun h => absurd rfl h), (fun h => absurd rfl h), (fun h => by omega)⟩
  have HLB : Hid (∀ wx, Below w2.heap.size w2 wx → Lv wx.heap.size wx) := hid (fun wx hx => (HL.out.below (HB2.out.trans (hx.mono HB2.out.size))).mono (HB2.out.trans (hx.mono HB2.out.size)).size)
  have l2 : w.heap.size < w2.heap.size := by omega
  have hJL : Hid ((Lib.join (aC k :: Lib.decDigits r.t :: r.tail) [32]).length ≤ 140737488355328 ∧ (aC k :: Lib.decDigits r.t :: r.tail).length ≤ 1000000) := hid (by
   have h := kE HN.out.2.1 hsz hle
   have hw : r.words = aC k :: Lib.decDigits r.t :: r.tail := by unfold Rec.words; rw [HQ.out.2.2.2]
   rw [← hw]
   have h2 := wG _ _ h.1
   have h3 : (45000 + 1) * r.words.length ≤ (45000 + 1) * 10003 := Nat.mul_le_mul_left _ h.2
   exact ⟨by omega, by omega⟩)
  obtain ⟨TX, hTXe⟩ : ∃ TX : ByteArray, TX = ⟨(Lib.join (aC k :: Lib.decDigits r.t :: r.tail) [32]).toArray⟩ := ⟨_, rfl⟩
  have HTE := hid hTXe
  have htl : Hid (r.tail.length ≤ 10001) := hid (by have h := (kE HN.out.2.1 hsz hle).2; simp only [Rec.words, List.length_cons] at h; omega)
  clear hD e3 e10 e10' hg3 hb2 hrb2 e3' hf1 hf2 hf3 hw0 hDT hWB hr0 hTXe b0
  go_simp
  go_wp2_with fail
  refine oD (w0 := w2) rfl [.eq (.pointer (some ⟨g, 0, none⟩)), .eq (.string WB), .eq (.pointer (some ⟨w.heap.size, 1, none⟩)), .eq (.int .u64 r.t), .eq (.string DT), .al, .eq (.pointer (some ⟨g, 4, none⟩)), .eq (.func (.func fid) #[] #[]), .eq (.agg #[.int .i64 r.k, .int .u64 r.t, .int .u64 r.x, .int .u64 r.w, .int .u64 r.n, .int .u64 r.v, .int .i64 k0, .int .u64 k1, .int .u64 k2, .slice k3 k4 k5, .slice k6 n6 k7]), .al, .wr, .eq (.string TX), .eq (.string TX)] (TxZ w2 (aC k) (Lib.decDigits r.t) r.tail) (by kernel_rfl) (⟨fun _ => undef, HZ.out, fun _ _ => rfl⟩) ⟨?_, ?_, ?_, ?_, ?_, ?_, ?_, ?_, ?_, ?_, ?_, ?_, ?_, trivial⟩ (fun vs => [(11, .pointer (some ⟨g, 0, none⟩)), (12, .string WB), (13, .pointer (some ⟨w.heap.size, 1, none⟩)), (14, .int .u64 r.t), (15, .string DT), (16, vs 5), (17, .pointer (some ⟨g, 4, none⟩)), (18, .func (.func fid) #[] #[]), (19, .agg #[.int .i64 r.k, .int .u64 r.t, .int .u64 r.x, .int .u64 r.w, .int .u64 r.n, .int .u64 r.v, .int .i64 k0, .int .u64 k1, .int .u64 k2, .slice k3 k4 k5, .slice k6 n6 k7]), (20, vs 9), (21, vs 10), (22, .string TX), (2, .string TX)]) (fun _ => rfl) 1 (by kernel_rfl) ?_
  ·refine gy.mk rfl rfl (fun t vs ac wx K Q hR hZ hK => ?_)
   have t3 : ac.tmps[3]? = some (.pointer (some ⟨g, 0, none⟩)) := (hR.old 3 (by kernel_rfl)).trans (by kernel_rfl)
   go_simp
   exact hK _ hZ
  ·refine gy.mk rfl rfl (fun t vs ac wx K Q hR hZ hK => ?_)
   have t11 := hR.eq 0 (by kernel_rfl) rfl rfl
   have y0 := (hZ.bel.cell hgl2).trans c0
   go_simp
   exact hK _ hZ
  ·refine gy.mk rfl rfl (fun t vs ac wx K Q hR hZ hK => ?_)
   have t1 : ac.tmps[1]? = some (.pointer (some ⟨w.heap.size, 0, none⟩)) := (hR.old 1 (by kernel_rfl)).trans (by kernel_rfl)
   go_simp
   exact hK _ hZ
  ·refine gy.mk rfl rfl (fun t vs ac wx K Q hR hZ hK => ?_)
   have t13 := hR.eq 2 (by kernel_rfl) rfl rfl
   have y0 := (hZ.bel.cell l2).trans (HR0.out 1)
   go_simp
   exact hK _ hZ
  ·refine gy.mk rfl rfl (fun t vs ac wx K Q hR hZ hK => ?_)
   have t14 := hR.eq 3 (by kernel_rfl) rfl rfl
   go_simp
   go_at_call 51
   refine (HD.out _ (HLB.out _ hZ.bel)).mono ?_
   rintro e w' ⟨rfl, hbx⟩
   exact hK _ (hZ.below hbx)
  ·refine jP.mk rfl (fun t vs ac wx K Q hR hu hZ hK => ?_)
   have t12 := hR.eq 1 (by kernel_rfl) rfl rfl
   have t15 := hR.eq 4 (by kernel_rfl) rfl rfl
   go_simp
   have h := hZ.mkHd hu
   rw [← HWB.out.1, ← HWB.out.2] at h
   exact hK _ _ nofun h
  ·refine gy.mk rfl rfl (fun t vs ac wx K Q hR hZ hK => ?_)
   have t3 : ac.tmps[3]? = some (.pointer (some ⟨g, 0, none⟩)) := (hR.old 3 (by kernel_rfl)).trans (by kernel_rfl)
   go_simp
   exact hK _ hZ
  ·refine gy.mk rfl rfl (fun t vs ac wx K Q hR hZ hK => ?_)
   have t17 := hR.eq 6 (by kernel_rfl) rfl rfl
   have y0 := (hZ.bel.cell hgl2).trans c4
   go_simp
   exact hK _ hZ
  ·refine gy.mk rfl rfl (fun t vs ac wx K Q hR hZ hK => ?_)
   have t1 : ac.tmps[1]? = some (.pointer (some ⟨w.heap.size, 0, none⟩)) := (hR.old 1 (by kernel_rfl)).trans (by kernel_rfl)
   have y0 := (hZ.bel.cell l2).trans (HR0.out 0)
   have y1 := (hZ.bel.cell l2).trans (HR0.out 1)
   have y2 := (hZ.bel.cell l2).trans (HR0.out 2)
   have y3 := (hZ.bel.cell l2).trans (HR0.out 3)
   have y4 := (hZ.bel.cell l2).trans (HR0.out 4)
   have y5 := (hZ.bel.cell l2).trans (HR0.out 5)
   have y6 := (hZ.bel.cell l2).trans (HR0.out 6)
   have y7 := (hZ.bel.cell l2).trans (HR0.out 7)
   have y8 := (hZ.bel.cell l2).trans (HR0.out 8)
   have y9 := (hZ.bel.cell l2).trans (HR0.out 9)
   have y10 := (hZ.bel.cell l2).trans (HR0.out 10)
   go_simp
   exact hK _ hZ
  ·refine jP.mk rfl (fun t vs ac wx K Q hR hu hZ hK => ?_)
   have t18 := hR.eq 7 (by kernel_rfl) rfl rfl
   have t19 := hR.eq 8 (by kernel_rfl) rfl rfl
   have hcall := HF.out.1
   unfold Enters at hcall
   go_simp
   refine (HF.out.2 S own r k0 k1 k2 k3 k4 k5 k6 n6 k7 wx HN.out.1 HQ.out.2.2.2 hsz hle HN.out.2.1 HQ.out.2.2.1 (HN.out.2.2.1.below (HB2.out.trans (hZ.bel.mono HB2.out.size)) nl) (HN.out.2.2.2.1.below (HB2.out.trans (hZ.bel.mono HB2.out.size)) nl) (HLB.out _ hZ.bel)).mono ?_
   rintro e w' ⟨u, rfl, hu2, hbx⟩
   obtain ⟨_, _, uad, ucap, rfl, _⟩ := hu2.shape
   exact hK _ _ nofun (hZ.mkTl hu2 hbx)
  ·refine jh.mk rfl rfl (fun vs ac wx K Q hR hZ hK => ?_)
   have t16 := hR.al 5 (by kernel_rfl) rfl rfl
   have t20 := hR.al 9 (by kernel_rfl) rfl rfl
   obtain ⟨gg, eg, ho⟩ := hZ.hd (hR.made 5 rfl (by kernel_rfl)) rfl
   have htl2 := hZ.tx (hR.made 9 rfl (by kernel_rfl)) rfl
   obtain ⟨_, _, vad, vcap, ev, _⟩ := htl2.shape
   rw [ev] at htl2 t20
   rw [eg] at t16
   have hgb := (ho.lt gg (by simp [Value.ownBlock])).1
   refine gL wx (.tmp 16) (.tmp 20) 76 rfl w2.heap.size 9 i0 _ 1 16 Tryz.underlying76 HI.out.1 HI.out.2.1 HI.out.2.2.1 HI.out.2.2.2 rfl (by omega) _ 2 _ (iO t16) ho _ true r.tail.length (strs r.tail) _ (iO t20) htl2 (wF _) (by have := htl.out; unfold maxLen; omega) (by have := htl.out; omega) hZ.bel.size ?_
   intro v' w' hown' hgrow hat
   exact hK _ _ nofun (hZ.app hown' hgrow hgb)
  ·refine gy.mk rfl rfl (fun t vs ac wx K Q hR hZ hK => ?_)
   have t21 := hR.wr 10 (by kernel_rfl) rfl rfl
   have ht : 0 < t := hR.lo 10 .wr rfl rfl (by kernel_rfl)
   have ha := hZ.all (by omega)
   obtain ⟨_, _, vad, vcap, ev, _⟩ := ha.shape
   rw [ev] at ha t21
   clear ev
   go_simp
   go_at_call 50
   refine (mU _ _ _ _ ha hJL.out.2 hJL.out.1).mono ?_
   rintro e w' ⟨rfl, hbx⟩
   rw [← HTE.out]
   exact hK _ (hZ.below hbx)
  ·refine gy.mk rfl rfl (fun t vs ac wx K Q hR hZ hK => ?_)
   have t22 := hR.eq 11 (by kernel_rfl) rfl rfl
   go_simp
   exact hK _ hZ
  intro vs wN hZ hM
  have HE := hid (HB2.out.trans (hZ.bel.mono HB2.out.size))
  simp only [aM, List.foldl_cons, List.foldl_nil]
  clear hZ hM
  go_simp
  go_wp2_with fail
  go_ret
  rw [HTX.out, HTE.out]
  exact ⟨rfl, HE.out⟩
end Go.Proofs.YtmgbhhmipmgcpaaGreatDoor
