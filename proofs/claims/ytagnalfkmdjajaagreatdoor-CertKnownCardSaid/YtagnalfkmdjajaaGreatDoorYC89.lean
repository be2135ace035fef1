/- Walks. -/
import Derived.Test.YtagnalfkmdjajaaGreatDoorYC88
set_option maxHeartbeats 4000000
set_option maxRecDepth 100000
namespace Go.Proofs.YtagnalfkmdjajaaGreatDoor
open Go.RowKit Go
set_option linter.unusedVariables false
set_option linter.unusedSimpArgs false
def Crt.bytes (c : Crt) : List UInt8 := aS (16 + c.k.toNat) (ae c.pays)
theorem Crt.pays_le {c : Crt} (hr : c.right = true) (hl : c.w.length ≤ 1000) : (ae c.pays).length ≤ 700000 := by
 have h1 := aJ c.pays
 obtain ⟨_, _, _, _, _, _, _, _, _, h2, _⟩ := Crt.nil_of hr
 have h3 : c.pays.length ≤ 65537 := by
  unfold Crt.pays
  split
  ·simp; omega
  ·split
   ·rw [List.length_cons, dz]; omega
   ·simp
 omega
theorem au.lt {w : World} {S : Nat → Prop} {own : Bool} {l : List UInt8} {v : Value} (h : au w S own l v) : au w (fun b => b < w.heap.size) own l v := Sl.keep h (by omega) (fun _ _ _ => rfl) (fun b hb _ => hb)
def pFr (k : Nat) (l : List UInt8) (S : Nat → Prop) (v : Value) (w : World) : Prop := ∃ u, v = .agg #[.int .u8 (k : Nat), u] ∧ au w S true l u
theorem Cv (k : Nat) (l : List UInt8) : eG (pFr k l) := fun S S' v w w' hk hs hS h => by
 obtain ⟨u, h1, h2⟩ := h
 exact ⟨u, h1, Sl.keep h2 (by omega) hk hS⟩
def EJ (k : Nat) (l : List UInt8) (S : Nat → Prop) (v : Value) (w : World) : Prop := ∃ g u T, v = .slice (some ⟨g, 0, none⟩) 1 1 ∧ S g ∧ w.heap[g]? = some (.cells #[.int .u8 (k : Nat), u] T (0, 0)) ∧ au w S true l u
theorem Bg (k : Nat) (l : List UInt8) : eG (EJ k l) := fun S S' v w w' hk hs hS h => by
 obtain ⟨g, u, T, h1, h2, h3, h4⟩ := h
 have hl := (Array.getElem?_eq_some_iff.1 h3).1
 exact ⟨g, u, T, h1, hS g hl h2, (hk g h2 hl).trans h3, Sl.keep h4 (by omega) hk hS⟩
theorem Cw {k : Nat} {l : List UInt8} {S : Nat → Prop} {u : Value} (w : World) (T : TypeId) (hS : S w.heap.size) (h : au w S true l u) : EJ k l S (.slice (some ⟨w.heap.size, 0, none⟩) 1 1) (w.alloc (.cells #[.int .u8 (k : Nat), u] T)) :=
 ⟨_, u, T, rfl, hS, heap_alloc_new _ _, au.below h (br.alloc nl _) nl⟩
def Cy (w : World) (c : Crt) (e : Ending) (w' : World) : Prop := (c.right = true ∧ (∃ u, e = .returned (.tuple #[u, .int .i64 0]) ∧ au w' (fun b => w.heap.size ≤ b) true c.bytes u) ∨ c.right = false ∧ e = .returned (.tuple #[.slice none 0 0, .int .i64 280])) ∧ Below w.heap.size w w'
theorem bU (S : Nat → Prop) (own : Bool) (c : Crt) (v : Value) (w : World) (h : aL w S own c v) (hn : c.nums) (hl : c.w.length ≤ 1000) (hL : Lq w.heap.size w) : Calls Tryz.prog 8 #[v] w (Cy w c) := by
 obtain ⟨ad, cp, ad', cp', rfl, ho, hv, _, _, k1, k2⟩ := h.shape
 clear h
 have hb0 : Below w.heap.size w (w.alloc (.cells #[.int .i64 c.k, .slice ad c.o.length cp, .int .i64 c.p, .int .i64 c.q, .slice ad' c.w.length cp'] 25)) := br.alloc nl _
 have hz0 : (w.alloc (.cells #[.int .i64 c.k, .slice ad c.o.length cp, .int .i64 c.p, .int .i64 c.q, .slice ad' c.w.length cp'] 25)).heap.size = w.heap.size + 1 := World.size_alloc _ _
 have HR := hid (bT S own c _ _ ⟨_, _, rfl, ho.below hb0 nl, hv.below hb0 nl⟩ hn.2.2.2.2 ((hL.below hb0).mono hb0.size))
 have hS0 : ∀ b, b < w.heap.size → S b → (fun b => b < w.heap.size) b := fun b h _ => h
 have HV := hid (And.intro ((ho.keep (fun _ _ _ => rfl) hS0).below hb0 nl) (And.intro ((hv.keep (fun _ _ _ => rfl) hS0).below hb0 nl) (And.intro hb0 (And.intro (heap_alloc_new w (.cells #[.int .i64 c.k, .slice ad c.o.length cp, .int .i64 c.p, .int .i64 c.q, .slice ad' c.w.length cp'] 25)) hz0))))
 clear ho hv hb0 hz0 hL
 cases hr : c.right with
 | false =>
  rw [hr] at HR
  have HE := hid hr
  clear hr
  go_enter Tryz.func8, Tryz.ntmps8
  go_wp2_with fail
  refine HR.out.mono ?_
  rintro e w1 ⟨rfl, hb1⟩
  go_wp2_with fail
  go_ret2
  exact ⟨.inr ⟨HE.out, rfl⟩, HV.out.2.2.1.trans (hb1.mono HV.out.2.2.1.size)⟩
 | true =>
  rw [hr] at HR
  have HE := hid hr
  have HN := hid hn
  have hpl := Crt.pays_le hr hl
  obtain ⟨kn, hkn, hkk⟩ : ∃ kn : Nat, kn < 256 ∧ c.k + 16 = (kn : Int) := ⟨(c.k + 16).toNat, by have := (Crt.nil_of hr).2.2.2; omega, by have := (Crt.nil_of hr).2.2.2; omega⟩
  have HKB : Hid (c.bytes = aS kn (ae c.pays)) := hid (by unfold Crt.bytes; congr 1; have := (Crt.nil_of hr).2.2.2; omega)
  have HK : Hid (IntKind.i64.wrap (16 + c.k) = (kn : Int) ∧ IntKind.u8.wrap (kn : Int) = (kn : Int)) := hid ⟨by rw [Int.add_comm, hkk, IntKind.wrap_i64]; omega, by rw [IntKind.wrap_u8]; omega⟩
  clear hr hn hkk
  go_enter Tryz.func8, Tryz.ntmps8
  go_wp2_with fail
  refine HR.out.mono ?_
  rintro e w1 ⟨rfl, hb1⟩
  obtain ⟨r1, r2, r3, r4, r5⟩ := HV.out
  have hs1 := hb1.size
  have hb2 : Below w1.heap.size w1 (w1.alloc (.cells #[.slice none 0 0] 67)) := br.alloc nl _
  have hc2 : (w1.alloc (.cells #[.slice none 0 0] 67)).heap[w.heap.size]? = some (.cells #[.int .i64 c.k, .slice ad c.o.length cp, .int .i64 c.p, .int .i64 c.q, .slice ad' c.w.length cp'] 25 (0, 0)) := (hb2.block _ (by omega)).trans ((hb1.block _ (by omega)).trans r4)
  have hw2 : Wr 67 5 (w1.alloc (.cells #[.slice none 0 0] 67)) w1.heap.size (.slice none 0 0) [] := ⟨heap_alloc_new _ _, World.ownsRow_nil _ _ _ _⟩
  have HP := hid (vB (fun b => b < w.heap.size) own w.heap.size w1.heap.size c ad ad' cp cp' _ (fun b hb => by have hb : b < w.heap.size := hb; omega) (by omega) hc2 ((r1.below hb1 nl).below hb2 nl) ((r2.below hb1 nl).below hb2 nl) k1 k2 HN.out HE.out hl hw2)
  have H2 := hid (And.intro (r3.trans ((hb1.mono (by omega)).trans (hb2.mono (by omega)))) (And.intro hc2 hw2))
  clear r1 r2 r3 r4 hb1 hb2 hc2 hw2
  go_wp2_with fail
  refine HP.out.mono ?_
  rintro e X ⟨rfl, sv1, hwX, htX⟩
  have hcX : X.heap[w.heap.size]? = some (.cells #[.int .i64 c.k, .slice ad c.o.length cp, .int .i64 c.p, .int .i64 c.q, .slice ad' c.w.length cp'] 25 (0, 0)) := (htX.keep _ (by have := H2.out.2.2.lt; omega) (by omega) (fun e => by cases e)).trans H2.out.2.1
  have d0 : X.cell? ⟨w.heap.size, 0, none⟩ = some (.int .i64 c.k) := by rw [cell_of_row X _ 0 _ _ _ hcX]; rfl
  have HB := hid (H2.out.1.trans ((htX.below H2.out.2.2).mono (by omega)))
  have hcl : w.heap.size < X.heap.size := (Array.getElem?_eq_some_iff.1 hcX).1
  have HW := hid hwX
  generalize hwb : w1.heap.size = wb at HW ⊢
  generalize hcb : w.heap.size = cb at d0 hcl ⊢
  clear hwX htX hcX HP H2 HV hwb
  go_wp2_with fail
  refine aK (w0 := X) rfl [.eq (.pointer (some ⟨cb, 0, none⟩)), .eq (.int .i64 c.k), .eq (.int .i64 (kn : Nat)), .eq (.int .u8 (kn : Nat)), .eq (.pointer (some ⟨wb, 0, none⟩)), .eq (.pointer (some ⟨wb, 0, none⟩)), .eq (.pointer (some ⟨wb, 0, none⟩)), .of (jw (ae c.pays)), .of (pFr kn (ae c.pays)), .of (EJ kn (ae c.pays)), .of (jw (aS kn (ae c.pays))), .of (jw (aS kn (ae c.pays))), .eq (.int .i64 0)] (by kernel_rfl) ⟨?_, ?_, ?_, ?_, ?_, ?_, ?_, ?_, ?_, ?_, ?_, ?_, ?_, ?_, ?_, ?_, ?_, ?_, trivial⟩ (fun vs => [(13, (.pointer (some ⟨cb, 0, none⟩))), (14, (.int .i64 c.k)), (15, (.int .i64 (kn : Nat))), (16, (.int .u8 (kn : Nat))), (17, (.pointer (some ⟨wb, 0, none⟩))), (18, (.pointer (some ⟨wb, 0, none⟩))), (19, (.pointer (some ⟨wb, 0, none⟩))), (20, vs 7), (21, vs 8), (22, vs 9), (23, vs 10), (2, vs 11), (3, (.int .i64 0))]) (fun _ => rfl) ?_
  ·refine rs fun S a wx K Q hR hK => ?_
   have t1 : a.tmps[1]? = some (.pointer (some ⟨cb, 0, none⟩)) := hR.o 1
   go_simp
   exact hK _ _ br rfl
  ·refine rs fun S a wx K Q hR hK => ?_
   have t13 := hR.q 0
   have y0 := (hR.bel.cell (p := ⟨cb, 0, none⟩) hcl).trans d0
   go_simp
   exact hK _ _ br rfl
  ·refine rs fun S a wx K Q hR hK => ?_
   have t14 := hR.q 1
   have y1 := HK.out.1
   go_simp
   (try go_ints)
   exact hK _ _ br rfl
  ·refine rs fun S a wx K Q hR hK => ?_
   have t15 := hR.q 2
   have y2 := HK.out.2
   go_simp
   (try go_ints)
   exact hK _ _ br rfl
  ·refine rs fun S a wx K Q hR hK => ?_
   have t4 : a.tmps[4]? = some (.pointer (some ⟨wb, 0, none⟩)) := hR.o 4
   go_simp
   exact hK _ _ br rfl
  ·refine rs fun S a wx K Q hR hK => ?_
   have t17 := hR.q 4
   go_simp
   exact hK _ _ br rfl
  ·refine rs fun S a wx K Q hR hK => ?_
   have t18 := hR.q 5
   go_simp
   exact hK _ _ br rfl
  ·exact dE _
  ·refine rs fun S a wx K Q hR hK => ?_
   have t19 := hR.q 6
   go_simp
   go_at_call 31
   refine (oq wb sv1 _ wx (HW.out.below hR.bel) (by omega)).mono ?_
   rintro e w' ⟨v1, rfl, hown1, hb1⟩
   exact hK _ _ hb1 (Sl.keep (au.of_owns hown1) (by omega) (fun _ _ _ => rfl) (fun b _ hb => hR.new b hb.2))
  ·exact Cv _ _
  ·refine rs fun S a wx K Q hR hK => ?_
   have t16 := hR.q 3
   obtain ⟨u20, t20, f20⟩ := hR.f 7
   obtain ⟨_, _, a20, c20, rfl, _⟩ := Sl.shape (show Sl wx S true 1 _ _ u20 from f20)
   go_simp
   exact hK _ _ br ⟨_, rfl, f20⟩
  ·exact Bg _ _
  ·refine rs fun S a wx K Q hR hK => ?_
   obtain ⟨u21, t21, f21⟩ := hR.f 8
   obtain ⟨u21, rfl, r21⟩ := f21; obtain ⟨_, _, a21, c21, rfl, _⟩ := Sl.shape r21
   go_simp
   exact hK _ _ (br.alloc nl _) (Cw wx _ (hR.new _ nl) r21)
  ·exact dE _
  ·refine rs fun S a wx K Q hR hK => ?_
   obtain ⟨u22, t22, f22⟩ := hR.f 9
   obtain ⟨g22, u22, T22, rfl, s22, h22, r22⟩ := f22
   go_simp
   go_at_call 30
   refine (AY kn _ u22 g22 1 wx hkn (by omega) nl (by rw [cell_of_row wx _ 0 _ _ _ h22]; rfl) (by rw [cell_of_row wx _ 1 _ _ _ h22]; rfl) (Array.getElem?_eq_some_iff.1 h22).1 (au.lt (Sl.unown r22))).mono ?_
   rintro e w' ⟨v1, rfl, hown1, hb1⟩
   exact hK _ _ hb1 (Sl.keep (au.of_owns hown1) (by omega) (fun _ _ _ => rfl) (fun b _ hb => hR.new b hb.2))
  ·exact dE _
  ·refine rs fun S a wx K Q hR hK => ?_
   obtain ⟨u23, t23, f23⟩ := hR.f 10
   go_simp
   exact hK _ _ br f23
  ·refine rs fun S a wx K Q hR hK => ?_
   go_simp
   exact hK _ _ br rfl
  intro S13 vs wd hD
  have r3 : au wd S13 true (aS kn (ae c.pays)) (vs 11) := hD.ofs 11 _ rfl
  have HF := hid (And.intro (r3.keep (by omega) (fun _ _ _ => rfl) (fun b _ hb => show w.heap.size ≤ b by have := hD.low b hb; have := HB.out.size; omega)) (HB.out.trans (hD.bel.mono HB.out.size)))
  simp only [aP, List.foldl_cons, List.foldl_nil]
  clear hD r3
  generalize vs 11 = u2 at HF ⊢
  generalize vs 7 = u20
  generalize vs 8 = u21
  generalize vs 9 = u22
  generalize vs 10 = u23
  go_simp
  (try (go_wp2_with fail))
  go_ret2
  exact ⟨.inl ⟨HE.out, _, rfl, by rw [HKB.out]; exact HF.out.1⟩, by rw [← hcb] at *; exact HF.out.2⟩
end Go.Proofs.YtagnalfkmdjajaaGreatDoor
