/- Walks: cert.Put. -/
import Derived.Test.YtagnalfkmdjajaaGreatDoorVC88
namespace Go.Proofs.YtagnalfkmdjajaaGreatDoor
open Go.RowKit Go
set_option linter.unusedVariables false
set_option linter.unusedSimpArgs false
/-- A certificate's bytes. -/
def Crt.bytes (c : Crt) : List UInt8 := frameB (16 + c.k.toNat) (putVs c.pays)
theorem Crt.pays_le {c : Crt} (hr : c.right = true) (hl : c.w.length ≤ 1000) : (putVs c.pays).length ≤ 700000 := by
  have h1 := putVs_length c.pays
  obtain ⟨_, _, _, _, _, _, _, _, _, h2, _⟩ := Crt.nil_of hr
  have h3 : c.pays.length ≤ 65537 := by
    unfold Crt.pays
    split
    · simp; omega
    · split
      · rw [List.length_cons, pays_len]; omega
      · simp
  omega
theorem RepB.lt {w : World} {S : Nat → Prop} {own : Bool} {l : List UInt8} {v : Value} (h : RepB w S own l v) : RepB w (fun b => b < w.heap.size) own l v := Sl.keep h (by omega) (fun _ _ _ => rfl) (fun b hb _ => hb)
def pFr (k : Nat) (l : List UInt8) (S : Nat → Prop) (v : Value) (w : World) : Prop := ∃ u, v = .agg #[.int .u8 (k : Nat), u] ∧ RepB w S true l u
theorem steadyFr (k : Nat) (l : List UInt8) : Steady (pFr k l) := fun S S' v w w' hk hs hS h => by
  obtain ⟨u, h1, h2⟩ := h
  exact ⟨u, h1, Sl.keep h2 (by omega) hk hS⟩
def pFrs (k : Nat) (l : List UInt8) (S : Nat → Prop) (v : Value) (w : World) : Prop := ∃ g u T, v = .slice (some ⟨g, 0, none⟩) 1 1 ∧ S g ∧ w.heap[g]? = some (.cells #[.int .u8 (k : Nat), u] T (0, 0)) ∧ RepB w S true l u
theorem steadyFrs (k : Nat) (l : List UInt8) : Steady (pFrs k l) := fun S S' v w w' hk hs hS h => by
  obtain ⟨g, u, T, h1, h2, h3, h4⟩ := h
  have hl := (Array.getElem?_eq_some_iff.1 h3).1
  exact ⟨g, u, T, h1, hS g hl h2, (hk g h2 hl).trans h3, Sl.keep h4 (by omega) hk hS⟩
theorem pFrs_lit {k : Nat} {l : List UInt8} {S : Nat → Prop} {u : Value} (w : World) (T : TypeId) (hS : S w.heap.size) (h : RepB w S true l u) : pFrs k l S (.slice (some ⟨w.heap.size, 0, none⟩) 1 1) (w.alloc (.cells #[.int .u8 (k : Nat), u] T)) :=
  ⟨_, u, T, rfl, hS, heap_alloc_new _ _, RepB.below h ((Below.refl _ _).alloc (Nat.le_refl _) _) (Nat.le_refl _)⟩
/-- What Put answers. -/
def PutC (w : World) (c : Crt) (e : Ending) (w' : World) : Prop := (c.right = true ∧ (∃ u, e = .returned (.tuple #[u, .int .i64 0]) ∧ RepB w' (fun b => w.heap.size ≤ b) true c.bytes u) ∨ c.right = false ∧ e = .returned (.tuple #[.slice none 0 0, .int .i64 280])) ∧ Below w.heap.size w w'
set_option maxHeartbeats 4000000 in
set_option maxRecDepth 100000 in
theorem certPut_any (S : Nat → Prop) (own : Bool) (c : Crt) (v : Value) (w : World) (h : RepC w S own c v) (hn : c.nums) (hl : c.w.length ≤ 1000) (hL : Lq w.heap.size w) : Calls Tryz.prog 8 #[v] w (PutC w c) := by
  obtain ⟨ad, cp, ad', cp', rfl, ho, hv, _, _, k1, k2⟩ := h.shape
  clear h
  have hb0 : Below w.heap.size w (w.alloc (.cells #[.int .i64 c.k, .slice ad c.o.length cp, .int .i64 c.p, .int .i64 c.q, .slice ad' c.w.length cp'] 25)) := (Below.refl _ _).alloc (Nat.le_refl _) _
  have hz0 : (w.alloc (.cells #[.int .i64 c.k, .slice ad c.o.length cp, .int .i64 c.p, .int .i64 c.q, .slice ad' c.w.length cp'] 25)).heap.size = w.heap.size + 1 := World.size_alloc _ _
  have HR := Lib.hid (certRight_any S own c _ _ ⟨_, _, rfl, ho.below hb0 (Nat.le_refl _), hv.below hb0 (Nat.le_refl _)⟩ hn.2.2.2.2 ((hL.below hb0).mono hb0.size))
  have hS0 : ∀ b, b < w.heap.size → S b → (fun b => b < w.heap.size) b := fun b h _ => h
  have HV := Lib.hid (And.intro ((ho.keep (fun _ _ _ => rfl) hS0).below hb0 (Nat.le_refl _)) (And.intro ((hv.keep (fun _ _ _ => rfl) hS0).below hb0 (Nat.le_refl _)) (And.intro hb0 (And.intro (heap_alloc_new w (.cells #[.int .i64 c.k, .slice ad c.o.length cp, .int .i64 c.p, .int .i64 c.q, .slice ad' c.w.length cp'] 25)) hz0))))
  clear ho hv hb0 hz0 hL
  cases hr : c.right with
  | false =>
    rw [hr] at HR
    have HE := Lib.hid hr
    clear hr
    go_enter Tryz.func8, Tryz.ntmps8
    go_wp2_with fail
    refine HR.out.mono ?_
    rintro e w1 ⟨rfl, hb1⟩
    go_wp2_with fail
    go_ret2
    exact ⟨.inr ⟨HE.out, rfl⟩, HV.out.2.2.1.trans (hb1.mono HV.out.2.2.1.size)⟩
  | true =>
    rw [hr] at HR
    have HE := Lib.hid hr
    have HN := Lib.hid hn
    have hpl := Crt.pays_le hr hl
    obtain ⟨kn, hkn, hkk⟩ : ∃ kn : Nat, kn < 256 ∧ c.k + 16 = (kn : Int) := ⟨(c.k + 16).toNat, by have := (Crt.nil_of hr).2.2.2; omega, by have := (Crt.nil_of hr).2.2.2; omega⟩
    have HKB : Hid (c.bytes = frameB kn (putVs c.pays)) := Lib.hid (by unfold Crt.bytes; congr 1; have := (Crt.nil_of hr).2.2.2; omega)
    have HK : Hid (IntKind.i64.wrap (16 + c.k) = (kn : Int) ∧ IntKind.u8.wrap (kn : Int) = (kn : Int)) := Lib.hid ⟨by rw [Int.add_comm, hkk, IntKind.wrap_i64]; omega, by rw [IntKind.wrap_u8]; omega⟩
    clear hr hn hkk
    go_enter Tryz.func8, Tryz.ntmps8
    go_wp2_with fail
    refine HR.out.mono ?_
    rintro e w1 ⟨rfl, hb1⟩
    obtain ⟨r1, r2, r3, r4, r5⟩ := HV.out
    have hs1 := hb1.size
    have hb2 : Below w1.heap.size w1 (w1.alloc (.cells #[.slice none 0 0] 67)) := (Below.refl _ _).alloc (Nat.le_refl _) _
    have hc2 : (w1.alloc (.cells #[.slice none 0 0] 67)).heap[w.heap.size]? = some (.cells #[.int .i64 c.k, .slice ad c.o.length cp, .int .i64 c.p, .int .i64 c.q, .slice ad' c.w.length cp'] 25 (0, 0)) := (hb2.block _ (by omega)).trans ((hb1.block _ (by omega)).trans r4)
    have hw2 : Wr 67 5 (w1.alloc (.cells #[.slice none 0 0] 67)) w1.heap.size (.slice none 0 0) [] := ⟨heap_alloc_new _ _, World.ownsRow_nil _ _ _ _⟩
    have HP := Lib.hid (putParts_any (fun b => b < w.heap.size) own w.heap.size w1.heap.size c ad ad' cp cp' _ (fun b hb => by have hb : b < w.heap.size := hb; omega) (by omega) hc2 ((r1.below hb1 (Nat.le_refl _)).below hb2 (Nat.le_refl _)) ((r2.below hb1 (Nat.le_refl _)).below hb2 (Nat.le_refl _)) k1 k2 HN.out HE.out hl hw2)
    have H2 := Lib.hid (And.intro (r3.trans ((hb1.mono (by omega)).trans (hb2.mono (by omega)))) (And.intro hc2 hw2))
    clear r1 r2 r3 r4 hb1 hb2 hc2 hw2
    go_wp2_with fail
    refine HP.out.mono ?_
    rintro e X ⟨rfl, sv1, hwX, htX⟩
    have hcX : X.heap[w.heap.size]? = some (.cells #[.int .i64 c.k, .slice ad c.o.length cp, .int .i64 c.p, .int .i64 c.q, .slice ad' c.w.length cp'] 25 (0, 0)) := (htX.keep _ (by have := H2.out.2.2.lt; omega) (by omega) (fun e => by cases e)).trans H2.out.2.1
    have d0 : X.cell? ⟨w.heap.size, 0, none⟩ = some (.int .i64 c.k) := by rw [cell_of_row X _ 0 _ _ _ hcX]; rfl
    have HB := Lib.hid (H2.out.1.trans ((htX.below H2.out.2.2).mono (by omega)))
    have hcl : w.heap.size < X.heap.size := (Array.getElem?_eq_some_iff.1 hcX).1
    have HW := Lib.hid hwX
    generalize hwb : w1.heap.size = wb at HW ⊢
    generalize hcb : w.heap.size = cb at d0 hcl ⊢
    clear hwX htX hcX HP H2 HV hwb
    go_wp2_with fail
    refine wp_region_prs (w0 := X) rfl [.eq (.pointer (some ⟨cb, 0, none⟩)), .eq (.int .i64 c.k), .eq (.int .i64 (kn : Nat)), .eq (.int .u8 (kn : Nat)), .eq (.pointer (some ⟨wb, 0, none⟩)), .eq (.pointer (some ⟨wb, 0, none⟩)), .eq (.pointer (some ⟨wb, 0, none⟩)), .of (pBytes (putVs c.pays)), .of (pFr kn (putVs c.pays)), .of (pFrs kn (putVs c.pays)), .of (pBytes (frameB kn (putVs c.pays))), .of (pBytes (frameB kn (putVs c.pays))), .eq (.int .i64 0)] (by kernel_rfl) ⟨?_, ?_, ?_, ?_, ?_, ?_, ?_, ?_, ?_, ?_, ?_, ?_, ?_, ?_, ?_, ?_, ?_, ?_, trivial⟩ (fun vs => [(13, (.pointer (some ⟨cb, 0, none⟩))), (14, (.int .i64 c.k)), (15, (.int .i64 (kn : Nat))), (16, (.int .u8 (kn : Nat))), (17, (.pointer (some ⟨wb, 0, none⟩))), (18, (.pointer (some ⟨wb, 0, none⟩))), (19, (.pointer (some ⟨wb, 0, none⟩))), (20, vs 7), (21, vs 8), (22, vs 9), (23, vs 10), (2, vs 11), (3, (.int .i64 0))]) (fun _ => rfl) ?_
    · refine RStep.mk rfl rfl (fun S a wx K Q hR hK => ?_)
      have t1 : a.tmps[1]? = some (.pointer (some ⟨cb, 0, none⟩)) := (hR.old 1 (by kernel_rfl)).trans (by kernel_rfl)
      go_simp
      exact hK _ _ (Below.refl _ _) rfl
    · refine RStep.mk rfl rfl (fun S a wx K Q hR hK => ?_)
      have t13 := hR.eq 0 (by kernel_rfl) rfl rfl
      have y0 := (hR.bel.cell (p := ⟨cb, 0, none⟩) hcl).trans d0
      go_simp
      exact hK _ _ (Below.refl _ _) rfl
    · refine RStep.mk rfl rfl (fun S a wx K Q hR hK => ?_)
      have t14 := hR.eq 1 (by kernel_rfl) rfl rfl
      have y1 := HK.out.1
      go_simp
      (try go_ints)
      exact hK _ _ (Below.refl _ _) rfl
    · refine RStep.mk rfl rfl (fun S a wx K Q hR hK => ?_)
      have t15 := hR.eq 2 (by kernel_rfl) rfl rfl
      have y2 := HK.out.2
      go_simp
      (try go_ints)
      exact hK _ _ (Below.refl _ _) rfl
    · refine RStep.mk rfl rfl (fun S a wx K Q hR hK => ?_)
      have t4 : a.tmps[4]? = some (.pointer (some ⟨wb, 0, none⟩)) := (hR.old 4 (by kernel_rfl)).trans (by kernel_rfl)
      go_simp
      exact hK _ _ (Below.refl _ _) rfl
    · refine RStep.mk rfl rfl (fun S a wx K Q hR hK => ?_)
      have t17 := hR.eq 4 (by kernel_rfl) rfl rfl
      go_simp
      exact hK _ _ (Below.refl _ _) rfl
    · refine RStep.mk rfl rfl (fun S a wx K Q hR hK => ?_)
      have t18 := hR.eq 5 (by kernel_rfl) rfl rfl
      go_simp
      exact hK _ _ (Below.refl _ _) rfl
    · exact steadyBytes _
    · refine RStep.mk rfl rfl (fun S a wx K Q hR hK => ?_)
      have t19 := hR.eq 6 (by kernel_rfl) rfl rfl
      go_simp
      go_at_call 31
      refine (wrBytes_any wb sv1 _ wx (HW.out.below hR.bel) (by omega)).mono ?_
      rintro e w' ⟨v1, rfl, hown1, hb1⟩
      exact hK _ _ hb1 (Sl.keep (RepB.of_owns hown1) (by omega) (fun _ _ _ => rfl) (fun b _ hb => hR.new b hb.2))
    · exact steadyFr _ _
    · refine RStep.mk rfl rfl (fun S a wx K Q hR hK => ?_)
      have t16 := hR.eq 3 (by kernel_rfl) rfl rfl
      obtain ⟨u20, t20, f20⟩ := hR.of 7 (by kernel_rfl) rfl rfl
      obtain ⟨_, _, a20, c20, rfl, _⟩ := Sl.shape (show Sl wx S true 1 _ _ u20 from f20)
      go_simp
      exact hK _ _ (Below.refl _ _) ⟨_, rfl, f20⟩
    · exact steadyFrs _ _
    · refine RStep.mk rfl rfl (fun S a wx K Q hR hK => ?_)
      obtain ⟨u21, t21, f21⟩ := hR.of 8 (by kernel_rfl) rfl rfl
      obtain ⟨u21, rfl, r21⟩ := f21; obtain ⟨_, _, a21, c21, rfl, _⟩ := Sl.shape r21
      go_simp
      exact hK _ _ ((Below.refl _ _).alloc (Nat.le_refl _) _) (pFrs_lit wx _ (hR.new _ (Nat.le_refl _)) r21)
    · exact steadyBytes _
    · refine RStep.mk rfl rfl (fun S a wx K Q hR hK => ?_)
      obtain ⟨u22, t22, f22⟩ := hR.of 9 (by kernel_rfl) rfl rfl
      obtain ⟨g22, u22, T22, rfl, s22, h22, r22⟩ := f22
      go_simp
      go_at_call 30
      refine (frPut_any kn _ u22 g22 1 wx hkn (by omega) (Nat.le_refl _) (by rw [cell_of_row wx _ 0 _ _ _ h22]; rfl) (by rw [cell_of_row wx _ 1 _ _ _ h22]; rfl) (Array.getElem?_eq_some_iff.1 h22).1 (RepB.lt (Sl.unown r22))).mono ?_
      rintro e w' ⟨v1, rfl, hown1, hb1⟩
      exact hK _ _ hb1 (Sl.keep (RepB.of_owns hown1) (by omega) (fun _ _ _ => rfl) (fun b _ hb => hR.new b hb.2))
    · exact steadyBytes _
    · refine RStep.mk rfl rfl (fun S a wx K Q hR hK => ?_)
      obtain ⟨u23, t23, f23⟩ := hR.of 10 (by kernel_rfl) rfl rfl
      go_simp
      exact hK _ _ (Below.refl _ _) f23
    · refine RStep.mk rfl rfl (fun S a wx K Q hR hK => ?_)
      go_simp
      exact hK _ _ (Below.refl _ _) rfl
    intro S13 vs wd hD
    have r3 : RepB wd S13 true (frameB kn (putVs c.pays)) (vs 11) := hD.ofs 11 _ rfl
    have HF := Lib.hid (And.intro (r3.keep (by omega) (fun _ _ _ => rfl) (fun b _ hb => show w.heap.size ≤ b by have := hD.low b hb; have := HB.out.size; omega)) (HB.out.trans (hD.bel.mono HB.out.size)))
    simp only [putsL, List.foldl_cons, List.foldl_nil]
    clear hD r3
    generalize vs 11 = u2 at HF ⊢
    generalize vs 7 = u20
    generalize vs 8 = u21
    generalize vs 9 = u22
    generalize vs 10 = u23
    go_simp
    (try (go_wp2_with fail))
    go_ret2
    exact ⟨.inl ⟨HE.out, _, rfl, by rw [HKB.out]; exact HF.out.1⟩, by rw [← hcb] at *; exact HF.out.2⟩
end Go.Proofs.YtagnalfkmdjajaaGreatDoor
