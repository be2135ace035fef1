/- The law RecordParses returns true whatever the frame is, and it reads behind the call as before. -/
import Derived.Test.YtmgbhhmipmgcpaaGreatDoorY61
import Derived.Test.YtmgbhhmipmgcpaaGreatDoorYW31
import Derived.Test.YtmgbhhmipmgcpaaGreatDoorY50
import Derived.Test.YtmgbhhmipmgcpaaGreatDoorTie
import Derived.Test.YtmgbhhmipmgcpaaGreatDoorCards
import Derived.JoinedOf
set_option maxHeartbeats 20000000
set_option maxRecDepth 100000
namespace Go.Proofs.YtmgbhhmipmgcpaaGreatDoor
open Go.RowKit Go
set_option linter.unusedVariables false
set_option linter.unusedSimpArgs false
def pRf (r : Rec) (S : Nat → Prop) (v : Value) (w : World) : Prop := bZ w S true r v
theorem zR (r : Rec) : oz (pRf r) := fun S S' v w w' hk hs hS h => bZ.keep h hk hS
structure DR (T : TypeId) (g : Nat) (S : Nat → Prop) (r : Rec) (cs : Array Value) (w : World) : Prop where
 h : w.heap[g]? = some (.cells cs T (0, 0))
 r : bZ w S true r (.agg cs)
theorem DR.keep {T : TypeId} {g : Nat} {S K : Nat → Prop} {r : Rec} {cs : Array Value} {w w' : World} (h : DR T g S r cs w) (hk : bB K w w') (hg : K g) (hS : ∀ b, S b → K b) : DR T g S r cs w' :=
 ⟨(hk g hg (Array.getElem?_eq_some_iff.1 h.h).1).trans h.h, h.r.keep (fun b hb hl => hk b (hS b hb) hl) (fun _ _ h => h)⟩
theorem DR.below {B : Nat} {T : TypeId} {g : Nat} {S : Nat → Prop} {r : Rec} {cs : Array Value} {w w' : World} (h : DR T g S r cs w) (hb : Below B w w') (hB : w.heap.size ≤ B) : DR T g S r cs w' :=
 h.keep (K := fun _ => True) (Below.keeps hb hB _) trivial (fun _ _ => trivial)
theorem DR.lt {T : TypeId} {g : Nat} {S : Nat → Prop} {r : Rec} {cs : Array Value} {w : World} (h : DR T g S r cs w) : g < w.heap.size := (Array.getElem?_eq_some_iff.1 h.h).1
theorem DR.cells {T : TypeId} {g : Nat} {S : Nat → Prop} {r : Rec} {a0 a1 a2 a3 a4 a5 a6 a7 a8 a9 a10 : Value} {w : World} (h : DR T g S r #[a0, a1, a2, a3, a4, a5, a6, a7, a8, a9, a10] w) : w.cell? ⟨g, 0, none⟩ = some a0 ∧ w.cell? ⟨g, 1, none⟩ = some a1 ∧ w.cell? ⟨g, 2, none⟩ = some a2 ∧ w.cell? ⟨g, 3, none⟩ = some a3 ∧ w.cell? ⟨g, 4, none⟩ = some a4 ∧ w.cell? ⟨g, 5, none⟩ = some a5 ∧ w.cell? ⟨g, 6, none⟩ = some a6 ∧ w.cell? ⟨g, 7, none⟩ = some a7 ∧ w.cell? ⟨g, 8, none⟩ = some a8 ∧ w.cell? ⟨g, 9, none⟩ = some a9 ∧ w.cell? ⟨g, 10, none⟩ = some a10 := by
 refine ⟨?_, ?_, ?_, ?_, ?_, ?_, ?_, ?_, ?_, ?_, ?_⟩
 all_goals (rw [cell_of_row w _ _ _ _ _ h.h]; rfl)
theorem DR.of_new {T : TypeId} {B : Nat} {r : Rec} {cs : Array Value} {w : World} (h : bZ w (fun b => B ≤ b) true r (.agg cs)) : DR T w.heap.size (fun b => B ≤ b ∧ b < w.heap.size) r cs (w.alloc (.cells cs T)) :=
 ⟨heap_alloc_new _ _, h.keep (fun b _ hl => ae _ _ _ hl) (fun b hl hb => ⟨hb, hl⟩)⟩
structure FB (w0 : World) (k : Nat) (b : List UInt8) (ad : Option Addr) (cap : Nat) (w : World) : Prop where
 h : w.heap[w0.heap.size]? = some (.cells #[.int .u8 (k : Nat), .slice ad b.length cap] 24 (0, 0))
 r : ay w (fun _ => True) false b (.slice ad b.length cap)
 lq : Lq w0.heap.size w
 bel : Below w0.heap.size w0 w
theorem FB.below {w0 : World} {k : Nat} {b : List UInt8} {ad : Option Addr} {cap : Nat} {w w' : World} (h : FB w0 k b ad cap w) (hb : Below w.heap.size w w') : FB w0 k b ad cap w' :=
 ⟨(hb.block _ (Array.getElem?_eq_some_iff.1 h.h).1).trans h.h, h.r.below hb nl, h.lq.below (hb.mono h.bel.size), h.bel.trans (hb.mono h.bel.size)⟩
theorem FB.lqAt {w0 : World} {k : Nat} {b : List UInt8} {ad : Option Addr} {cap : Nat} {w : World} (h : FB w0 k b ad cap w) : Lq w.heap.size w := h.lq.mono h.bel.size
theorem FB.lt {w0 : World} {k : Nat} {b : List UInt8} {ad : Option Addr} {cap : Nat} {w : World} (h : FB w0 k b ad cap w) : w0.heap.size < w.heap.size := (Array.getElem?_eq_some_iff.1 h.h).1
theorem FB.cells {w0 : World} {k : Nat} {b : List UInt8} {ad : Option Addr} {cap : Nat} {w : World} (h : FB w0 k b ad cap w) : w.cell? ⟨w0.heap.size, 0, none⟩ = some (.int .u8 (k : Nat)) ∧ w.cell? ⟨w0.heap.size, 1, none⟩ = some (.slice ad b.length cap) := by
 refine ⟨?_, ?_⟩
 all_goals (rw [cell_of_row w _ _ _ _ _ h.h]; rfl)
theorem mG (S : Nat → Prop) (own : Bool) (k : Nat) (b : List UInt8) (pv : Value) (w : World) (hk : k < 256) (hr : ay w S own b pv) (hL : Lq w.heap.size w) :
  Calls Tryz.prog 3 #[.agg #[.int .u8 (k : Nat), pv]] w fun e w' => e = .returned (.bool true) ∧ Below w.heap.size w w' := by
 obtain ⟨_, ad, cap, rfl, _⟩ := hr.shape
 have hb0 : Below w.heap.size w (w.alloc (.cells #[.int .u8 (k : Nat), .slice ad b.length cap] 24)) := br.alloc nl _
 have HA : Hid (FB w k b ad cap (w.alloc (.cells #[.int .u8 (k : Nat), .slice ad b.length cap] 24))) := hid ⟨aa _ _ _ rfl, Sl.unown (Sl.keep (ay.below hr hb0 nl) (by omega) (fun _ _ _ => rfl) (fun _ _ _ => trivial)), hL.below hb0, hb0⟩
 clear hr hL hb0
 go_enter Tryz.func3, Tryz.ntmps3
 go_upto_region 1 with fail
 generalize w.alloc (.cells #[.int .u8 (k : Nat), .slice ad b.length cap] 24) = X at HA ⊢
 obtain ⟨c0, c1⟩ := HA.out.cells
 by_cases hb : 400 < b.length
 ·have t1 : (400 : Int) < (b.length : Int) := by omega
  clear hb
  go_wp2_with fail
  refine (pR X HA.out.lqAt).mono ?_
  rintro e w2 ⟨rfl, hb2⟩
  go_wp2_with fail
  go_ret
  exact ⟨rfl, (HA.out.below hb2).bel⟩
 have t1 : ¬ (400 : Int) < (b.length : Int) := by omega
 obtain ⟨BA, hBA⟩ : ∃ BA : ByteArray, BA = ⟨b.toArray⟩ := ⟨_, rfl⟩
 have hBl : BA.data.toList = b := by rw [hBA]
 have hBs : BA.size = b.length := by rw [← ai, hBl]
 obtain ⟨r, hr⟩ : ∃ r, r = (bP k b).getD .zero := ⟨_, rfl⟩
 obtain ⟨e1, he1⟩ : ∃ e, e = eB k b := ⟨_, rfl⟩
 have HS : Hid (r.p.size ≤ 900 ∧ r.p.depth ≤ 900 ∧ r.es.length ≤ 100000) := hid (by
  rw [hr]
  cases hf : bP k b with
  | none => exact ⟨by decide, by decide, by simp [Rec.zero]⟩
  | some x => obtain ⟨h1, h2, h3⟩ := uQ hf; exact ⟨h1, h2, by rw [Option.getD_some]; omega⟩)
 have HP : Hid (∀ w e w', kg k b w e w' → ∃ c0 c1 c2 c3 c4 c5 c6 c7, e = .returned (.tuple #[.agg #[.int .i64 r.k, .int .u64 (r.t : Nat), .int .u64 (r.x : Nat), .int .u64 (r.w : Nat), .int .u64 (r.n : Nat), .int .u64 (r.v : Nat), .int .i64 c0, .int .u64 (c1 : Nat), .int .u64 (c2 : Nat), .slice c3 c4 c5, .slice c6 r.es.length c7], .int .i64 e1]) ∧ bZ w' (fun b => w.heap.size ≤ b) true r (.agg #[.int .i64 r.k, .int .u64 (r.t : Nat), .int .u64 (r.x : Nat), .int .u64 (r.w : Nat), .int .u64 (r.n : Nat), .int .u64 (r.v : Nat), .int .i64 c0, .int .u64 (c1 : Nat), .int .u64 (c2 : Nat), .slice c3 c4 c5, .slice c6 r.es.length c7]) ∧ Below w.heap.size w w') := hid (by
  rintro w e w' ⟨v, rfl, h2, h3⟩
  rw [← hr] at h2
  rw [← he1]
  obtain ⟨c0, c1, c2, c3, c4, c5, c6, c7, rfl, _⟩ := h2.conc
  exact ⟨c0, c1, c2, c3, c4, c5, c6, c7, rfl, h2, h3⟩)
 have HBA := hid (And.intro hBA hBl)
 clear hBA hBl hr he1 hb
 go_wp2_with fail
 refine (lT _ false k b _ X HA.out.r).mono ?_
 rintro e w1 ⟨rfl, hb1⟩
 rw [← HBA.out.1]
 have hz1 := hb1.size
 go_upto_region 4 with fail
 have H2 : Hid (FB w k b ad cap (w1.alloc (.cells #[.int .u8 (k : Nat), .string BA] 27)) ∧ (w1.alloc (.cells #[.int .u8 (k : Nat), .string BA] 27)).heap[w1.heap.size]? = some (.cells #[.int .u8 (k : Nat), .string BA] 27 (0, 0)) ∧ (w1.alloc (.cells #[.int .u8 (k : Nat), .string BA] 27)).heap.size = w1.heap.size + 1) := hid ⟨HA.out.below (hb1.alloc hz1 _), aa _ _ _ rfl, World.size_alloc _ _⟩
 generalize w1.alloc (.cells #[.int .u8 (k : Nat), .string BA] 27) = w2 at H2 ⊢
 have hz2 := H2.out.2.2
 have g0 : w2.cell? ⟨w1.heap.size, 0, none⟩ = some (.int .u8 (k : Nat)) := by rw [cell_of_row w2 _ 0 _ _ _ H2.out.2.1]; rfl
 have g1 : w2.cell? ⟨w1.heap.size, 1, none⟩ = some (.string BA) := by rw [cell_of_row w2 _ 1 _ _ _ H2.out.2.1]; rfl
 clear hb1 HA c0 c1
 go_wp2_with fail
 refine (nH BA k w2 hk (by omega)).mono ?_
 intro e w3 h3
 rw [HBA.out.2] at h3
 obtain ⟨m0, m1, m2, m3, m4, m5, m6, m7, rfl, hr3, hb3⟩ := HP.out _ _ _ h3
 have hz3 := hb3.size
 go_upto_region 5 with fail
 have H4 : Hid (DR 37 w3.heap.size (fun b => w2.heap.size ≤ b ∧ b < w3.heap.size) r #[.int .i64 r.k, .int .u64 (r.t : Nat), .int .u64 (r.x : Nat), .int .u64 (r.w : Nat), .int .u64 (r.n : Nat), .int .u64 (r.v : Nat), .int .i64 m0, .int .u64 (m1 : Nat), .int .u64 (m2 : Nat), .slice m3 m4 m5, .slice m6 r.es.length m7] (w3.alloc (.cells #[.int .i64 r.k, .int .u64 (r.t : Nat), .int .u64 (r.x : Nat), .int .u64 (r.w : Nat), .int .u64 (r.n : Nat), .int .u64 (r.v : Nat), .int .i64 m0, .int .u64 (m1 : Nat), .int .u64 (m2 : Nat), .slice m3 m4 m5, .slice m6 r.es.length m7] 37)) ∧ FB w k b ad cap (w3.alloc (.cells #[.int .i64 r.k, .int .u64 (r.t : Nat), .int .u64 (r.x : Nat), .int .u64 (r.w : Nat), .int .u64 (r.n : Nat), .int .u64 (r.v : Nat), .int .i64 m0, .int .u64 (m1 : Nat), .int .u64 (m2 : Nat), .slice m3 m4 m5, .slice m6 r.es.length m7] 37)) ∧ (w3.alloc (.cells #[.int .i64 r.k, .int .u64 (r.t : Nat), .int .u64 (r.x : Nat), .int .u64 (r.w : Nat), .int .u64 (r.n : Nat), .int .u64 (r.v : Nat), .int .i64 m0, .int .u64 (m1 : Nat), .int .u64 (m2 : Nat), .slice m3 m4 m5, .slice m6 r.es.length m7] 37)).heap[w1.heap.size]? = some (.cells #[.int .u8 (k : Nat), .string BA] 27 (0, 0)) ∧ (w3.alloc (.cells #[.int .i64 r.k, .int .u64 (r.t : Nat), .int .u64 (r.x : Nat), .int .u64 (r.w : Nat), .int .u64 (r.n : Nat), .int .u64 (r.v : Nat), .int .i64 m0, .int .u64 (m1 : Nat), .int .u64 (m2 : Nat), .slice m3 m4 m5, .slice m6 r.es.length m7] 37)).heap.size = w3.heap.size + 1) := hid (by
  have hb4 : Below w2.heap.size w2 (w3.alloc (.cells #[.int .i64 r.k, .int .u64 (r.t : Nat), .int .u64 (r.x : Nat), .int .u64 (r.w : Nat), .int .u64 (r.n : Nat), .int .u64 (r.v : Nat), .int .i64 m0, .int .u64 (m1 : Nat), .int .u64 (m2 : Nat), .slice m3 m4 m5, .slice m6 r.es.length m7] 37)) := hb3.alloc hz3 _
  exact ⟨DR.of_new hr3, H2.out.1.below hb4, (hb4.block _ (by omega)).trans H2.out.2.1, World.size_alloc _ _⟩)
 generalize w3.alloc (.cells #[.int .i64 r.k, .int .u64 (r.t : Nat), .int .u64 (r.x : Nat), .int .u64 (r.w : Nat), .int .u64 (r.n : Nat), .int .u64 (r.v : Nat), .int .i64 m0, .int .u64 (m1 : Nat), .int .u64 (m2 : Nat), .slice m3 m4 m5, .slice m6 r.es.length m7] 37) = w4 at H4 ⊢
 have hz4 := H4.out.2.2.2
 clear h3 hr3 hb3 H2 g0 g1
 go_wp2_with fail
 go_loopw [6] (fun t wr => ∃ j : Nat, j ≤ 2 ∧ t = .int .i64 j ∧ Hid (Below w4.heap.size w4 wr)) (fun t _ => 2 - (intOf t).toNat)
 case atStart => exact ⟨0, by omega, rfl, hid br⟩
 case round =>
  obtain ⟨j, hj, rfl, HQ⟩ := hrel
  have hsr := HQ.out.size
  have HR : Hid (FB w k b ad cap wr ∧ DR 37 w3.heap.size (fun b => w2.heap.size ≤ b ∧ b < w3.heap.size) r #[.int .i64 r.k, .int .u64 (r.t : Nat), .int .u64 (r.x : Nat), .int .u64 (r.w : Nat), .int .u64 (r.n : Nat), .int .u64 (r.v : Nat), .int .i64 m0, .int .u64 (m1 : Nat), .int .u64 (m2 : Nat), .slice m3 m4 m5, .slice m6 r.es.length m7] wr ∧ wr.heap[w1.heap.size]? = some (.cells #[.int .u8 (k : Nat), .string BA] 27 (0, 0))) := hid ⟨H4.out.2.1.below HQ.out, H4.out.1.below HQ.out nl, (HQ.out.block _ (by omega)).trans H4.out.2.2.1⟩
  by_cases hlt : j < 2
  ·obtain ⟨c0, c1⟩ := HR.out.1.cells
   go_wp2_with fail
   refine (tq _ false k b _ wr hk (by omega) HR.out.1.r).mono ?_
   intro e w5 h5
   obtain ⟨n0, n1, n2, n3, n4, n5, n6, n7, rfl, hr5, hb5⟩ := HP.out _ _ _ h5
   have hs5 := hb5.size
   go_upto_region 9 with fail
   have H6 : Hid (DR 47 w5.heap.size (fun b => wr.heap.size ≤ b ∧ b < w5.heap.size) r #[.int .i64 r.k, .int .u64 (r.t : Nat), .int .u64 (r.x : Nat), .int .u64 (r.w : Nat), .int .u64 (r.n : Nat), .int .u64 (r.v : Nat), .int .i64 n0, .int .u64 (n1 : Nat), .int .u64 (n2 : Nat), .slice n3 n4 n5, .slice n6 r.es.length n7] (w5.alloc (.cells #[.int .i64 r.k, .int .u64 (r.t : Nat), .int .u64 (r.x : Nat), .int .u64 (r.w : Nat), .int .u64 (r.n : Nat), .int .u64 (r.v : Nat), .int .i64 n0, .int .u64 (n1 : Nat), .int .u64 (n2 : Nat), .slice n3 n4 n5, .slice n6 r.es.length n7] 47)) ∧ Below wr.heap.size wr (w5.alloc (.cells #[.int .i64 r.k, .int .u64 (r.t : Nat), .int .u64 (r.x : Nat), .int .u64 (r.w : Nat), .int .u64 (r.n : Nat), .int .u64 (r.v : Nat), .int .i64 n0, .int .u64 (n1 : Nat), .int .u64 (n2 : Nat), .slice n3 n4 n5, .slice n6 r.es.length n7] 47)) ∧ (w5.alloc (.cells #[.int .i64 r.k, .int .u64 (r.t : Nat), .int .u64 (r.x : Nat), .int .u64 (r.w : Nat), .int .u64 (r.n : Nat), .int .u64 (r.v : Nat), .int .i64 n0, .int .u64 (n1 : Nat), .int .u64 (n2 : Nat), .slice n3 n4 n5, .slice n6 r.es.length n7] 47)).heap.size = w5.heap.size + 1) := hid ⟨DR.of_new hr5, hb5.alloc hs5 _, World.size_alloc _ _⟩
   generalize w5.alloc (.cells #[.int .i64 r.k, .int .u64 (r.t : Nat), .int .u64 (r.x : Nat), .int .u64 (r.w : Nat), .int .u64 (r.n : Nat), .int .u64 (r.v : Nat), .int .i64 n0, .int .u64 (n1 : Nat), .int .u64 (n2 : Nat), .slice n3 n4 n5, .slice n6 r.es.length n7] 47) = w6 at H6 ⊢
   have hz6 := H6.out.2.2
   clear h5 hr5 hb5 c0 c1
   have HX6 := hid (HR.out.2.1.below H6.out.2.1 nl)
   have lc := H6.out.1.lt
   have lx := HX6.out.lt
   obtain ⟨c0, c1, c2, c3, c4, c5, c6, c7, c8, c9, c10⟩ := H6.out.1.cells
   obtain ⟨x0, x1, x2, x3, x4, x5, x6, x7, x8, x9, x10⟩ := HX6.out.cells
   refine iL (w0 := w6) rfl [.eq (.int .i64 e1), .eq (.int .i64 e1), .eq (.bool false), .eq (.bool false), .eq (.agg #[.int .i64 r.k, .int .u64 (r.t : Nat), .int .u64 (r.x : Nat), .int .u64 (r.w : Nat), .int .u64 (r.n : Nat), .int .u64 (r.v : Nat), .int .i64 n0, .int .u64 (n1 : Nat), .int .u64 (n2 : Nat), .slice n3 n4 n5, .slice n6 r.es.length n7]), .of (pRf r), .eq (.agg #[.int .i64 r.k, .int .u64 (r.t : Nat), .int .u64 (r.x : Nat), .int .u64 (r.w : Nat), .int .u64 (r.n : Nat), .int .u64 (r.v : Nat), .int .i64 m0, .int .u64 (m1 : Nat), .int .u64 (m2 : Nat), .slice m3 m4 m5, .slice m6 r.es.length m7]), .eq (.bool true), .eq (.bool false), .eq (.bool false)] (by kernel_rfl) ⟨?_, ?_, ?_, ?_, ?_, ?_, ?_, ?_, ?_, ?_, ?_, trivial⟩ (fun vs => [(30, (.int .i64 e1)), (31, (.int .i64 e1)), (32, (.bool false)), (33, (.bool false)), (34, (.agg #[.int .i64 r.k, .int .u64 (r.t : Nat), .int .u64 (r.x : Nat), .int .u64 (r.w : Nat), .int .u64 (r.n : Nat), .int .u64 (r.v : Nat), .int .i64 n0, .int .u64 (n1 : Nat), .int .u64 (n2 : Nat), .slice n3 n4 n5, .slice n6 r.es.length n7])), (35, vs 5), (36, (.agg #[.int .i64 r.k, .int .u64 (r.t : Nat), .int .u64 (r.x : Nat), .int .u64 (r.w : Nat), .int .u64 (r.n : Nat), .int .u64 (r.v : Nat), .int .i64 m0, .int .u64 (m1 : Nat), .int .u64 (m2 : Nat), .slice m3 m4 m5, .slice m6 r.es.length m7])), (37, (.bool true)), (38, (.bool false)), (39, (.bool false))]) (fun _ => rfl) ?_
   ·refine rs fun S a wx K Q hR hK => ?_
    have t8 : a.tmps[8]? = some (.int .i64 e1) := hR.o 8
    go_simp
    exact hK _ _ br rfl
   ·refine rs fun S a wx K Q hR hK => ?_
    have t5 : a.tmps[5]? = some (.int .i64 e1) := hR.o 5
    go_simp
    exact hK _ _ br rfl
   ·refine rs fun S a wx K Q hR hK => ?_
    have t30 := hR.q 0
    have t31 := hR.q 1
    go_simp
    (try go_ints)
    exact hK _ _ br rfl
   ·refine rs fun S a wx K Q hR hK => ?_
    have t32 := hR.q 2
    go_simp
    exact hK _ _ br rfl
   ·refine rs fun S a wx K Q hR hK => ?_
    have t7 : a.tmps[7]? = some (.pointer (some ⟨w5.heap.size, 0, none⟩)) := hR.o 7
    have y0 := (hR.bel.cell lc).trans c0
    have y1 := (hR.bel.cell lc).trans c1
    have y2 := (hR.bel.cell lc).trans c2
    have y3 := (hR.bel.cell lc).trans c3
    have y4 := (hR.bel.cell lc).trans c4
    have y5 := (hR.bel.cell lc).trans c5
    have y6 := (hR.bel.cell lc).trans c6
    have y7 := (hR.bel.cell lc).trans c7
    have y8 := (hR.bel.cell lc).trans c8
    have y9 := (hR.bel.cell lc).trans c9
    have y10 := (hR.bel.cell lc).trans c10
    go_simp
    exact hK _ _ br rfl
   ·exact zR _
   ·refine rs fun S a wx K Q hR hK => ?_
    have t34 := hR.q 4
    go_simp
    go_at_call 11
    go_fit (qz _ _ r _ _ (by have := HS.out.2.1; omega) (by have := HS.out.1; omega) HS.out.2.2 (H6.out.1.r.below hR.bel nl))
    rintro e w' ⟨⟨vt, rfl, hvt⟩, hbt⟩
    exact hK _ _ hbt (hvt.wider (fun b _ h => hR.new b h))
   ·refine rs fun S a wx K Q hR hK => ?_
    have t4 : a.tmps[4]? = some (.pointer (some ⟨w3.heap.size, 0, none⟩)) := hR.o 4
    have y0 := (hR.bel.cell lx).trans x0
    have y1 := (hR.bel.cell lx).trans x1
    have y2 := (hR.bel.cell lx).trans x2
    have y3 := (hR.bel.cell lx).trans x3
    have y4 := (hR.bel.cell lx).trans x4
    have y5 := (hR.bel.cell lx).trans x5
    have y6 := (hR.bel.cell lx).trans x6
    have y7 := (hR.bel.cell lx).trans x7
    have y8 := (hR.bel.cell lx).trans x8
    have y9 := (hR.bel.cell lx).trans x9
    have y10 := (hR.bel.cell lx).trans x10
    go_simp
    exact hK _ _ br rfl
   ·refine rs fun S a wx K Q hR hK => ?_
    obtain ⟨u35, t35, f35⟩ := hR.f 5
    have t36 := hR.q 6
    have f35b : bZ wx S true r u35 := f35
    go_simp
    go_at_call 10
    go_fit (sJ _ _ _ _ r r _ _ _ (by have := HS.out.2.1; omega) f35b (HX6.out.r.below hR.bel nl))
    rintro e w' ⟨rfl, hbt⟩
    rw [Rec.same_refl]
    exact hK _ _ hbt rfl
   ·refine rs fun S a wx K Q hR hK => ?_
    have t37 := hR.q 7
    go_simp
    exact hK _ _ br rfl
   ·refine rs fun S a wx K Q hR hK => ?_
    have t33 := hR.q 3
    have t38 := hR.q 8
    go_simp
    exact hK _ _ br rfl
   intro S9 vs w7 hD
   have HD := hid (And.intro (H6.out.1.below hD.bel nl) (H6.out.2.1.trans (hD.bel.mono H6.out.2.1.size)))
   simp only [bq, List.foldl_cons, List.foldl_nil]
   clear hD H6 HX6 lc lx c0 c1 c2 c3 c4 c5 c6 c7 c8 c9 c10 x0 x1 x2 x3 x4 x5 x6 x7 x8 x9 x10
   go_simp
   obtain ⟨c0, c1, c2, c3, c4, c5, c6, c7, c8, c9, c10⟩ := HD.out.1.cells
   go_wp2_with fail
   refine (tu wr.heap.size (fun b => wr.heap.size ≤ b ∧ b < w5.heap.size) (fun b h => h.1) r _ w7 HD.out.2.size HS.out.2.1 HD.out.1.r).mono ?_
   rintro e w8 ⟨rfl, hb8, _⟩
   have HB8 := hid (HQ.out.trans ((HD.out.2.trans hb8).mono hsr))
   clear hb8 c0 c1 c2 c3 c4 c5 c6 c7 c8 c9 c10 HD
   go_wp2_with fail
   go_roundw
   case rel => exact ⟨j + 1, by omega, by go_num, HB8⟩
   case measure => simp [intOf]; omega
  ·have hj2 : j = 2 := by omega
   subst hj2
   obtain ⟨c0, c1⟩ := HR.out.1.cells
   have g0 : wr.cell? ⟨w1.heap.size, 0, none⟩ = some (.int .u8 (k : Nat)) := by rw [cell_of_row wr _ 0 _ _ _ HR.out.2.2]; rfl
   have g1 : wr.cell? ⟨w1.heap.size, 1, none⟩ = some (.string BA) := by rw [cell_of_row wr _ 1 _ _ _ HR.out.2.2]; rfl
   have lf := HR.out.1.lt
   have lg : w1.heap.size < wr.heap.size := by omega
   have HW := hid HR.out.1
   go_upto_region 12 with fail
   refine iL (w0 := wr) rfl [.eq (.agg #[.int .u8 (k : Nat), .slice ad b.length cap]), .eq (.agg #[.int .u8 (k : Nat), .string BA]), .eq (.agg #[.int .u8 (k : Nat), .string BA]), .eq (.bool true), .eq (.bool true), .eq (.bool true), .eq (.bool true), .eq (.bool true)] (by kernel_rfl) ⟨?_, ?_, ?_, ?_, ?_, ?_, ?_, ?_, trivial⟩ (fun vs => [(42, (.agg #[.int .u8 (k : Nat), .slice ad b.length cap])), (43, (.agg #[.int .u8 (k : Nat), .string BA])), (44, (.agg #[.int .u8 (k : Nat), .string BA])), (45, (.bool true)), (46, (.bool true)), (47, (.bool true)), (48, (.bool true)), (2, (.bool true))]) (fun _ => rfl) ?_
   ·refine rs fun S a wx K Q hR hK => ?_
    have t1 : a.tmps[1]? = some (.pointer (some ⟨w.heap.size, 0, none⟩)) := hR.o 1
    have y0 := (hR.bel.cell lf).trans c0
    have y1 := (hR.bel.cell lf).trans c1
    go_simp
    exact hK _ _ br rfl
   ·refine rs fun S a wx K Q hR hK => ?_
    have t42 := hR.q 0
    go_simp
    go_at_call 7
    go_fit (lT _ false k b _ _ (HW.out.r.below hR.bel nl))
    rintro e w' ⟨rfl, hbx⟩
    exact hK _ _ hbx (by rw [HBA.out.1]; rfl)
   ·refine rs fun S a wx K Q hR hK => ?_
    have t3 : a.tmps[3]? = some (.pointer (some ⟨w1.heap.size, 0, none⟩)) := hR.o 3
    have y0 := (hR.bel.cell lg).trans g0
    have y1 := (hR.bel.cell lg).trans g1
    go_simp
    exact hK _ _ br rfl
   ·refine rs fun S a wx K Q hR hK => ?_
    have t43 := hR.q 1
    have t44 := hR.q 2
    go_simp
    (try go_ints)
    exact hK _ _ br rfl
   ·refine rs fun S a wx K Q hR hK => ?_
    have t45 := hR.q 3
    go_simp
    exact hK _ _ br rfl
   ·refine rs fun S a wx K Q hR hK => ?_
    go_simp
    go_at_call 6
    go_fit (pR _ (HW.out.below hR.bel).lqAt)
    rintro e w' ⟨rfl, hbt⟩
    exact hK _ _ hbt rfl
   ·refine rs fun S a wx K Q hR hK => ?_
    have t46 := hR.q 4
    have t47 := hR.q 5
    go_simp
    exact hK _ _ br rfl
   ·refine rs fun S a wx K Q hR hK => ?_
    have t48 := hR.q 6
    go_simp
    exact hK _ _ br rfl
   intro S12 vs w7 hD
   have HD := hid (HR.out.1.below hD.bel).bel
   simp only [bq, List.foldl_cons, List.foldl_nil]
   clear hD
   go_simp
   go_wp2_with fail
   go_ret
   exact ⟨rfl, HD.out⟩
theorem iD : Tryz.pinned.checked.prog.funcNamed Rows.recordParsesRow.func = some 3 := by kernel_rfl
theorem kT : joinedFacts Tryz.pinned.checked.prog 3 Tryz.f3 Rows.recordParsesSpec Rows.recordParsesRow = true := by
 unfold joinedFacts
 simp only [Bool.and_eq_true]
 repeat' apply And.intro
 all_goals decide +kernel
theorem nI : Rows.recordParsesRow.wfByText (OpenSpec.ofChange Rows.recordParsesSpec) = true := by kernel_rfl
theorem lU : false = Rows.recordParsesRow.goesBy Tryz.pinned.checked.prog := by kernel_rfl
theorem yC : Tryz.pinned.checked.prog.mainIs = some (true, "618b4a6eb7601e603824b6fb2c38f963de592571654e91271ef8055d48290d27".toList) := by kernel_rfl
theorem wT : true = Tryz.pinned.checked.prog.looks [] := by kernel_rfl
theorem kU : ([24].all fun u => !Tryz.pinned.checked.prog.wantsStandIn u) = true := by kernel_rfl
open Go.ChangeShapes Go.WideShapes Go.ChangeAt
theorem mH : ownKnob Tryz.prog.godebug = none := by kernel_rfl
theorem ku (os : Os) (started : os.Started) (H : Type) (enc : TypeId × Value → H) :
  ReturnsInHanded {} Tryz.checked os 3 .any (fun w args => (Rows.recordParsesSpec.pre enc Tryz.prog Tryz.f3 [] false w args ∧ laidMetH Tryz.prog laidL w) ∧ sizedMet enc Tryz.prog Tryz.f3 (OpenSpec.ofChange Rows.recordParsesSpec) false w args)
   (Rows.recordParsesSpec.post enc Tryz.prog Tryz.f3 false true false false) := by
 refine vg (C := Tryz.checked) (X := fun w _ => laidMetH Tryz.prog laidL w) (fun _ _ _ hh h => h.of_heap hh) mH started (by kernel_rfl) Tryz.func3
  (ChangeSpec.witness_shaped (enc := enc) (C := Tryz.checked) (os := os) (X := fun w _ => laidMetH Tryz.prog laidL w) false (laidW os) #[.agg #[.int .u8 0, .slice none 0 0]] 8 (World.laidAll_os _ _ _)
   (tH os _) (by kernel_rfl) (by kernel_rfl) (by kernel_rfl) (yB os _)) ?_
 intro W base args ds gs before hval0 hW hsh hL
 have hval : ∀ (j : Nat) t v, Tryz.f3.params[j]? = some t → args[j]? = some v → Value.okWide Tryz.prog W .any base t v := hval0
 have hW' := hW
 obtain ⟨p, q, hA0, hV, rfl, _, _⟩ := hW
 have hA : DataW.TrodAll enc Tryz.prog W 0 (fun _ => true) true Tryz.f3.params.toList args.toList ds p := hA0
 rw [Tryz.params3] at hA hval
 obtain ⟨v0, d0, rfl, rfl, h0⟩ := trodAll_one hA
 obtain ⟨rfl, rfl⟩ := trodVars_none hV
 obtain ⟨kf, b, vb, rfl, hkf, r0⟩ := wQ (hval 0 _ v0 rfl rfl) h0
 simp only [List.append_nil] at hW'
 have lt0 : ∀ z ∈ p, z.block < W.heap.size := fun z hz => by simpa using hW'.lt z (by simp [hz])
 refine (mG _ _ kf b vb W hkf r0 (wS hL hsh)).mono fun e W' ⟨he, hb⟩ => ?_
 subst he
 exact ⟨_, rfl, _, _, _, [], _, [], hW', trodAll_mk1 (shut_bool Tryz.underlying4 _), trodAll_mk1 (Below.trod tC (by kernel_rfl) (of_decide_eq_true (by kernel_rfl)) h0 hb lt0), rfl, hb.frame _, fun h => by cases h⟩
theorem mI : Rows.RecordParsesSaid :=
 OpenClaim.holds_of_wide 3 Tryz.f3 rfl rfl rfl rfl rfl rfl rfl ⟨rfl, rfl, rfl, rfl, rfl⟩ rfl rfl rfl rfl rfl iD Tryz.func3 kT
  (of_decide_eq_true (by kernel_rfl)) (by unfold Func.isWrapper; first | (rw [if_pos (by decide +kernel)]; kernel_rfl) | (rw [if_neg (by decide +kernel)]; exact ⟨rfl, rfl⟩))
  (fun os started H enc _ => ku os started H enc)
theorem recordParses_card : Rows.RecordParsesCardSaid :=
 Claim7.holds_tied_plain_at .later [] [.data, .data, .data, .data, .sentinel, .sentinel, .pinned] true (true, "618b4a6eb7601e603824b6fb2c38f963de592571654e91271ef8055d48290d27") true
  mI (fun _ h => by cases h) nI (fun _ h => by cases h) recordParses_row_tie rfl ⟨rfl, rfl⟩ yC rfl
  (fun f fn hf hfn => by
   obtain rfl : f = 3 := Option.some.inj (iD.symm.trans hf) |>.symm
   obtain rfl : fn = Tryz.f3 := (Option.some.inj (Tryz.func3.symm.trans hfn)).symm
   exact ⟨wT, fun j t ht => by
    rw [Tryz.params3] at ht
    have hm : t ∈ [24] := by simpa using Array.mem_of_getElem? ht
    have hs := List.all_eq_true.1 kU t hm
    simpa using hs⟩)
  lU
#print axioms recordParses_card
end Go.Proofs.YtmgbhhmipmgcpaaGreatDoor
