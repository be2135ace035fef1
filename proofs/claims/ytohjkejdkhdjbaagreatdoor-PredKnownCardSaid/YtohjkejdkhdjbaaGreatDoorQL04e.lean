/- The law PredKnown, walked. -/
import Derived.Test.YtohjkejdkhdjbaaGreatDoorQL04a
import Derived.Test.YtohjkejdkhdjbaaGreatDoorQL04b
import Derived.Test.YtohjkejdkhdjbaaGreatDoorQ5
import Derived.Test.YtohjkejdkhdjbaaGreatDoorQ15
import Derived.Test.YtohjkejdkhdjbaaGreatDoorQW06a
import Derived.Test.YtohjkejdkhdjbaaGreatDoorQ16
import Derived.Test.YtohjkejdkhdjbaaGreatDoorQEx18
namespace Go.Proofs.YtohjkejdkhdjbaaGreatDoor
open Go.RowKit Go
set_option linter.unusedVariables false
set_option linter.unusedSimpArgs false
def Rel1 (w : World) (k i : Value) (wr : World) : Prop := ∃ kn j : Nat, kn < 100003 ∧ j ≤ 300 ∧ k = .int .i64 kn ∧ i = .int .i64 j ∧ Below w.heap.size w wr
theorem repB_set {w : World} {S : Nat → Prop} {l : List UInt8} {b o cap : Nat} (h : RepB w S true l (.slice (some ⟨b, o, none⟩) l.length cap)) (c : Nat) (hc : c < l.length) (x : UInt8) :
    RepB (w.setCell ⟨b, o + c, none⟩ (.int .u8 x.toNat)) S true (l.set c x) (.slice (some ⟨b, o, none⟩) l.length cap) := by
  obtain ⟨bl, off, h1, h2, h3⟩ := RepB.cell h (by omega)
  injection h1 with h1
  injection h1 with e1 e2
  subst e1 e2
  have hsh := RepB.shape h
  refine ⟨by simp, by simpa using h.2.1, _, cap, by rw [List.length_set], ?_, fun hn => ⟨b, o, rfl, h2, fun j hj => ?_⟩⟩
  · obtain ⟨_, ad, cap', h4, h5⟩ := hsh
    injection h4 with _ _ h4
    simp; omega
  · have hj' : j < l.length := by simpa using hj
    obtain ⟨u, hu⟩ : ∃ u, w.cell? ⟨b, o + c, none⟩ = some u := ⟨_, (h3 c hc).1⟩
    constructor
    · by_cases e : j = c
      · subst e
        rw [World.cell?_setCell_same _ _ _ hu]
        simp [bytes]
      · rw [World.cell?_setCell_other _ _ _ _ (by intro hh; simp only [Addr.mk.injEq] at hh; omega), (h3 j hj').1]
        simp [bytes, List.getElem_set_ne (Ne.symm e)]
    · intro _
      rw [World.frozen?_setCell]
      exact (h3 j hj').2 rfl
def txt : Array Value := #[.string ⟨#[]⟩, .string ⟨#[97, 108, 108]⟩, .string ⟨#[97, 108, 108, 32]⟩, .string ⟨#[120, 60, 61]⟩, .string ⟨#[120, 60, 61, 49, 56, 52, 52, 54, 55, 52, 52, 48, 55, 51, 55, 48, 57, 53, 53, 49, 54, 49, 53]⟩, .string ⟨#[120, 60, 61, 49, 56, 52, 52, 54, 55, 52, 52, 48, 55, 51, 55, 48, 57, 53, 53, 49, 54, 49, 54]⟩, .string ⟨#[120, 60, 61, 48, 48]⟩, .string ⟨#[118, 37, 48, 61, 48]⟩, .string ⟨#[118, 37, 49, 61, 48]⟩, .string ⟨#[118, 37, 51, 61, 51]⟩, .string ⟨#[118, 37, 51]⟩, .string ⟨#[33]⟩, .string ⟨#[33, 33, 97, 108, 108]⟩, .string ⟨#[38, 40, 41]⟩, .string ⟨#[38]⟩, .string ⟨#[38, 40]⟩, .string ⟨#[38, 40, 97, 108, 108]⟩, .string ⟨#[38, 40, 97, 108, 108, 44, 41]⟩, .string ⟨#[38, 40, 97, 108, 108, 44, 97, 108, 108, 41]⟩, .string ⟨#[124, 40, 124, 40, 41, 44, 38, 40, 41, 41]⟩, .string ⟨#[124, 40, 97, 108, 108, 41, 97, 108, 108]⟩, .string ⟨#[33, 33, 33, 33, 33, 33, 33, 97, 108, 108]⟩, .string ⟨#[33, 33, 33, 33, 33, 33, 33, 33, 97, 108, 108]⟩, .string ⟨#[88, 60, 61, 49]⟩, .string ⟨#[118, 60, 61, 49, 32]⟩]
def isStr : Option Value → Bool
  | some (.string _) => true
  | _ => false
theorem txt_all : (List.range 25).all (fun j => isStr txt[j]?) = true := by kernel_rfl
theorem txt_str (j : Nat) (h : j < 25) : ∃ s, txt[j]? = some (.string s) := by
  have h1 := (List.all_eq_true.1 txt_all) j (List.mem_range.2 h)
  revert h1
  generalize txt[j]? = o
  intro h1
  match o, h1 with
  | some (.string s), _ => exact ⟨s, rfl⟩
def leaf : Ex := .mk 1 0 0 []
def RelW (w : World) (g : Nat) (i : Value) (wx : World) : Prop := ∃ j : Nat, ∃ sv es, j ≤ 34 ∧ i = .int .i64 j ∧ es.length = j ∧ Ex.sizes es ≤ j ∧ Below w.heap.size w wx ∧ w.heap.size ≤ g ∧
  wx.heap[g]? = some (.cells #[.int .i64 7, .int .u64 0, .int .u64 0, sv] 26 (0, 0)) ∧ Making wx (g + 1) 26 sv es
theorem wide_far {wb w3 : World} {g : Nat} {o : Obj} {sv : Value} {ob : Obj} (h : wb.heap[g]? = some o) (hob : ∀ k, sv.ownBlock = some k → g + 1 ≤ k ∧ k < wb.heap.size) (hgrow : (wb.alloc ob).grownBy w3 sv.ownBlock) : w3.heap[g]? = some o := by
  have hl := (Array.getElem?_eq_some_iff.1 h).1
  rw [hgrow.block g (by simp; omega) (fun e => by have := hob g e.symm; omega), heap_alloc_lt _ _ _ hl]
  exact h
theorem wide_below {w wb w3 : World} {g : Nat} {sv : Value} {ob : Obj} (hb : Below w.heap.size w wb) (hg : w.heap.size ≤ g) (hl : g < wb.heap.size) (hob : ∀ k, sv.ownBlock = some k → g + 1 ≤ k ∧ k < wb.heap.size) (hgrow : (wb.alloc ob).grownBy w3 sv.ownBlock) : Below w.heap.size w w3 :=
  Below.grown' (base := g + 1) hb hgrow hob (by omega) (by omega)
theorem wide_push {wb w3 : World} {g j gg gcap : Nat} {sa : Option Addr} {sc : Nat} {es : List Ex} {ys : List Value} (hel : es.length = j) (hown : wb.ownsRow (g + 1) 26 4 (.slice sa j sc) j ys)
    (hey : RepEs wb (fun b => g + 1 ≤ b ∧ (Value.slice sa j sc).ownBlock ≠ some b) true es ys) (hl : g < wb.heap.size) (hgrow : (wb.alloc (.cells #[.int .i64 1, .int .u64 0, .int .u64 0, .slice none 0 0] 26)).grownBy w3 (Value.slice sa j sc).ownBlock)
    (hown2 : w3.ownsRow (g + 1) 26 4 (.slice (some ⟨gg, 0, none⟩) (j + 1) gcap) (j + 1) (ys ++ [.int .i64 1, .int .u64 0, .int .u64 0, .slice none 0 0])) (hat : (Value.slice sa j sc).ownBlock = some gg ∨ gg = wb.heap.size + 1) :
    Making w3 (g + 1) 26 (.slice (some ⟨gg, 0, none⟩) (j + 1) gcap) (es ++ [leaf]) := by
  subst hel
  have hv : RepE (wb.alloc (.cells #[.int .i64 1, .int .u64 0, .int .u64 0, .slice none 0 0] 26)) (fun b => wb.heap.size ≤ b) true leaf (.agg #[.int .i64 1, .int .u64 ((0 : Nat) : Int), .int .u64 ((0 : Nat) : Int), .slice none 0 0]) := by
    simp only [leaf, RepE]; exact ⟨_, [], rfl, by omega, by omega, by omega, by omega, Sl.nil _ _ _ _, by simp [RepEs]⟩
  exact Making.push2 hown hey (by omega) ((Below.refl _ _).alloc (Nat.le_refl _) _) hv hgrow hown2 (by simpa using hat)
theorem wide_rep {wc : World} {g gg gcap j : Nat} {es : List Ex} (hel : es.length = j + 1) (hm : Making wc (g + 1) 26 (.slice (some ⟨gg, 0, none⟩) (j + 1) gcap) es) :
    RepE wc (fun _ => True) false (.mk 7 0 0 es) (.agg #[.int .i64 7, .int .u64 ((0 : Nat) : Int), .int .u64 ((0 : Nat) : Int), .slice (some ⟨gg, 0, none⟩) (j + 1) gcap]) := by
  obtain ⟨ys, h1, h2⟩ := hm.sl
  simp only [RepE]
  exact ⟨_, ys, rfl, by omega, by omega, by omega, by omega, (h1.keep (by omega) (fun _ _ _ => rfl) (fun _ _ _ => trivial)).unown, (h2.wider (fun _ _ _ => trivial)).unown⟩
theorem cast_rel {w : World} {g j : Nat} {wz : World} (h : RelW w g (.int .i64 ((j + 1 : Nat) : Int)) wz) : RelW w g (.int .i64 ((j : Int) + 1)) wz := by simpa using h
def RelD (w : World) (g : Nat) (i : Value) (wx : World) : Prop := ∃ j : Nat, ∃ e : Ex, ∃ (k : Int) (a b : Nat) (ad : Option Addr) (n cap : Nat), j ≤ 10 ∧ i = .int .i64 j ∧ e.size ≤ j + 1 ∧ Below w.heap.size w wx ∧ w.heap.size ≤ g ∧
  wx.heap[g]? = some (.cells #[.int .i64 k, .int .u64 (a : Nat), .int .u64 (b : Nat), .slice ad n cap] 26 (0, 0)) ∧ RepE wx (fun b => g < b) false e (.agg #[.int .i64 k, .int .u64 (a : Nat), .int .u64 (b : Nat), .slice ad n cap])
theorem leaf_rep (w : World) (S : Nat → Prop) : RepE w S false leaf (.agg #[.int .i64 1, .int .u64 ((0 : Nat) : Int), .int .u64 ((0 : Nat) : Int), .slice none 0 0]) := by
  simp only [leaf, RepE]; exact ⟨_, [], rfl, by omega, by omega, by omega, by omega, Sl.nil _ _ _ _, by simp [RepEs]⟩
theorem cast_relD {w : World} {g j : Nat} {wz : World} (h : RelD w g (.int .i64 ((j + 1 : Nat) : Int)) wz) : RelD w g (.int .i64 ((j : Int) + 1)) wz := by simpa using h
theorem deep_step {w wx : World} {g : Nat} {k : Int} {a b : Nat} {ad : Option Addr} {n cap : Nat} {e : Ex} (hb : Below w.heap.size w wx) (hg : w.heap.size ≤ g) (hh : wx.heap[g]? = some (.cells #[.int .i64 k, .int .u64 (a : Nat), .int .u64 (b : Nat), .slice ad n cap] 26 (0, 0)))
    (hr : RepE wx (fun b => g < b) false e (.agg #[.int .i64 k, .int .u64 (a : Nat), .int .u64 (b : Nat), .slice ad n cap])) :
    Below w.heap.size w ((wx.alloc (.cells #[.int .i64 k, .int .u64 (a : Nat), .int .u64 (b : Nat), .slice ad n cap] 26)).setRow g #[.int .i64 5, .int .u64 0, .int .u64 0, .slice (some ⟨wx.heap.size, 0, none⟩) 1 1]) ∧
    ((wx.alloc (.cells #[.int .i64 k, .int .u64 (a : Nat), .int .u64 (b : Nat), .slice ad n cap] 26)).setRow g #[.int .i64 5, .int .u64 0, .int .u64 0, .slice (some ⟨wx.heap.size, 0, none⟩) 1 1]).heap[g]? = some (.cells #[.int .i64 5, .int .u64 ((0 : Nat) : Int), .int .u64 ((0 : Nat) : Int), .slice (some ⟨wx.heap.size, 0, none⟩) 1 1] 26 (0, 0)) ∧
    RepE ((wx.alloc (.cells #[.int .i64 k, .int .u64 (a : Nat), .int .u64 (b : Nat), .slice ad n cap] 26)).setRow g #[.int .i64 5, .int .u64 0, .int .u64 0, .slice (some ⟨wx.heap.size, 0, none⟩) 1 1]) (fun b => g < b) false (.mk 5 0 0 [e]) (.agg #[.int .i64 5, .int .u64 ((0 : Nat) : Int), .int .u64 ((0 : Nat) : Int), .slice (some ⟨wx.heap.size, 0, none⟩) 1 1]) := by
  have hl := (Array.getElem?_eq_some_iff.1 hh).1
  have hs := hb.size
  refine ⟨below_setRow (hb.alloc hs _) _ _ hg, setRow_heap _ _ _ _ _ _ ((heap_alloc_lt _ _ _ hl).trans hh), ?_⟩
  have h1 : ((wx.alloc (.cells #[.int .i64 k, .int .u64 (a : Nat), .int .u64 (b : Nat), .slice ad n cap] 26)).setRow g #[.int .i64 5, .int .u64 0, .int .u64 0, .slice (some ⟨wx.heap.size, 0, none⟩) 1 1]).heap[wx.heap.size]? = some (.cells #[.int .i64 k, .int .u64 (a : Nat), .int .u64 (b : Nat), .slice ad n cap] 26 (0, 0)) := by
    rw [setRow_other _ _ _ _ (by omega)]; exact heap_alloc_new _ _
  simp only [RepE]
  refine ⟨_, [.int .i64 k, .int .u64 (a : Nat), .int .u64 (b : Nat), .slice ad n cap], rfl, by omega, by omega, by omega, by omega, ((sl_block 1 4 h1 rfl (by omega)).keep (by omega) (fun _ _ _ => rfl) (fun x _ hx => by subst hx; exact hl)).unown, RepEs.one (RepE.keep (fun x hx hl2 => ?_) (fun _ _ h => h) hr)⟩
  rw [setRow_other _ _ _ _ (by omega), heap_alloc_lt _ _ _ hl2]
def odd : List Ex := [.mk 0 0 0 [], .mk 8 0 0 [], .mk 1 1 0 [], .mk 2 0 1 [], .mk 4 0 0 [], .mk 4 2 2 [], .mk 5 0 0 [], .mk 3 0 0 [leaf], .mk 6 3 0 [], .mk 5 0 0 [leaf, leaf], .mk 6 0 0 [.mk (-1) 0 0 []]]
def oddCells (g : Nat) : Array Value := #[.int .i64 0, .int .u64 0, .int .u64 0, .slice none 0 0, .int .i64 8, .int .u64 0, .int .u64 0, .slice none 0 0, .int .i64 1, .int .u64 1, .int .u64 0, .slice none 0 0, .int .i64 2, .int .u64 0, .int .u64 1, .slice none 0 0, .int .i64 4, .int .u64 0, .int .u64 0, .slice none 0 0, .int .i64 4, .int .u64 2, .int .u64 2, .slice none 0 0, .int .i64 5, .int .u64 0, .int .u64 0, .slice none 0 0, .int .i64 3, .int .u64 0, .int .u64 0, .slice (some ⟨g, 0, none⟩) 1 1, .int .i64 6, .int .u64 3, .int .u64 0, .slice none 0 0, .int .i64 5, .int .u64 0, .int .u64 0, .slice (some ⟨g + 1, 0, none⟩) 2 2, .int .i64 6, .int .u64 0, .int .u64 0, .slice (some ⟨g + 1 + 1, 0, none⟩) 1 1]
def oddW (w : World) : World := (((w.alloc (.cells #[.int .i64 1, .int .u64 0, .int .u64 0, .slice none 0 0] 26)).alloc (.cells #[.int .i64 1, .int .u64 0, .int .u64 0, .slice none 0 0, .int .i64 1, .int .u64 0, .int .u64 0, .slice none 0 0] 26)).alloc (.cells #[.int .i64 (-1), .int .u64 0, .int .u64 0, .slice none 0 0] 26)).alloc (.cells (oddCells w.heap.size) 26)
theorem reps_cons {w : World} {S : Nat → Prop} {own : Bool} {e : Ex} {es : List Ex} {c0 c1 c2 c3 : Value} {rest : List Value} (h1 : RepE w S own e (.agg #[c0, c1, c2, c3])) (h2 : RepEs w S own es rest) : RepEs w S own (e :: es) (c0 :: c1 :: c2 :: c3 :: rest) := by
  simp only [RepEs]; exact ⟨_, _, _, _, _, rfl, h1, h2⟩
theorem rep_flat (w : World) (k : Int) (a b : Nat) (h1 : -100 ≤ k ∧ k ≤ 100) (h2 : a ≤ 100 ∧ b ≤ 100) : RepE w (fun _ => True) false (.mk k a b []) (.agg #[.int .i64 k, .int .u64 (a : Nat), .int .u64 (b : Nat), .slice none 0 0]) := by
  simp only [RepE]; exact ⟨_, [], rfl, by omega, by omega, by omega, by omega, Sl.nil _ _ _ _, by simp [RepEs]⟩
theorem rep_parts {w : World} {g : Nat} {cs : Array Value} {es : List Ex} (k : Int) (n : Nat) (h1 : 0 ≤ k ∧ k ≤ 100) (h : w.heap[g]? = some (.cells cs 26 (0, 0))) (hn : es.length = n) (hz : cs.size = n * 4) (hm : n ≤ 100) (he : RepEs w (fun _ => True) false es cs.toList) :
    RepE w (fun _ => True) false (.mk k 0 0 es) (.agg #[.int .i64 k, .int .u64 ((0 : Nat) : Int), .int .u64 ((0 : Nat) : Int), .slice (some ⟨g, 0, none⟩) n n]) := by
  subst hn
  simp only [RepE]
  exact ⟨_, cs.toList, rfl, by omega, by omega, by omega, by omega, ((sl_block es.length 4 h hz (by omega)).keep (by omega) (fun _ _ _ => rfl) (fun _ _ _ => trivial)).unown, he⟩
theorem odd_rep (w : World) : RepEs (oddW w) (fun _ => True) false odd (oddCells w.heap.size).toList ∧ (oddW w).heap[w.heap.size + 1 + 1 + 1]? = some (.cells (oddCells w.heap.size) 26 (0, 0)) ∧ Below w.heap.size w (oddW w) := by
  have h3 : (oddW w).heap[w.heap.size + 1 + 1 + 1]? = some (.cells (oddCells w.heap.size) 26 (0, 0)) := by unfold oddW; exact heap_alloc_at _ _ _ (by simp <;> omega)
  have h2 : (oddW w).heap[w.heap.size + 1 + 1]? = some (.cells #[.int .i64 (-1), .int .u64 0, .int .u64 0, .slice none 0 0] 26 (0, 0)) := by unfold oddW; rw [heap_alloc_lt _ _ _ (by simp <;> omega)]; exact heap_alloc_at _ _ _ (by simp <;> omega)
  have h1 : (oddW w).heap[w.heap.size + 1]? = some (.cells #[.int .i64 1, .int .u64 0, .int .u64 0, .slice none 0 0, .int .i64 1, .int .u64 0, .int .u64 0, .slice none 0 0] 26 (0, 0)) := by unfold oddW; rw [heap_alloc_lt _ _ _ (by simp <;> omega), heap_alloc_lt _ _ _ (by simp <;> omega)]; exact heap_alloc_at _ _ _ (by simp <;> omega)
  have h0 : (oddW w).heap[w.heap.size]? = some (.cells #[.int .i64 1, .int .u64 0, .int .u64 0, .slice none 0 0] 26 (0, 0)) := by unfold oddW; rw [heap_alloc_lt _ _ _ (by simp <;> omega), heap_alloc_lt _ _ _ (by simp <;> omega), heap_alloc_lt _ _ _ (by simp <;> omega)]; exact heap_alloc_at _ _ _ rfl
  refine ⟨?_, h3, by unfold oddW; exact ((((Below.refl _ _).alloc (Nat.le_refl _) _).alloc (by simp <;> omega) _).alloc (by simp <;> omega) _).alloc (by simp <;> omega) _⟩
  have l := leaf_rep (oddW w) (fun _ => True)
  have z : RepEs (oddW w) (fun _ => True) false [] [] := by simp [RepEs]
  have f := fun k a b h1 h2 => rep_flat (oddW w) k a b h1 h2
  exact reps_cons (f 0 0 0 (by omega) (by omega)) (reps_cons (f 8 0 0 (by omega) (by omega)) (reps_cons (f 1 1 0 (by omega) (by omega)) (reps_cons (f 2 0 1 (by omega) (by omega)) (reps_cons (f 4 0 0 (by omega) (by omega)) (reps_cons (f 4 2 2 (by omega) (by omega)) (reps_cons (f 5 0 0 (by omega) (by omega))
    (reps_cons (rep_parts 3 1 (by omega) h0 rfl rfl (by omega) (reps_cons l z)) (reps_cons (f 6 3 0 (by omega) (by omega)) (reps_cons (rep_parts 5 2 (by omega) h1 rfl rfl (by omega) (reps_cons l (reps_cons l z))) (reps_cons (rep_parts 6 1 (by omega) h2 rfl rfl (by omega) (reps_cons (f (-1) 0 0 (by omega) (by omega)) z)) z))))))))))
theorem odd_part {w : World} {S : Nat → Prop} {cs : List Value} {go : Nat} (hs : Sl w (fun b => b = go) true 4 odd.length cs (.slice (some ⟨go, 0, none⟩) 11 11)) (h : RepEs w S false odd cs) (j : Nat) (hj : j < 11) :
    ∃ k' a' b' ad' n' cap', w.cell? ⟨go, j * 4, none⟩ = some (.int .i64 k') ∧ w.cell? ⟨go, j * 4 + 1, none⟩ = some (.int .u64 (a' : Nat)) ∧ w.cell? ⟨go, j * 4 + 2, none⟩ = some (.int .u64 (b' : Nat)) ∧ w.cell? ⟨go, j * 4 + 3, none⟩ = some (.slice ad' n' cap') ∧
      RepE w S false odd[j] (.agg #[.int .i64 k', .int .u64 (a' : Nat), .int .u64 (b' : Nat), .slice ad' n' cap']) := by
  obtain ⟨bl, off, ha, hS, hc⟩ := hs.cells (by decide)
  injection ha with ha
  injection ha with e1 e2
  subst e1 e2
  have hs2 : Sl w S false 4 odd.length cs (.slice (some ⟨go, 0, none⟩) 11 11) ∨ True := .inr trivial
  obtain ⟨c0, c1, c2, c3, g0, g1, g2, g3, g⟩ := h.get j hj
  have hx := h.length
  have h11 : odd.length = 11 := rfl
  have q0 := hc (j * 4) (by omega)
  have q1 := hc (j * 4 + 1) (by omega)
  have q2 := hc (j * 4 + 2) (by omega)
  have q3 := hc (j * 4 + 3) (by omega)
  rw [List.getElem?_eq_getElem (by omega)] at g0 g1 g2 g3
  obtain ⟨k', a', b', ad', n', cap', hv⟩ := g.conc
  simp only [Value.agg.injEq, Array.mk.injEq, List.cons.injEq, and_true] at hv
  obtain ⟨rfl, rfl, rfl, rfl⟩ := hv
  refine ⟨k', a', b', ad', n', cap', ?_, ?_, ?_, ?_, g⟩
  · rw [← g0, ← q0.1, Nat.zero_add]
  · rw [← g1, ← q1.1, Nat.zero_add]
  · rw [← g2, ← q2.1, Nat.zero_add]
  · rw [← g3, ← q3.1, Nat.zero_add]
theorem lit_rep (w : World) (l : List UInt8) (hl : l.length ≤ 1000) : RepB (w.alloc (.cells (bytes l).toArray 5)) (fun _ => True) true l (.slice (some ⟨w.heap.size, 0, none⟩) l.length l.length) := by
  have h := ownsRow_lit w 0 (bytes l).toArray 5 (Nat.zero_le _) (by simpa using hl)
  have h2 : (bytes l).toArray.size = l.length := by simp
  rw [h2] at h
  exact (RepB.of_owns (l := l) h).keep (by omega) (fun _ _ _ => rfl) (fun _ _ _ => trivial)
theorem lv_alloc {w wx : World} (h : Lv w.heap.size w) (hb : Below w.heap.size w wx) (o : Obj) : Lv (wx.alloc o).heap.size (wx.alloc o) := (h.below (hb.alloc hb.size o)).mono (by have := hb.size; simp; omega)
def pStr (n : Nat) (S : Nat → Prop) (v : Value) (w : World) : Prop := ∃ s : ByteArray, v = .string s ∧ s.size ≤ n
theorem steadyStr (n : Nat) : Steady (pStr n) := fun S S' v w w' _ _ _ h => h
set_option maxHeartbeats 20000000 in
set_option maxRecDepth 100000 in
theorem predKnown_law (w : World) (hL : Lv w.heap.size w) : Calls Tryz.prog 7 #[] w fun e w' => e = .returned (.bool true) ∧ Below w.heap.size w w' := by
  have HL := Lib.hid hL
  obtain ⟨ib, hib, hbz0, hbz1, hbz2⟩ := info_parts infoByte
  have HI := Lib.hid (And.intro hib (And.intro hbz0 (And.intro hbz1 hbz2)))
  obtain ⟨i0, hi0, hz0, hz1, hz2⟩ := info_parts infoPred
  have HI0 := Lib.hid (And.intro hi0 (And.intro hz0 (And.intro hz1 hz2)))
  clear hL hib hbz0 hbz1 hbz2 hi0 hz0 hz1 hz2
  go_enter Tryz.func7, Tryz.ntmps7
  go_wp2_with fail
  go_loopw [1, 2] (Rel1 w) (fun _ i _ => 300 - (intOf i).toNat)
  case atStart => exact ⟨1, 0, by omega, by omega, rfl, rfl, Below.refl _ _⟩
  case round =>
    obtain ⟨kn, j, hk, hj, rfl, rfl, hbel⟩ := hrel
    have HB := Lib.hid hbel
    clear hbel
    by_cases hlt : j < 300
    · have t0 : decide ((j : Int) < 300) = true := by simp; omega
      go_wp2_with fail
      refine (made_any 0 _ _ _ (by omega) (by omega) (by omega) (by omega)).mono ?_
      rintro e w1 ⟨⟨p, pv, rfl, hps, hpr⟩, hb1⟩
      obtain ⟨k0, a0, b0, ad0, n0, cap0, rfl⟩ := hpr.conc
      have HP := Lib.hid (And.intro hpr (HB.out.trans (hb1.mono HB.out.size)))
      clear hpr hb1
      go_wp2_with fail
      refine (made_any 0 _ _ _ (by omega) (by omega) (by omega) (by omega)).mono ?_
      rintro e w2 ⟨⟨q, qv, rfl, hqs, hqr⟩, hb2⟩
      obtain ⟨k1, a1, b1, ad1, n1, cap1, rfl⟩ := hqr.conc
      have HQ := Lib.hid (And.intro hqr hb2)
      clear hqr hb2
      go_wp2_with fail
      have hx2 : Below w.heap.size w w2 := HP.out.2.trans (HQ.out.2.mono HP.out.2.size)
      have hxs := hx2.size
      obtain ⟨X, hX⟩ : ∃ X, X = ((w2.alloc (.cells #[.int .i64 k0, .int .u64 a0, .int .u64 b0, .slice ad0 n0 cap0] 26)).alloc (.cells #[.int .i64 k1, .int .u64 a1, .int .u64 b1, .slice ad1 n1 cap1] 26)) := ⟨_, rfl⟩
      have hb2X : Below w2.heap.size w2 X := by rw [hX]; exact ((Below.refl _ _).alloc (Nat.le_refl _) _).alloc (by simp) _
      have hbX : Below w.heap.size w X := hx2.trans (hb2X.mono hxs)
      have hk1 : Bk w.heap.size w2.heap.size (fun _ => True) p q #[.int .i64 k0, .int .u64 a0, .int .u64 b0, .slice ad0 n0 cap0] #[.int .i64 k1, .int .u64 a1, .int .u64 b1, .slice ad1 n1 cap1] X := by
        refine ⟨?_, ?_, (((HP.out.1.below HQ.out.2 (Nat.le_refl _)).below hb2X (Nat.le_refl _)).wider (fun _ _ _ => trivial)).unown, ((HQ.out.1.below hb2X (Nat.le_refl _)).wider (fun _ _ _ => trivial)).unown, HL.out.below hbX, hbX.size⟩
        · rw [hX]; exact (heap_alloc_lt _ _ _ (by simp)).trans (heap_alloc_at _ _ _ rfl)
        · rw [hX]; exact heap_alloc_at _ _ _ (by simp)
      have HK := Lib.hid (And.intro hk1 hbX)
      have hdp := p.depth_le_size
      rw [← hX]
      clear hX hbX hk1 hb2X hx2 hxs HP HQ
      obtain ⟨g, hg⟩ : ∃ g, g = w2.heap.size := ⟨_, rfl⟩
      rw [← hg] at HK ⊢
      clear hg
      refine (docExpr_any p.depth _ _ p _ _ (Nat.le_refl _) (by omega) (by omega) HK.out.1.rp).mono ?_
      rintro e w3 ⟨⟨v', rfl, hd⟩, hb3⟩
      have HK3 := Lib.hid (And.intro (HK.out.1.below hb3) (HK.out.2.trans (hb3.mono HK.out.2.size)))
      clear hb3 HK
      have HD := Lib.hid hd
      clear hd
      go_wp2_with fail
      refine (refPutE_any _ _ p _ _ (by omega) HD.out).mono ?_
      rintro e w4 ⟨bv, rfl, hown, hb4⟩
      have HK4 := Lib.hid (And.intro (HK3.out.1.below hb4) (HK3.out.2.trans (hb4.mono HK3.out.2.size)))
      have hlen : p.put.length ≤ 1240 := by have := p.st_length; unfold Ex.put; split <;> simp <;> omega
      obtain ⟨bl, hbl⟩ : ∃ bl, bl = p.put := ⟨_, rfl⟩
      rw [← hbl] at hown hlen
      obtain ⟨ba, bc, rfl⟩ := owns_slice hown
      have hw34 : w.heap.size ≤ w3.heap.size := HK3.out.2.size
      have hown := ownsRow_mono hown hw34
      have HO4 := Lib.hid hown
      have HBL := Lib.hid hbl
      clear hown hb4 HK3 hbl HD hw34
      obtain ⟨l0, l1⟩ := HK4.out.1.lt
      obtain ⟨⟨p0, p1, p2, p3⟩, q0, q1, q2, q3⟩ := HK4.out.1.cells
      go_wp2_with fail
      refine (docExpr_any p.depth _ _ p _ _ (Nat.le_refl _) (by omega) (by omega) HK4.out.1.rp).mono ?_
      rintro e w5 ⟨⟨v', rfl, hd⟩, hb5⟩
      have HK5 := Lib.hid (And.intro (HK4.out.1.below hb5) (HK4.out.2.trans (hb5.mono HK4.out.2.size)))
      have HO5 := Lib.hid (ownsRow_below HO4.out hb5 (Nat.le_refl _))
      have HD := Lib.hid hd
      clear hd hb5 HK4 HO4 l0 l1 p0 p1 p2 p3 q0 q1 q2 q3
      go_wp2_with fail
      refine (refText_any _ _ p _ _ (by omega) HD.out).mono ?_
      rintro e w6 ⟨rfl, hb6⟩
      have HK6 := Lib.hid (And.intro (HK5.out.1.below hb6) (HK5.out.2.trans (hb6.mono HK5.out.2.size)))
      have HO6 := Lib.hid (ownsRow_below HO5.out hb6 (Nat.le_refl _))
      obtain ⟨s, hs⟩ : ∃ s : ByteArray, s = ⟨p.text.toArray⟩ := ⟨_, rfl⟩
      have hss : s.size = p.text.length := by rw [hs]; simp [ByteArray.size]
      have hsn : s.size ≤ 2000 := by have := Ex.text_len HD.out; omega
      have hsp : 0 < bl.length → 0 < s.size := fun h => by rw [hss]; exact Ex.text_pos (by rw [← HBL.out]; exact h)
      have HSP := Lib.hid hsp
      rw [← hs]
      clear hs hss hsp hb6 HK5 HO5 HD HBL
      obtain ⟨l0, l1⟩ := HK6.out.1.lt
      obtain ⟨⟨p0, p1, p2, p3⟩, q0, q1, q2, q3⟩ := HK6.out.1.cells
      go_wp2_with fail
      refine (predTells_law _ p q _ _ (j % 9) (kn % 11) _ HK6.out.1.rp HK6.out.1.rq (by omega) (by omega) HK6.out.1.lvAt).mono ?_
      rintro e w7 ⟨rfl, hb7⟩
      have HK7 := Lib.hid (And.intro (HK6.out.1.below hb7) (HK6.out.2.trans (hb7.mono HK6.out.2.size)))
      have HO7 := Lib.hid (ownsRow_below HO6.out hb7 (Nat.le_refl _))
      clear hb7 HK6 HO6 l0 l1 p0 p1 p2 p3 q0 q1 q2 q3
      obtain ⟨l0, l1⟩ := HK7.out.1.lt
      obtain ⟨⟨p0, p1, p2, p3⟩, q0, q1, q2, q3⟩ := HK7.out.1.cells
      go_wp2_with fail
      refine (predBack_law _ _ p q _ _ _ bl (j % 9) (kn % 11) _ HK7.out.1.rp HK7.out.1.rq ((RepB.of_owns HO7.out).keep (by omega) (fun _ _ _ => rfl) (fun _ _ _ => trivial)) (by omega) (by omega) HK7.out.1.lvAt).mono ?_
      rintro e w8 ⟨rfl, hb8⟩
      have HK8 := Lib.hid (And.intro (HK7.out.1.below hb8) (HK7.out.2.trans (hb8.mono HK7.out.2.size)))
      have HO8 := Lib.hid (ownsRow_below HO7.out hb8 (Nat.le_refl _))
      clear hb8 HK7 HO7 l0 l1 p0 p1 p2 p3 q0 q1 q2 q3
      obtain ⟨hib, hbz0, hbz1, hbz2⟩ := HI.out
      have hz8 : w.heap.size ≤ w8.heap.size := HK8.out.1.lb
      go_wp2_with (at_builtin; go_loud (refine wpList_append_keep _ rfl (.tmp 56) (.tmp 59) _ rfl w.heap.size 5 ib _ 1 Tryz.underlying39 hib hbz0 hbz1 hbz2 rfl (.slice ba bl.length bc) bl.length (bytes bl) rfl (HO8.out.alloc _) ⟨w8.heap.size, 0, none⟩ 1 (.int .u8 ((j : Int) % 256)) rfl (by rw [cell_of_row _ _ 0 _ _ _ (heap_alloc_new _ _)]; rfl) rfl (by unfold maxLen; omega) (by omega) (by simp; omega) ?_); intro v9 w9 hn1 hn2 hb9)
      obtain ⟨va, vc, rfl⟩ := owns_slice hn1
      have hx1 : bytes bl ++ [Value.int .u8 ((j : Int) % 256)] = bytes (bl ++ [(j % 256).toUInt8]) := by simp [bytes, u8_toNat (show j % 256 < 256 from by omega)]
      rw [hx1] at hn1
      have hl1 : (bl ++ [(j % 256).toUInt8]).length = bl.length + 1 := by simp
      have hb9' : Below w.heap.size w w9 := (HK8.out.2.alloc hz8 _).trans hb9
      have hL9 : Lv w9.heap.size w9 := (HL.out.below hb9').mono hb9'.size
      have hr1 : RepB w9 (fun _ => True) true (bl ++ [(j % 256).toUInt8]) (.slice va (bl.length + 1) vc) := (RepB.of_owns (by rw [hl1]; exact hn1)).keep (by omega) (fun _ _ _ => rfl) (fun _ _ _ => trivial)
      have HR9 := Lib.hid hr1
      have HS9 := Lib.hid (And.intro hn2 (And.intro hb9' hL9))
      clear hn1 hn2 hb9 hb9' hL9 hr1 hx1 hl1 hib hbz0 hbz1 hbz2 HK8 HO8 hz8
      go_wp2_with fail
      refine (predTakes_law _ _ _ _ _ _ HR9.out (by omega) (by omega) HS9.out.2.2).mono ?_
      rintro e w10 ⟨rfl, hb10⟩
      have hown10 := ownsRow_below HS9.out.1 hb10 (Nat.le_refl _)
      have hb10' := HS9.out.2.1.trans (hb10.mono HS9.out.2.1.size)
      have HO10 := Lib.hid hown10
      have HR10 : Hid (RepB w10 (fun _ => True) true bl (.slice ba bl.length bc)) := Lib.hid ((RepB.of_owns hown10).keep (by omega) (fun _ _ _ => rfl) (fun _ _ _ => trivial))
      have HS10 := Lib.hid (And.intro hb10' ((HL.out.below hb10').mono hb10'.size))
      have hbc : bl.length ≤ bc := by
        obtain ⟨_, ad', cap', h1, h2⟩ := RepB.shape HR10.out
        simp only [Value.slice.injEq, true_and] at h1
        omega
      clear hown10 hb10 hb10' HR9 HS9
      have hM1 : bl.length * (j % 3) ≤ bl.length * 2 := Nat.mul_le_mul_left _ (by omega)
      obtain ⟨M, hM⟩ : ∃ M : Nat, M = bl.length * (j % 3) := ⟨_, rfl⟩
      rw [← hM] at hM1
      have hM2 : (bl.length : Int) * ((j : Int) % 3) = (M : Int) := by rw [hM]; simp
      obtain ⟨N, hN⟩ : ∃ N : Nat, N = bl.length - M / 9 := ⟨_, rfl⟩
      have hN1 : N ≤ bl.length := by omega
      have hN3 : N ≤ bc := by omega
      have hN2 : (bl.length : Int) - (M : Int) / 9 = (N : Int) := by omega
      clear hM hN
      go_wp2_with fail
      have hh := RepB.head HR10.out N bc hN1 hN3
      clear hM2 hN2
      refine (predTakes_law _ _ (bl.take N) _ 0 _ hh (by omega) (by omega) HS10.out.2).mono ?_
      rintro e w11 ⟨rfl, hb11⟩
      have hb11' := HS10.out.1.trans (hb11.mono HS10.out.1.size)
      have HO11 := Lib.hid (ownsRow_below HO10.out hb11 (Nat.le_refl _))
      have HR11 := Lib.hid (HR10.out.below hb11 (Nat.le_refl _))
      have HS11 := Lib.hid (And.intro hb11' ((HL.out.below hb11').mono hb11'.size))
      clear hb11 hb11' hh HO10 HR10 HS10
      go_wp2_with fail
      refine (predReads_law _ _ HS11.out.2).mono ?_
      rintro e w12 ⟨rfl, hb12⟩
      have hb12' := HS11.out.1.trans (hb12.mono HS11.out.1.size)
      have HO12 := Lib.hid (ownsRow_below HO11.out hb12 (Nat.le_refl _))
      have HR12 := Lib.hid (HR11.out.below hb12 (Nat.le_refl _))
      have HS12 := Lib.hid (And.intro hb12' ((HL.out.below hb12').mono hb12'.size))
      clear hb12 hb12' HO11 HR11 HS11
      go_wp2_with fail
      refine (predReads_law _ _ HS12.out.2).mono ?_
      rintro e w13 ⟨rfl, hb13⟩
      have hb13' := HS12.out.1.trans (hb13.mono HS12.out.1.size)
      have HO13 := Lib.hid (ownsRow_below HO12.out hb13 (Nat.le_refl _))
      have HR13 := Lib.hid (HR12.out.below hb13 (Nat.le_refl _))
      have HS13 := Lib.hid (And.intro hb13' ((HL.out.below hb13').mono hb13'.size))
      clear hb13 hb13' HO12 HR12 HS12
      by_cases hpos : 0 < bl.length
      · have d0 : decide ((0 : Int) < (bl.length : Int)) = true := decide_eq_true (by omega)
        have d1 : ((bl.length : Int) == 0) = false := beq_eq_false_iff_ne.2 (by omega)
        obtain ⟨bb, bo, rfl, hSb, hcell⟩ := (RepB.of_owns HO13.out).cell hpos
        have hbb : w.heap.size ≤ bb := hSb.2
        clear hSb
        obtain ⟨c, hc⟩ : ∃ c : Nat, c = kn % bl.length := ⟨_, rfl⟩
        have hc1 : c < bl.length := by rw [hc]; exact Nat.mod_lt _ hpos
        have hc2 : (kn : Int) % (bl.length : Int) = (c : Int) := by rw [hc]; simp
        have hcl := (hcell c hc1).1
        have hcf := (hcell c hc1).2 rfl
        clear hc hcell
        go_wp2_with fail
        obtain ⟨wy, hwy⟩ : ∃ wy, wy = w13.setCell ⟨bb, bo + c, none⟩ (.int .u8 ((j : Int) % 9)) := ⟨_, rfl⟩
        have hy1 : Value.int .u8 ((j : Int) % 9) = .int .u8 (((j % 9).toUInt8.toNat : Nat) : Int) := by rw [u8_toNat (show j % 9 < 256 from by omega)]; simp
        have hyb : Below w.heap.size w wy := by rw [hwy]; exact HS13.out.1.setCell hbb _
        have HRY : Hid (RepB wy (fun _ => True) true (bl.set c (j % 9).toUInt8) (.slice (some ⟨bb, bo, none⟩) bl.length bc)) := Lib.hid (by rw [hwy, hy1]; exact (repB_set (RepB.of_owns HO13.out) c hc1 _).keep (by omega) (fun _ _ _ => rfl) (fun _ _ _ => trivial))
        have HSY := Lib.hid (And.intro hyb ((HL.out.below hyb).mono hyb.size))
        have hsp := HSP.out hpos
        obtain ⟨d, hd⟩ : ∃ d : Nat, d = kn % s.size := ⟨_, rfl⟩
        have hd1 : d < s.size := by rw [hd]; exact Nat.mod_lt _ hsp
        have hd2 : (kn : Int) % (s.size : Int) = (d : Int) := by rw [hd]; simp
        have hd5 : d ≤ s.size := by omega
        have hd3 : ((s.size : Int) == 0) = false := beq_eq_false_iff_ne.2 (by omega)
        have hd4 : ¬ s = ByteArray.empty := fun h => by rw [h] at hd1; exact absurd hd1 (by simp)
        rw [← hwy]
        clear hwy hyb hy1 hd hc2 hcl hcf HS13 HO13
        refine wp_region_prs (w0 := wy) rfl [.eq (.slice (some ⟨bb, bo, none⟩) bl.length bc), .eq (.bool true), .eq (.bool false), .eq (.bool false), .eq (.string s), .eq (.int .i64 ↑kn), .eq (.string s), .eq (.int .i64 ↑s.size), .eq (.int .i64 ↑d), .of (pStr 2000), .of (pStr 2001), .eq (.string s), .eq (.int .i64 ↑kn), .eq (.string s), .eq (.int .i64 ↑s.size), .eq (.int .i64 ↑d), .of (pStr 2000), .of (pStr 4001), .eq (.bool true), .eq (.bool false), .eq (.bool false)] (by kernel_rfl) ⟨?_, ?_, ?_, ?_, ?_, ?_, ?_, ?_, ?_, ?_, ?_, ?_, ?_, ?_, ?_, ?_, ?_, ?_, ?_, ?_, ?_, ?_, ?_, ?_, ?_, trivial⟩ (fun vs => [(105, (.slice (some ⟨bb, bo, none⟩) bl.length bc)), (106, (.bool true)), (107, (.bool false)), (108, (.bool false)), (109, (.string s)), (110, (.int .i64 ↑kn)), (111, (.string s)), (112, (.int .i64 ↑s.size)), (113, (.int .i64 ↑d)), (114, vs 9), (115, vs 10), (116, (.string s)), (117, (.int .i64 ↑kn)), (118, (.string s)), (119, (.int .i64 ↑s.size)), (120, (.int .i64 ↑d)), (121, vs 16), (122, vs 17), (123, (.bool true)), (124, (.bool false)), (125, (.bool false))]) (fun _ => rfl) ?_
        · refine RStep.mk rfl rfl (fun S a wx K Q hR hK => ?_)
          have t5 : a.tmps[5]? = some (.slice (some ⟨bb, bo, none⟩) bl.length bc) := (hR.old 5 (by kernel_rfl)).trans (by kernel_rfl)
          go_simp
          exact hK _ _ (Below.refl _ _) rfl
        · refine RStep.mk rfl rfl (fun S a wx K Q hR hK => ?_)
          have t105 := hR.eq 0 (by kernel_rfl) rfl rfl
          go_simp
          go_at_call 5
          refine (predTakes_law _ _ (bl.set c (j % 9).toUInt8) _ 0 _ (HRY.out.below hR.bel (Nat.le_refl _)) (by omega) (by omega) ((HSY.out.2.below hR.bel).mono hR.bel.size)).mono ?_
          rintro e w' ⟨rfl, hbx⟩
          exact hK _ _ hbx rfl
        · refine RStep.mk rfl rfl (fun S a wx K Q hR hK => ?_)
          have t106 := hR.eq 1 (by kernel_rfl) rfl rfl
          go_simp
          exact hK _ _ (Below.refl _ _) rfl
        · refine RStep.mk rfl rfl (fun S a wx K Q hR hK => ?_)
          have t107 := hR.eq 2 (by kernel_rfl) rfl rfl
          go_simp
          exact hK _ _ (Below.refl _ _) rfl
        · refine RStep.mk rfl rfl (fun S a wx K Q hR hK => ?_)
          have t6 : a.tmps[6]? = some (.string s) := (hR.old 6 (by kernel_rfl)).trans (by kernel_rfl)
          go_simp
          exact hK _ _ (Below.refl _ _) rfl
        · refine RStep.mk rfl rfl (fun S a wx K Q hR hK => ?_)
          have t1 : a.tmps[1]? = some (.int .i64 ↑kn) := (hR.old 1 (by kernel_rfl)).trans (by kernel_rfl)
          go_simp
          exact hK _ _ (Below.refl _ _) rfl
        · refine RStep.mk rfl rfl (fun S a wx K Q hR hK => ?_)
          have t6 : a.tmps[6]? = some (.string s) := (hR.old 6 (by kernel_rfl)).trans (by kernel_rfl)
          go_simp
          exact hK _ _ (Below.refl _ _) rfl
        · refine RStep.mk rfl rfl (fun S a wx K Q hR hK => ?_)
          have t111 := hR.eq 6 (by kernel_rfl) rfl rfl
          go_simp
          exact hK _ _ (Below.refl _ _) rfl
        · refine RStep.mk rfl rfl (fun S a wx K Q hR hK => ?_)
          have t110 := hR.eq 5 (by kernel_rfl) rfl rfl
          have t112 := hR.eq 7 (by kernel_rfl) rfl rfl
          go_simp
          (try go_ints)
          rw [hd2]
          exact hK _ _ (Below.refl _ _) rfl
        · exact steadyStr _
        · refine RStep.mk rfl rfl (fun S a wx K Q hR hK => ?_)
          have t109 := hR.eq 4 (by kernel_rfl) rfl rfl
          have t113 := hR.eq 8 (by kernel_rfl) rfl rfl
          go_simp
          refine hK _ _ (Below.refl _ _) ⟨_, rfl, ?_⟩
          rw [ByteArray.size_extract]; omega
        · exact steadyStr _
        · refine RStep.mk rfl rfl (fun S a wx K Q hR hK => ?_)
          obtain ⟨u114, t114, f114⟩ := hR.of 9 (by kernel_rfl) rfl rfl
          obtain ⟨s114, rfl, hs114⟩ := f114
          have hq : ¬ 9223372036854775807 < s114.size + 1 := by omega
          go_simp
          refine hK _ _ (Below.refl _ _) ⟨_, rfl, ?_⟩
          rw [ByteArray.size_append]; have h1 : ByteArray.size ⟨#[48]⟩ = 1 := rfl; omega
        · refine RStep.mk rfl rfl (fun S a wx K Q hR hK => ?_)
          have t6 : a.tmps[6]? = some (.string s) := (hR.old 6 (by kernel_rfl)).trans (by kernel_rfl)
          go_simp
          exact hK _ _ (Below.refl _ _) rfl
        · refine RStep.mk rfl rfl (fun S a wx K Q hR hK => ?_)
          have t1 : a.tmps[1]? = some (.int .i64 ↑kn) := (hR.old 1 (by kernel_rfl)).trans (by kernel_rfl)
          go_simp
          exact hK _ _ (Below.refl _ _) rfl
        · refine RStep.mk rfl rfl (fun S a wx K Q hR hK => ?_)
          have t6 : a.tmps[6]? = some (.string s) := (hR.old 6 (by kernel_rfl)).trans (by kernel_rfl)
          go_simp
          exact hK _ _ (Below.refl _ _) rfl
        · refine RStep.mk rfl rfl (fun S a wx K Q hR hK => ?_)
          have t118 := hR.eq 13 (by kernel_rfl) rfl rfl
          go_simp
          exact hK _ _ (Below.refl _ _) rfl
        · refine RStep.mk rfl rfl (fun S a wx K Q hR hK => ?_)
          have t117 := hR.eq 12 (by kernel_rfl) rfl rfl
          have t119 := hR.eq 14 (by kernel_rfl) rfl rfl
          go_simp
          (try go_ints)
          rw [hd2]
          exact hK _ _ (Below.refl _ _) rfl
        · exact steadyStr _
        · refine RStep.mk rfl rfl (fun S a wx K Q hR hK => ?_)
          have t116 := hR.eq 11 (by kernel_rfl) rfl rfl
          have t120 := hR.eq 15 (by kernel_rfl) rfl rfl
          go_simp
          refine hK _ _ (Below.refl _ _) ⟨_, rfl, ?_⟩
          rw [ByteArray.size_extract]; omega
        · exact steadyStr _
        · refine RStep.mk rfl rfl (fun S a wx K Q hR hK => ?_)
          obtain ⟨u115, t115, f115⟩ := hR.of 10 (by kernel_rfl) rfl rfl
          obtain ⟨s115, rfl, hs115⟩ := f115
          obtain ⟨u121, t121, f121⟩ := hR.of 16 (by kernel_rfl) rfl rfl
          obtain ⟨s121, rfl, hs121⟩ := f121
          have hq : ¬ 9223372036854775807 < s115.size + s121.size := by omega
          go_simp
          refine hK _ _ (Below.refl _ _) ⟨_, rfl, ?_⟩
          rw [ByteArray.size_append]; have h1 : ByteArray.size ⟨#[48]⟩ = 1 := rfl; omega
        · refine RStep.mk rfl rfl (fun S a wx K Q hR hK => ?_)
          obtain ⟨u122, t122, f122⟩ := hR.of 17 (by kernel_rfl) rfl rfl
          obtain ⟨s122, rfl, hs122⟩ := f122
          go_simp
          go_at_call 3
          refine (predReads_law _ _ ((HSY.out.2.below hR.bel).mono hR.bel.size)).mono ?_
          rintro e w' ⟨rfl, hbx⟩
          exact hK _ _ hbx rfl
        · refine RStep.mk rfl rfl (fun S a wx K Q hR hK => ?_)
          have t123 := hR.eq 18 (by kernel_rfl) rfl rfl
          go_simp
          exact hK _ _ (Below.refl _ _) rfl
        · refine RStep.mk rfl rfl (fun S a wx K Q hR hK => ?_)
          have t108 := hR.eq 3 (by kernel_rfl) rfl rfl
          have t124 := hR.eq 19 (by kernel_rfl) rfl rfl
          go_simp
          exact hK _ _ (Below.refl _ _) rfl
        intro S12 vs wz hD
        have hbz := hD.bel
        simp only [putsL, List.foldl_cons, List.foldl_nil]
        have HSZ := Lib.hid (HSY.out.1.trans (hbz.mono HSY.out.1.size))
        clear hD hbz hd2 hd3 hd4
        generalize vs 9 = z9
        generalize vs 10 = z10
        generalize vs 16 = z16
        generalize vs 17 = z17
        go_simp
        (try (go_wp2_with fail))
        go_roundw
        case rel => exact ⟨(kn * 31 + 7 * j + 11) % 100003, j + 1, Nat.mod_lt _ (by omega), by omega, by go_num, by go_num, HSZ.out⟩
        case measure => simp [intOf]; omega
      · have d0 : decide ((0 : Int) < (bl.length : Int)) = false := decide_eq_false (by omega)
        go_wp2_with fail
        go_roundw
        case rel => exact ⟨(kn * 31 + 7 * j + 11) % 100003, j + 1, Nat.mod_lt _ (by omega), by omega, by go_num, by go_num, HS13.out.1⟩
        case measure => simp [intOf]; omega
    · have t0 : decide ((j : Int) < 300) = false := by simp; omega
      clear hk
      go_wp2_with fail
      clear t0 hlt hj
      obtain ⟨wT, hwT⟩ : ∃ wT, wT = wr.alloc (.cells txt 9) := ⟨_, rfl⟩
      have hT : wT.heap[wr.heap.size]? = some (.cells txt 9 (0, 0)) := by rw [hwT]; exact heap_alloc_new _ _
      have hbT : Below w.heap.size w wT := by rw [hwT]; exact HB.out.alloc HB.out.size _
      have HT := Lib.hid (And.intro hT hbT)
      have hzT : wr.heap.size < wT.heap.size := by rw [hwT]; simp
      simp only [txt] at hwT
      rw [← hwT]
      clear hwT hT hbT
      obtain ⟨g, hg⟩ : ∃ g, g = wr.heap.size := ⟨_, rfl⟩
      rw [← hg] at HT hzT ⊢
      clear hg HB wr
      go_loopw [8] (fun i wx => ∃ j : Nat, j ≤ 25 ∧ i = .int .i64 j ∧ Below wT.heap.size wT wx) (fun i _ => 25 - (intOf i).toNat)
      case atStart => exact ⟨0, by omega, rfl, Below.refl _ _⟩
      case round =>
        obtain ⟨j, hj, rfl, hbx⟩ := hrel
        by_cases hlt : j < 25
        · have t0 : decide ((j : Int) < 25) = true := by simp; omega
          obtain ⟨s, hs⟩ := txt_str j hlt
          have hc : wr.cell? ⟨g, j, none⟩ = some (.string s) := by rw [hbx.cell (p := ⟨g, j, none⟩) hzT, cell_of_row _ _ j _ _ _ HT.out.1]; exact hs
          have hb2 := HT.out.2.trans (hbx.mono HT.out.2.size)
          have HX := Lib.hid (And.intro hb2 (And.intro ((HL.out.below hb2).mono hb2.size) hbx))
          clear hs hb2 hbx
          go_wp2_with fail
          refine (predReads_law _ _ HX.out.2.1).mono ?_
          rintro e w2 ⟨rfl, hb2⟩
          go_wp2_with fail
          go_roundw
          case rel => exact ⟨j + 1, by omega, by go_num, HX.out.2.2.trans (hb2.mono HX.out.2.2.size)⟩
          case measure => simp [intOf]; omega
        · have t0 : decide ((j : Int) < 25) = false := by simp; omega
          have hb2 := HT.out.2.trans (hbx.mono HT.out.2.size)
          have HB := Lib.hid hb2
          clear hb2 hbx HT hzT
          go_wp2_with fail
          clear t0 hlt hj
          obtain ⟨wa, hwa⟩ : ∃ wa, wa = wr := ⟨_, rfl⟩
          rw [← hwa] at HB ⊢
          clear hwa wr
          obtain ⟨wT2, hwT⟩ : ∃ wT2, wT2 = wa.alloc (.cells #[.int .i64 7, .int .u64 0, .int .u64 0, .slice none 0 0] 26) := ⟨_, rfl⟩
          have hR : RelW w wa.heap.size (.int .i64 ((0 : Nat) : Int)) wT2 := by
            rw [hwT]
            exact ⟨0, .slice none 0 0, [], by omega, rfl, rfl, by simp [Ex.sizes], HB.out.alloc HB.out.size _, HB.out.size, heap_alloc_new _ _, Making.nil _ _ _⟩
          rw [← hwT]
          clear hwT HB
          obtain ⟨g2, hg⟩ : ∃ g2, g2 = wa.heap.size := ⟨_, rfl⟩
          rw [← hg] at hR ⊢
          clear hg wa
          have HR := Lib.hid hR
          clear hR
          go_loopw [10] (RelW w g2) (fun i _ => 34 - (intOf i).toNat)
          case atStart => exact HR.out
          case round =>
            clear HR
            obtain ⟨j, sv, es, hj, rfl, hel, hes, hbx, hwg, hh, ys, hown, hey⟩ := hrel
            rw [hel] at hown
            obtain ⟨sa, sc, rfl⟩ := owns_slice hown
            by_cases hlt : j < 34
            · have t0 : decide ((j : Int) < 34) = true := by simp; omega
              obtain ⟨wb, hwb⟩ : ∃ wb, wb = wr := ⟨_, rfl⟩
              rw [← hwb] at hbx hh hown hey ⊢
              clear hwb wr
              have c3 : wb.cell? ⟨g2, 3, none⟩ = some (.slice sa j sc) := by rw [cell_of_row wb _ 3 _ _ _ hh]; rfl
              have hlg : g2 < wb.heap.size := (Array.getElem?_eq_some_iff.1 hh).1
              have HH := Lib.hid (And.intro hel (And.intro hes (And.intro hbx (And.intro hwg (And.intro hh (And.intro hown (And.intro hey hown.lt)))))))
              clear hel hes hbx hh hown hey hwg
              obtain ⟨hi0, hz0, hz1, hz2⟩ := HI0.out
              go_wp2_with (at_builtin; go_loud (refine wpList_append_lies _ rfl (.tmp 152) (.tmp 154) 24 rfl (g2 + 1) 26 i0 _ 4 48 Tryz.underlying24 hi0 hz0 hz1 hz2 rfl (by omega) (.slice sa j sc) j ys rfl (HH.out.2.2.2.2.2.1.alloc _) ⟨wb.heap.size, 0, none⟩ 1 1 [.int .i64 1, .int .u64 0, .int .u64 0, .slice none 0 0] rfl rfl (World.news_of_block (cs := #[.int .i64 1, .int .u64 0, .int .u64 0, .slice none 0 0]) (t := 26) (fr := (0, 0)) (heap_alloc_at _ _ _ rfl)) (by simp [Value.oneCell']) (by omega) (by unfold maxLen; omega) (by omega) (by simp; omega) (wb.heap.size + 1) (by simp) ?_); intro gg gcap w3 hown2 hgrow hat hlt2; go_loud (have hh3 : w3.heap[g2]? = some (.cells #[.int .i64 7, .int .u64 0, .int .u64 0, .slice sa j sc] 26 (0, 0)) := wide_far HH.out.2.2.2.2.1 HH.out.2.2.2.2.2.2.2 hgrow); go_loud (have hm3 : Making w3 (g2 + 1) 26 (.slice (some ⟨gg, 0, none⟩) (j + 1) gcap) (es ++ [leaf]) := wide_push HH.out.1 HH.out.2.2.2.2.2.1 HH.out.2.2.2.2.2.2.1 hlg hgrow hown2 hat); go_loud (have hb3 : Below w.heap.size w w3 := wide_below HH.out.2.2.1 HH.out.2.2.2.1 hlg HH.out.2.2.2.2.2.2.2 hgrow); go_loud (have f3 : w3.frozen? ⟨g2, 3, none⟩ = false := by rw [frozen_of_row w3 _ 3 _ _ hh3]); go_loud (have c3' : w3.cell? ⟨g2, 3, none⟩ = some (.slice sa j sc) := by rw [cell_of_row w3 _ 3 _ _ _ hh3]; rfl); go_loud (have H3 := Lib.hid (And.intro hh3 (And.intro hm3 hb3))); clear hown2; clear hgrow; clear hat; clear hh3 hm3 hb3)
              obtain ⟨wc, hwc⟩ : ∃ wc, wc = w3.setCell ⟨g2, 3, none⟩ (.slice (some ⟨gg, 0, none⟩) (j + 1) gcap) := ⟨_, rfl⟩
              have hhc : wc.heap[g2]? = some (.cells #[.int .i64 7, .int .u64 0, .int .u64 0, .slice (some ⟨gg, 0, none⟩) (j + 1) gcap] 26 (0, 0)) := by rw [hwc]; exact heap_set_at H3.out.1 rfl
              have hmc : Making wc (g2 + 1) 26 (.slice (some ⟨gg, 0, none⟩) (j + 1) gcap) (es ++ [leaf]) := by rw [hwc]; exact H3.out.2.1.setCell _ (by simp) _
              have hbc : Below w.heap.size w wc := by rw [hwc]; exact H3.out.2.2.setCell HH.out.2.2.2.1 _
              have hel2 : (es ++ [leaf]).length = j + 1 := by rw [List.length_append, HH.out.1]; rfl
              have hes2 : Ex.sizes (es ++ [leaf]) ≤ j + 1 := by have := HH.out.2.1; rw [Ex.sizes_append]; simp only [leaf, Ex.sizes, Ex.size]; omega
              have hre := wide_rep hel2 hmc
              have hsz : (Ex.mk 7 0 0 (es ++ [leaf])).size ≤ 40 := by simp only [Ex.size]; omega
              have hwg := HH.out.2.2.2.1
              have HC := Lib.hid (And.intro hhc (And.intro hmc (And.intro hbc (And.intro hel2 (And.intro hes2 (And.intro hwg (And.intro hre hsz)))))))
              have HLC := Lib.hid ((HL.out.below hbc).mono hbc.size)
              have e0 : wc.cell? ⟨g2, 0, none⟩ = some (.int .i64 7) := by rw [cell_of_row wc _ 0 _ _ _ hhc]; rfl
              have e1 : wc.cell? ⟨g2, 1, none⟩ = some (.int .u64 0) := by rw [cell_of_row wc _ 1 _ _ _ hhc]; rfl
              have e2 : wc.cell? ⟨g2, 2, none⟩ = some (.int .u64 0) := by rw [cell_of_row wc _ 2 _ _ _ hhc]; rfl
              have e3 : wc.cell? ⟨g2, 3, none⟩ = some (.slice (some ⟨gg, 0, none⟩) (j + 1) gcap) := by rw [cell_of_row wc _ 3 _ _ _ hhc]; rfl
              have lg : g2 < wc.heap.size := (Array.getElem?_eq_some_iff.1 hhc).1
              rw [← hwc]
              clear hwc hhc hmc hbc hel2 hes2 hre hsz hwg H3 HH hlt2 hlg c3
              refine wp_region_prs (w0 := wc) rfl [.eq (.agg #[.int .i64 7, .int .u64 0, .int .u64 0, .slice (some ⟨gg, 0, none⟩) (j + 1) gcap]), .eq (.int .i64 ↑j), .of (pTreeOf 40), .eq (.bool true), .eq (.bool false), .eq (.bool false), .eq (.agg #[.int .i64 7, .int .u64 0, .int .u64 0, .slice (some ⟨gg, 0, none⟩) (j + 1) gcap]), .eq (.agg #[.int .i64 7, .int .u64 0, .int .u64 0, .slice (some ⟨gg, 0, none⟩) (j + 1) gcap]), .eq (.bool true), .eq (.bool false), .eq (.bool false)] (by kernel_rfl) ⟨?_, ?_, ?_, ?_, ?_, ?_, ?_, ?_, ?_, ?_, ?_, ?_, trivial⟩ (fun vs => [(157, (.agg #[.int .i64 7, .int .u64 0, .int .u64 0, .slice (some ⟨gg, 0, none⟩) (j + 1) gcap])), (158, (.int .i64 ↑j)), (159, vs 2), (160, (.bool true)), (161, (.bool false)), (162, (.bool false)), (163, (.agg #[.int .i64 7, .int .u64 0, .int .u64 0, .slice (some ⟨gg, 0, none⟩) (j + 1) gcap])), (164, (.agg #[.int .i64 7, .int .u64 0, .int .u64 0, .slice (some ⟨gg, 0, none⟩) (j + 1) gcap])), (165, (.bool true)), (166, (.bool false)), (167, (.bool false))]) (fun _ => rfl) ?_
              · refine RStep.mk rfl rfl (fun S a wx K Q hR hK => ?_)
                have t9 : a.tmps[9]? = some (.pointer (some ⟨g2, 0, none⟩)) := (hR.old 9 (by kernel_rfl)).trans (by kernel_rfl)
                have y0 := (hR.bel.cell lg).trans e0
                have y1 := (hR.bel.cell lg).trans e1
                have y2 := (hR.bel.cell lg).trans e2
                have y3 := (hR.bel.cell lg).trans e3
                go_simp
                exact hK _ _ (Below.refl _ _) rfl
              · refine RStep.mk rfl rfl (fun S a wx K Q hR hK => ?_)
                have t10 : a.tmps[10]? = some (.int .i64 ↑j) := (hR.old 10 (by kernel_rfl)).trans (by kernel_rfl)
                go_simp
                exact hK _ _ (Below.refl _ _) rfl
              · exact steadyTreeOf _
              · refine RStep.mk rfl rfl (fun S a wx K Q hR hK => ?_)
                have t158 := hR.eq 1 (by kernel_rfl) rfl rfl
                go_simp
                go_at_call 39
                refine (made_any 0 _ _ _ (by omega) (by omega) (by omega) (by omega)).mono ?_
                rintro r w' ⟨⟨e, v', rfl, hs, hv'⟩, hb1⟩
                exact hK _ _ hb1 ⟨e, hs, hv'.wider (fun b _ h => hR.new b h)⟩
              · refine RStep.mk rfl rfl (fun S a wx K Q hR hK => ?_)
                have t157 := hR.eq 0 (by kernel_rfl) rfl rfl
                obtain ⟨u159, t159, f159⟩ := hR.of 2 (by kernel_rfl) rfl rfl
                obtain ⟨t, hts, hre⟩ := f159; obtain ⟨q0, q1, q2, q3, q4, q5, rfl⟩ := hre.conc
                have hsz := HC.out.2.2.2.2.2.2.2
                go_simp
                go_at_call 4
                refine (predTells_law (fun _ => True) _ t _ _ 1 2 _ (HC.out.2.2.2.2.2.2.1.below hR.bel (Nat.le_refl _)) ((hre.wider (fun _ _ _ => trivial)).unown) (by omega) (by omega) ((HLC.out.below hR.bel).mono hR.bel.size)).mono ?_
                rintro e w' ⟨rfl, hbx⟩
                exact hK _ _ hbx rfl
              · refine RStep.mk rfl rfl (fun S a wx K Q hR hK => ?_)
                have t160 := hR.eq 3 (by kernel_rfl) rfl rfl
                go_simp
                exact hK _ _ (Below.refl _ _) rfl
              · refine RStep.mk rfl rfl (fun S a wx K Q hR hK => ?_)
                have t161 := hR.eq 4 (by kernel_rfl) rfl rfl
                go_simp
                exact hK _ _ (Below.refl _ _) rfl
              · refine RStep.mk rfl rfl (fun S a wx K Q hR hK => ?_)
                have t9 : a.tmps[9]? = some (.pointer (some ⟨g2, 0, none⟩)) := (hR.old 9 (by kernel_rfl)).trans (by kernel_rfl)
                have y0 := (hR.bel.cell lg).trans e0
                have y1 := (hR.bel.cell lg).trans e1
                have y2 := (hR.bel.cell lg).trans e2
                have y3 := (hR.bel.cell lg).trans e3
                go_simp
                exact hK _ _ (Below.refl _ _) rfl
              · refine RStep.mk rfl rfl (fun S a wx K Q hR hK => ?_)
                have t9 : a.tmps[9]? = some (.pointer (some ⟨g2, 0, none⟩)) := (hR.old 9 (by kernel_rfl)).trans (by kernel_rfl)
                have y0 := (hR.bel.cell lg).trans e0
                have y1 := (hR.bel.cell lg).trans e1
                have y2 := (hR.bel.cell lg).trans e2
                have y3 := (hR.bel.cell lg).trans e3
                go_simp
                exact hK _ _ (Below.refl _ _) rfl
              · refine RStep.mk rfl rfl (fun S a wx K Q hR hK => ?_)
                have t163 := hR.eq 6 (by kernel_rfl) rfl rfl
                have t164 := hR.eq 7 (by kernel_rfl) rfl rfl
                go_simp
                go_at_call 6
                refine (predBack_law (fun _ => True) true _ _ _ _ _ [] 1 2 _ (HC.out.2.2.2.2.2.2.1.below hR.bel (Nat.le_refl _)) (HC.out.2.2.2.2.2.2.1.below hR.bel (Nat.le_refl _)) (Sl.nil _ _ _ _) (by omega) (by omega) ((HLC.out.below hR.bel).mono hR.bel.size)).mono ?_
                rintro e w' ⟨rfl, hbx⟩
                exact hK _ _ hbx rfl
              · refine RStep.mk rfl rfl (fun S a wx K Q hR hK => ?_)
                have t165 := hR.eq 8 (by kernel_rfl) rfl rfl
                go_simp
                exact hK _ _ (Below.refl _ _) rfl
              · refine RStep.mk rfl rfl (fun S a wx K Q hR hK => ?_)
                have t162 := hR.eq 5 (by kernel_rfl) rfl rfl
                have t166 := hR.eq 9 (by kernel_rfl) rfl rfl
                go_simp
                exact hK _ _ (Below.refl _ _) rfl
              intro S26 vs wz hD
              have hbz := hD.bel
              simp only [putsL, List.foldl_cons, List.foldl_nil]
              have hR : RelW w g2 (.int .i64 ((j + 1 : Nat) : Int)) wz := by
                obtain ⟨hhc, hmc, hbc, hel2, hes2, hwg, _, _⟩ := HC.out
                exact ⟨j + 1, _, _, by omega, rfl, hel2, hes2, hbc.trans (hbz.mono hbc.size), hwg, (hbz.block _ lg).trans hhc, hmc.below hbz (Nat.le_refl _)⟩
              have HR := Lib.hid hR
              clear hD hbz hR
              generalize vs 2 = z2
              go_simp
              (try (go_wp2_with fail))
              go_roundw
              case rel => exact cast_rel HR.out
              case measure => simp [intOf]; omega
            · have t0 : decide ((j : Int) < 34) = false := by simp; omega
              have HB := Lib.hid hbx
              clear hbx hh hown hey hel hes hwg
              go_wp2_with fail
              clear t0 hlt hj
              obtain ⟨wa, hwa⟩ : ∃ wa, wa = wr := ⟨_, rfl⟩
              rw [← hwa] at HB ⊢
              clear hwa wr
              obtain ⟨wT, hwT⟩ : ∃ wT, wT = wa.alloc (.cells #[.int .i64 1, .int .u64 0, .int .u64 0, .slice none 0 0] 26) := ⟨_, rfl⟩
              have hR : RelD w wa.heap.size (.int .i64 ((0 : Nat) : Int)) wT := by
                rw [hwT]
                exact ⟨0, leaf, 1, 0, 0, none, 0, 0, by omega, rfl, by simp [leaf, Ex.size, Ex.sizes], HB.out.alloc HB.out.size _, HB.out.size, heap_alloc_new _ _, leaf_rep _ _⟩
              rw [← hwT]
              clear hwT HB
              obtain ⟨g3, hg⟩ : ∃ g3, g3 = wa.heap.size := ⟨_, rfl⟩
              rw [← hg] at hR ⊢
              clear hg wa
              have HR := Lib.hid hR
              clear hR
              go_loopw [12] (RelD w g3) (fun i _ => 10 - (intOf i).toNat)
              case atStart => exact HR.out
              case round =>
                clear HR
                obtain ⟨j, e, k, a, b, ad, n, cap, hj, rfl, hes, hbx, hwg, hh, hre⟩ := hrel
                by_cases hlt : j < 10
                · have t0 : decide ((j : Int) < 10) = true := by simp; omega
                  obtain ⟨wb, hwb⟩ : ∃ wb, wb = wr := ⟨_, rfl⟩
                  rw [← hwb] at hbx hh hre ⊢
                  clear hwb wr
                  have c0 : wb.cell? ⟨g3, 0, none⟩ = some (.int .i64 k) := by rw [cell_of_row wb _ 0 _ _ _ hh]; rfl
                  have c1 : wb.cell? ⟨g3, 1, none⟩ = some (.int .u64 (a : Nat)) := by rw [cell_of_row wb _ 1 _ _ _ hh]; rfl
                  have c2 : wb.cell? ⟨g3, 2, none⟩ = some (.int .u64 (b : Nat)) := by rw [cell_of_row wb _ 2 _ _ _ hh]; rfl
                  have c3 : wb.cell? ⟨g3, 3, none⟩ = some (.slice ad n cap) := by rw [cell_of_row wb _ 3 _ _ _ hh]; rfl
                  have hlg : g3 < wb.heap.size := (Array.getElem?_eq_some_iff.1 hh).1
                  have HH := Lib.hid (And.intro hbx (And.intro hwg (And.intro hh hre)))
                  clear hbx hh hre hwg
                  go_wp2_with (refine wpList_store_row rfl 26 (.tmp 11) (.tmp 175) rfl rfl g3 rfl _ rfl 26 _ ((heap_alloc_lt _ _ _ hlg).trans HH.out.2.2.1) (by kernel_rfl) rfl (by simp [Value.oneCell']) ?_; go_loud (have D := deep_step HH.out.1 HH.out.2.1 HH.out.2.2.1 HH.out.2.2.2); go_loud (obtain ⟨wc, hwc⟩ : ∃ wc, wc = (wb.alloc (.cells #[.int .i64 k, .int .u64 (a : Nat), .int .u64 (b : Nat), .slice ad n cap] 26)).setRow g3 #[.int .i64 5, .int .u64 0, .int .u64 0, .slice (some ⟨wb.heap.size, 0, none⟩) 1 1] := ⟨_, rfl⟩); go_loud (rw [← hwc] at D ⊢); clear hwc; clear c0 c1 c2 c3; go_loud (obtain ⟨hbc, hhc, hrc⟩ := D; have e0 : wc.cell? ⟨g3, 0, none⟩ = some (.int .i64 5) := (by rw [cell_of_row wc _ 0 _ _ _ hhc]; rfl); have e1 : wc.cell? ⟨g3, 1, none⟩ = some (.int .u64 0) := (by rw [cell_of_row wc _ 1 _ _ _ hhc]; rfl); have e2 : wc.cell? ⟨g3, 2, none⟩ = some (.int .u64 0) := (by rw [cell_of_row wc _ 2 _ _ _ hhc]; rfl); have e3 : wc.cell? ⟨g3, 3, none⟩ = some (.slice (some ⟨wb.heap.size, 0, none⟩) 1 1) := (by rw [cell_of_row wc _ 3 _ _ _ hhc]; rfl); have HC := Lib.hid (And.intro hbc (And.intro hhc hrc)); clear hbc; clear hhc; clear hrc))
                  refine (predTells_law _ _ _ _ _ 1 2 _ HC.out.2.2 HC.out.2.2 (by omega) (by omega) ((HL.out.below HC.out.1).mono HC.out.1.size)).mono ?_
                  rintro e wd ⟨rfl, hbd⟩
                  have hhd : wd.heap[g3]? = _ := (hbd.block _ (Array.getElem?_eq_some_iff.1 HC.out.2.1).1).trans HC.out.2.1
                  have hbd2 := HC.out.1.trans (hbd.mono HC.out.1.size)
                  have HD := Lib.hid (And.intro hbd2 (And.intro hhd (HC.out.2.2.below hbd (Nat.le_refl _))))
                  clear e0 e1 e2 e3
                  have e0 : wd.cell? ⟨g3, 0, none⟩ = some (.int .i64 5) := by rw [cell_of_row wd _ 0 _ _ _ hhd]; rfl
                  have e1 : wd.cell? ⟨g3, 1, none⟩ = some (.int .u64 0) := by rw [cell_of_row wd _ 1 _ _ _ hhd]; rfl
                  have e2 : wd.cell? ⟨g3, 2, none⟩ = some (.int .u64 0) := by rw [cell_of_row wd _ 2 _ _ _ hhd]; rfl
                  have e3 : wd.cell? ⟨g3, 3, none⟩ = some (.slice (some ⟨wb.heap.size, 0, none⟩) 1 1) := by rw [cell_of_row wd _ 3 _ _ _ hhd]; rfl
                  clear hbd hhd hbd2 HC
                  go_wp2_with fail
                  refine (predBack_law _ true _ _ _ _ _ [] 1 2 _ HD.out.2.2 HD.out.2.2 (Sl.nil _ _ _ _) (by omega) (by omega) ((HL.out.below HD.out.1).mono HD.out.1.size)).mono ?_
                  rintro e we ⟨rfl, hbe⟩
                  have hR : RelD w g3 (.int .i64 ((j + 1 : Nat) : Int)) we := by
                    obtain ⟨h1, h2, h3⟩ := HD.out
                    exact ⟨j + 1, _, 5, 0, 0, _, _, _, by omega, rfl, by simp only [Ex.size, Ex.sizes]; omega, h1.trans (hbe.mono h1.size), HH.out.2.1, (hbe.block _ (Array.getElem?_eq_some_iff.1 h2).1).trans h2, h3.below hbe (Nat.le_refl _)⟩
                  have HR := Lib.hid hR
                  clear hR hbe e0 e1 e2 e3
                  go_wp2_with fail
                  go_roundw
                  case rel => exact cast_relD HR.out
                  case measure => simp [intOf]; omega
                · have t0 : decide ((j : Int) < 10) = false := by simp; omega
                  have HB := Lib.hid hbx
                  clear hbx hh hre hwg
                  go_wp2_with fail
                  clear t0 hlt hj hes
                  obtain ⟨wa, hwa⟩ : ∃ wa, wa = wr := ⟨_, rfl⟩
                  rw [← hwa] at HB ⊢
                  clear hwa wr
                  obtain ⟨hO1, hO2, hO3⟩ := odd_rep wa
                  obtain ⟨wO, hwO⟩ : ∃ wO, wO = oddW wa := ⟨_, rfl⟩
                  rw [← hwO] at hO1 hO2 hO3
                  simp only [oddW, oddCells] at hwO
                  rw [← hwO]
                  clear hwO
                  have hbO := HB.out.trans (hO3.mono HB.out.size)
                  obtain ⟨go, hgo⟩ : ∃ go, go = wa.heap.size + 1 + 1 + 1 := ⟨_, rfl⟩
                  rw [← hgo] at hO2 ⊢
                  have HO := Lib.hid (And.intro hO1 (And.intro hO2 hbO))
                  have hlo : go < wO.heap.size := (Array.getElem?_eq_some_iff.1 hO2).1
                  obtain ⟨cs, hcs⟩ : ∃ cs, cs = oddCells wa.heap.size := ⟨_, rfl⟩
                  have hcz : cs.size = 11 * 4 := by rw [hcs]; rfl
                  have HCZ := Lib.hid hcz
                  rw [← hcs] at HO
                  clear hgo hO1 hO2 hO3 hbO HB hcs hcz
                  go_loopw [14] (fun i wx => ∃ j : Nat, j ≤ 11 ∧ i = .int .i64 j ∧ Below wO.heap.size wO wx) (fun i _ => 11 - (intOf i).toNat)
                  case atStart => exact ⟨0, by omega, rfl, Below.refl _ _⟩
                  case round =>
                    obtain ⟨j, hj, rfl, hbx⟩ := hrel
                    have hb2 := HO.out.2.2.trans (hbx.mono HO.out.2.2.size)
                    have hl2 : go < wr.heap.size := by have := hbx.size; omega
                    by_cases hlt : j < 11
                    · have t0 : decide ((j : Int) < 11) = true := by simp; omega
                      have hh : wr.heap[go]? = some (.cells cs 26 (0, 0)) := (hbx.block _ hlo).trans HO.out.2.1
                      have hes := HO.out.1.below hbx (Nat.le_refl _)
                      have hsl : Sl wr (fun b => b = go) true 4 odd.length cs.toList (.slice (some ⟨go, 0, none⟩) 11 11) := sl_block 11 4 hh HCZ.out (by omega)
                      obtain ⟨k, hk⟩ : ∃ k : Nat, k = (j + 1) % 11 := ⟨_, rfl⟩
                      have hk1 : k < 11 := by omega
                      have hk2 : ((j : Int) + 1) % 11 = (k : Int) := by omega
                      obtain ⟨k0, a0, b0, ad0, n0, cap0, p0, p1, p2, p3, hrp⟩ := odd_part hsl hes j hlt
                      obtain ⟨k1, a1, b1, ad1, n1, cap1, q0, q1, q2, q3, hrq⟩ := odd_part hsl hes k hk1
                      have HX := Lib.hid (And.intro hb2 (And.intro ((HL.out.below hb2).mono hb2.size) (And.intro hbx (And.intro hrp hrq))))
                      have hjI : (j : Int) < 11 := by omega
                      have hkI : (k : Int) < 11 := by omega
                      clear hb2 hbx hh hes hsl hrp hrq hk
                      go_wp2_with fail
                      refine wp_region_prs (w0 := wr) rfl [.eq (.slice (some ⟨go, 0, none⟩) 11 11), .eq (.int .i64 ↑j), .eq (.pointer (some ⟨go, j * 4, none⟩)), .eq (.agg #[.int .i64 k0, .int .u64 ↑a0, .int .u64 ↑b0, .slice ad0 n0 cap0]), .eq (.slice (some ⟨go, 0, none⟩) 11 11), .eq (.int .i64 ↑j), .eq (.int .i64 (↑j + 1)), .eq (.slice (some ⟨go, 0, none⟩) 11 11), .eq (.int .i64 11), .eq (.int .i64 ↑k), .eq (.pointer (some ⟨go, k * 4, none⟩)), .eq (.agg #[.int .i64 k1, .int .u64 ↑a1, .int .u64 ↑b1, .slice ad1 n1 cap1]), .eq (.bool true), .eq (.bool false), .eq (.bool false), .eq (.slice (some ⟨go, 0, none⟩) 11 11), .eq (.int .i64 ↑j), .eq (.pointer (some ⟨go, j * 4, none⟩)), .eq (.agg #[.int .i64 k0, .int .u64 ↑a0, .int .u64 ↑b0, .slice ad0 n0 cap0]), .eq (.slice (some ⟨go, 0, none⟩) 11 11), .eq (.int .i64 ↑j), .eq (.pointer (some ⟨go, j * 4, none⟩)), .eq (.agg #[.int .i64 k0, .int .u64 ↑a0, .int .u64 ↑b0, .slice ad0 n0 cap0]), .eq (.bool true), .eq (.bool false), .eq (.bool false)] (by kernel_rfl) ⟨?_, ?_, ?_, ?_, ?_, ?_, ?_, ?_, ?_, ?_, ?_, ?_, ?_, ?_, ?_, ?_, ?_, ?_, ?_, ?_, ?_, ?_, ?_, ?_, ?_, ?_, trivial⟩ (fun vs => [(211, (.slice (some ⟨go, 0, none⟩) 11 11)), (212, (.int .i64 ↑j)), (213, (.pointer (some ⟨go, j * 4, none⟩))), (214, (.agg #[.int .i64 k0, .int .u64 ↑a0, .int .u64 ↑b0, .slice ad0 n0 cap0])), (215, (.slice (some ⟨go, 0, none⟩) 11 11)), (216, (.int .i64 ↑j)), (217, (.int .i64 (↑j + 1))), (218, (.slice (some ⟨go, 0, none⟩) 11 11)), (219, (.int .i64 11)), (220, (.int .i64 ↑k)), (221, (.pointer (some ⟨go, k * 4, none⟩))), (222, (.agg #[.int .i64 k1, .int .u64 ↑a1, .int .u64 ↑b1, .slice ad1 n1 cap1])), (223, (.bool true)), (224, (.bool false)), (225, (.bool false)), (226, (.slice (some ⟨go, 0, none⟩) 11 11)), (227, (.int .i64 ↑j)), (228, (.pointer (some ⟨go, j * 4, none⟩))), (229, (.agg #[.int .i64 k0, .int .u64 ↑a0, .int .u64 ↑b0, .slice ad0 n0 cap0])), (230, (.slice (some ⟨go, 0, none⟩) 11 11)), (231, (.int .i64 ↑j)), (232, (.pointer (some ⟨go, j * 4, none⟩))), (233, (.agg #[.int .i64 k0, .int .u64 ↑a0, .int .u64 ↑b0, .slice ad0 n0 cap0])), (234, (.bool true)), (235, (.bool false)), (236, (.bool false))]) (fun _ => rfl) ?_
                      · refine RStep.mk rfl rfl (fun S a wx K Q hR hK => ?_)
                        have t13 : a.tmps[13]? = some (.slice (some ⟨go, 0, none⟩) 11 11) := (hR.old 13 (by kernel_rfl)).trans (by kernel_rfl)
                        go_simp
                        exact hK _ _ (Below.refl _ _) rfl
                      · refine RStep.mk rfl rfl (fun S a wx K Q hR hK => ?_)
                        have t14 : a.tmps[14]? = some (.int .i64 ↑j) := (hR.old 14 (by kernel_rfl)).trans (by kernel_rfl)
                        go_simp
                        exact hK _ _ (Below.refl _ _) rfl
                      · refine RStep.mk rfl rfl (fun S a wx K Q hR hK => ?_)
                        have t211 := hR.eq 0 (by kernel_rfl) rfl rfl
                        have t212 := hR.eq 1 (by kernel_rfl) rfl rfl
                        go_simp
                        exact hK _ _ (Below.refl _ _) rfl
                      · refine RStep.mk rfl rfl (fun S a wx K Q hR hK => ?_)
                        have t213 := hR.eq 2 (by kernel_rfl) rfl rfl
                        have y0 := (hR.bel.cell hl2).trans p0
                        have y1 := (hR.bel.cell hl2).trans p1
                        have y2 := (hR.bel.cell hl2).trans p2
                        have y3 := (hR.bel.cell hl2).trans p3
                        go_simp
                        exact hK _ _ (Below.refl _ _) rfl
                      · refine RStep.mk rfl rfl (fun S a wx K Q hR hK => ?_)
                        have t13 : a.tmps[13]? = some (.slice (some ⟨go, 0, none⟩) 11 11) := (hR.old 13 (by kernel_rfl)).trans (by kernel_rfl)
                        go_simp
                        exact hK _ _ (Below.refl _ _) rfl
                      · refine RStep.mk rfl rfl (fun S a wx K Q hR hK => ?_)
                        have t14 : a.tmps[14]? = some (.int .i64 ↑j) := (hR.old 14 (by kernel_rfl)).trans (by kernel_rfl)
                        go_simp
                        exact hK _ _ (Below.refl _ _) rfl
                      · refine RStep.mk rfl rfl (fun S a wx K Q hR hK => ?_)
                        have t216 := hR.eq 5 (by kernel_rfl) rfl rfl
                        go_simp
                        (try go_ints)
                        exact hK _ _ (Below.refl _ _) rfl
                      · refine RStep.mk rfl rfl (fun S a wx K Q hR hK => ?_)
                        have t13 : a.tmps[13]? = some (.slice (some ⟨go, 0, none⟩) 11 11) := (hR.old 13 (by kernel_rfl)).trans (by kernel_rfl)
                        go_simp
                        exact hK _ _ (Below.refl _ _) rfl
                      · refine RStep.mk rfl rfl (fun S a wx K Q hR hK => ?_)
                        have t218 := hR.eq 7 (by kernel_rfl) rfl rfl
                        go_simp
                        exact hK _ _ (Below.refl _ _) rfl
                      · refine RStep.mk rfl rfl (fun S a wx K Q hR hK => ?_)
                        have t217 := hR.eq 6 (by kernel_rfl) rfl rfl
                        have t219 := hR.eq 8 (by kernel_rfl) rfl rfl
                        go_simp
                        (try go_ints)
                        rw [hk2]
                        exact hK _ _ (Below.refl _ _) rfl
                      · refine RStep.mk rfl rfl (fun S a wx K Q hR hK => ?_)
                        have t215 := hR.eq 4 (by kernel_rfl) rfl rfl
                        have t220 := hR.eq 9 (by kernel_rfl) rfl rfl
                        go_simp
                        exact hK _ _ (Below.refl _ _) rfl
                      · refine RStep.mk rfl rfl (fun S a wx K Q hR hK => ?_)
                        have t221 := hR.eq 10 (by kernel_rfl) rfl rfl
                        have y0 := (hR.bel.cell hl2).trans q0
                        have y1 := (hR.bel.cell hl2).trans q1
                        have y2 := (hR.bel.cell hl2).trans q2
                        have y3 := (hR.bel.cell hl2).trans q3
                        go_simp
                        exact hK _ _ (Below.refl _ _) rfl
                      · refine RStep.mk rfl rfl (fun S a wx K Q hR hK => ?_)
                        have t214 := hR.eq 3 (by kernel_rfl) rfl rfl
                        have t222 := hR.eq 11 (by kernel_rfl) rfl rfl
                        go_simp
                        go_at_call 4
                        refine (predTells_law _ _ _ _ _ 0 0 _ (HX.out.2.2.2.1.below hR.bel (Nat.le_refl _)) (HX.out.2.2.2.2.below hR.bel (Nat.le_refl _)) (by omega) (by omega) ((HX.out.2.1.below hR.bel).mono hR.bel.size)).mono ?_
                        rintro e w' ⟨rfl, hbx⟩
                        exact hK _ _ hbx rfl
                      · refine RStep.mk rfl rfl (fun S a wx K Q hR hK => ?_)
                        have t223 := hR.eq 12 (by kernel_rfl) rfl rfl
                        go_simp
                        exact hK _ _ (Below.refl _ _) rfl
                      · refine RStep.mk rfl rfl (fun S a wx K Q hR hK => ?_)
                        have t224 := hR.eq 13 (by kernel_rfl) rfl rfl
                        go_simp
                        exact hK _ _ (Below.refl _ _) rfl
                      · refine RStep.mk rfl rfl (fun S a wx K Q hR hK => ?_)
                        have t13 : a.tmps[13]? = some (.slice (some ⟨go, 0, none⟩) 11 11) := (hR.old 13 (by kernel_rfl)).trans (by kernel_rfl)
                        go_simp
                        exact hK _ _ (Below.refl _ _) rfl
                      · refine RStep.mk rfl rfl (fun S a wx K Q hR hK => ?_)
                        have t14 : a.tmps[14]? = some (.int .i64 ↑j) := (hR.old 14 (by kernel_rfl)).trans (by kernel_rfl)
                        go_simp
                        exact hK _ _ (Below.refl _ _) rfl
                      · refine RStep.mk rfl rfl (fun S a wx K Q hR hK => ?_)
                        have t226 := hR.eq 15 (by kernel_rfl) rfl rfl
                        have t227 := hR.eq 16 (by kernel_rfl) rfl rfl
                        go_simp
                        exact hK _ _ (Below.refl _ _) rfl
                      · refine RStep.mk rfl rfl (fun S a wx K Q hR hK => ?_)
                        have t228 := hR.eq 17 (by kernel_rfl) rfl rfl
                        have y0 := (hR.bel.cell hl2).trans p0
                        have y1 := (hR.bel.cell hl2).trans p1
                        have y2 := (hR.bel.cell hl2).trans p2
                        have y3 := (hR.bel.cell hl2).trans p3
                        go_simp
                        exact hK _ _ (Below.refl _ _) rfl
                      · refine RStep.mk rfl rfl (fun S a wx K Q hR hK => ?_)
                        have t13 : a.tmps[13]? = some (.slice (some ⟨go, 0, none⟩) 11 11) := (hR.old 13 (by kernel_rfl)).trans (by kernel_rfl)
                        go_simp
                        exact hK _ _ (Below.refl _ _) rfl
                      · refine RStep.mk rfl rfl (fun S a wx K Q hR hK => ?_)
                        have t14 : a.tmps[14]? = some (.int .i64 ↑j) := (hR.old 14 (by kernel_rfl)).trans (by kernel_rfl)
                        go_simp
                        exact hK _ _ (Below.refl _ _) rfl
                      · refine RStep.mk rfl rfl (fun S a wx K Q hR hK => ?_)
                        have t230 := hR.eq 19 (by kernel_rfl) rfl rfl
                        have t231 := hR.eq 20 (by kernel_rfl) rfl rfl
                        go_simp
                        exact hK _ _ (Below.refl _ _) rfl
                      · refine RStep.mk rfl rfl (fun S a wx K Q hR hK => ?_)
                        have t232 := hR.eq 21 (by kernel_rfl) rfl rfl
                        have y0 := (hR.bel.cell hl2).trans p0
                        have y1 := (hR.bel.cell hl2).trans p1
                        have y2 := (hR.bel.cell hl2).trans p2
                        have y3 := (hR.bel.cell hl2).trans p3
                        go_simp
                        exact hK _ _ (Below.refl _ _) rfl
                      · refine RStep.mk rfl rfl (fun S a wx K Q hR hK => ?_)
                        have t229 := hR.eq 18 (by kernel_rfl) rfl rfl
                        have t233 := hR.eq 22 (by kernel_rfl) rfl rfl
                        go_simp
                        go_at_call 6
                        refine (predBack_law _ true _ _ _ _ _ [] 0 0 _ (HX.out.2.2.2.1.below hR.bel (Nat.le_refl _)) (HX.out.2.2.2.1.below hR.bel (Nat.le_refl _)) (Sl.nil _ _ _ _) (by omega) (by omega) ((HX.out.2.1.below hR.bel).mono hR.bel.size)).mono ?_
                        rintro e w' ⟨rfl, hbx⟩
                        exact hK _ _ hbx rfl
                      · refine RStep.mk rfl rfl (fun S a wx K Q hR hK => ?_)
                        have t234 := hR.eq 23 (by kernel_rfl) rfl rfl
                        go_simp
                        exact hK _ _ (Below.refl _ _) rfl
                      · refine RStep.mk rfl rfl (fun S a wx K Q hR hK => ?_)
                        have t225 := hR.eq 14 (by kernel_rfl) rfl rfl
                        have t235 := hR.eq 24 (by kernel_rfl) rfl rfl
                        go_simp
                        exact hK _ _ (Below.refl _ _) rfl
                      intro S39 vs wz hD
                      have hbz := hD.bel
                      simp only [putsL, List.foldl_cons, List.foldl_nil]
                      have HR := Lib.hid (HX.out.2.2.1.trans (hbz.mono HX.out.2.2.1.size))
                      clear hD hbz hk2 p0 p1 p2 p3 q0 q1 q2 q3
                      go_simp
                      (try (go_wp2_with fail))
                      go_roundw
                      case rel => exact ⟨j + 1, by omega, by go_num, HR.out⟩
                      case measure => simp [intOf]; omega
                    · have t0 : decide ((j : Int) < 11) = false := by simp; omega
                      have HB := Lib.hid hb2
                      clear hb2 hbx
                      go_wp2_with fail
                      refine (predTakes_law (fun _ => True) true [6, 255, 255, 255, 255, 255, 255, 255, 255, 255, 1, 1] _ 0 _ (lit_rep _ _ (by decide)) (by omega) (by omega) (lv_alloc HL.out HB.out _)).mono ?_
                      rintro e w1 ⟨rfl, hb1⟩
                      have HB1 := Lib.hid ((HB.out.alloc HB.out.size _).trans (hb1.mono (by have := HB.out.size; simp; omega)))
                      clear hb1 HB
                      go_wp2_with fail
                      refine (predTakes_law (fun _ => True) true [6, 32] _ 0 _ (lit_rep _ _ (by decide)) (by omega) (by omega) (lv_alloc HL.out HB1.out _)).mono ?_
                      rintro e w2 ⟨rfl, hb2⟩
                      have HB2 := Lib.hid ((HB1.out.alloc HB1.out.size _).trans (hb2.mono (by have := HB1.out.size; simp; omega)))
                      clear hb2 HB1
                      go_wp2_with fail
                      refine (predTakes_law (fun _ => True) true [] _ (-1) _ (Sl.nil _ _ _ _) (by omega) (by omega) ((HL.out.below HB2.out).mono HB2.out.size)).mono ?_
                      rintro e w3 ⟨rfl, hb3⟩
                      have HB3 := Lib.hid (HB2.out.trans (hb3.mono HB2.out.size))
                      clear hb3 HB2
                      go_wp2_with fail
                      refine (predTakes_law (fun _ => True) true [1] _ 1 _ (lit_rep _ _ (by decide)) (by omega) (by omega) (lv_alloc HL.out HB3.out _)).mono ?_
                      rintro e w4 ⟨rfl, hb4⟩
                      have HB4 := Lib.hid ((HB3.out.alloc HB3.out.size _).trans (hb4.mono (by have := HB3.out.size; simp; omega)))
                      clear hb4 HB3
                      go_wp2_with fail
                      refine (works_any _ ((HL.out.below HB4.out).mono HB4.out.size)).mono ?_
                      rintro e w5 ⟨rfl, hb5⟩
                      have HB5 := Lib.hid (HB4.out.trans (hb5.mono HB4.out.size))
                      clear hb5 HB4
                      go_wp2_with fail
                      go_ret
                      exact ⟨rfl, HB5.out⟩
end Go.Proofs.YtohjkejdkhdjbaaGreatDoor
