/- Walks: slices.Index over texts; strings.Split at " ; ". Ahead of it: Walks: the reference's edges of a cycle's words. -/
import Derived.Test.YtagnalfkmdjajaaGreatDoorVEx60
import Derived.Test.YtagnalfkmdjajaaGreatDoorV21
import Derived.Test.YtagnalfkmdjajaaGreatDoorV16
namespace Go.Proofs.YtagnalfkmdjajaaGreatDoor
open Go.RowKit Go
set_option linter.unusedVariables false
set_option linter.unusedSimpArgs false
def wsum (l : List (List UInt8)) : Nat := (l.map fun x => x.length + 1).sum
theorem edRes_get (s : List UInt8) : ∃ (e1 : Ed) (c : Int), (Ending.returned (edRes (edRead s)) = .returned (.tuple #[.agg #[.int .i64 e1.a, .int .i64 e1.b, .int .i64 e1.k, .int .u64 (e1.x : Nat), .int .u64 (e1.sw : Nat), .int .u64 (e1.sn : Nat), .int .u64 (e1.mw : Nat), .int .u64 (e1.mn : Nat), .int .i64 e1.p], .int .i64 c])) ∧ edGet s = e1 := by
  unfold edGet
  cases h : edRead s with
  | none => exact ⟨Ed.zero, 230, rfl, rfl⟩
  | some e => exact ⟨e, 0, rfl, rfl⟩
theorem sl_litH (w : World) (cs : Array Value) (T : TypeId) (sz g : Nat) (hs : cs.size = sz) (h0 : 0 < sz) (hg : g = w.heap.size) : Sl (w.alloc (.cells cs T)) (fun _ => True) true sz 1 cs.toList (.slice (some ⟨g, 0, none⟩) 1 1) := by
  subst hg; exact sl_lit1 w cs T sz hs h0
/-- The walk of words under way. -/
structure WK (l : List (List UInt8)) (w wr : World) (T : TypeId) (ov : Value) (os : List Ed) (s : List UInt8) (j : Nat) : Prop where
  own : wr.ownsRow w.heap.size T 9 ov os.length (edVs os)
  bel : Below w.heap.size w wr
  cnt : os.length ≤ j
  more : j ≤ l.length → (grp l []).map edGet = os ++ (grp (l.drop j) s).map edGet ∧ s.length + wsum (l.drop j) ≤ 400
  done : j = l.length + 1 → os = (grp l []).map edGet
end Go.Proofs.YtagnalfkmdjajaaGreatDoor
namespace Go.Proofs.YtagnalfkmdjajaaGreatDoor
open Go.RowKit Go
set_option linter.unusedVariables false
set_option linter.unusedSimpArgs false
/-- The kinds' names, as cert has them. -/
def crtNames : List (List UInt8) := [[], crtWord 1, crtWord 2, crtWord 3, crtWord 4]
theorem idx_kind {x : List UInt8} {k : Int} (h : IdxIs crtNames x k) : max 0 k = kindP x := by
  rcases h with ⟨rfl, h⟩ | ⟨j, rfl, hj, _⟩
  · unfold kindP
    have h1 : ¬ x = wSerial := fun e => h (by rw [e]; decide)
    have h2 : ¬ x = wDirty := fun e => h (by rw [e]; decide)
    have h3 : ¬ x = wPartial := fun e => h (by rw [e]; decide)
    have h4 : ¬ x = wCycle := fun e => h (by rw [e]; decide)
    rw [if_neg h1, if_neg h2, if_neg h3, if_neg h4]; rfl
  · match j, hj with
    | 0, hj => injection hj with hj; subst hj; decide
    | 1, hj => injection hj with hj; subst hj; decide
    | 2, hj => injection hj with hj; subst hj; decide
    | 3, hj => injection hj with hj; subst hj; decide
    | 4, hj => injection hj with hj; subst hj; decide
    | j + 5, hj => simp [crtNames] at hj
theorem split3_len (s : ByteArray) : Lib.countB s ⟨#[32, 59, 32]⟩ + 1 = (Lib.split s.data.toList sep3).length := by
  have h := Lib.splitB_data ⟨#[32, 59, 32]⟩ 0 (Lib.countB s ⟨#[32, 59, 32]⟩) s
  have e : Lib.split s.data.toList sep3 = (Lib.splitB ⟨#[32, 59, 32]⟩ 0 (Lib.countB s ⟨#[32, 59, 32]⟩) s).map (·.data.toList) := h.symm
  rw [e, List.length_map, Lib.splitB_all ⟨#[32, 59, 32]⟩ (by simp [ByteArray.size]) 0 _ s rfl]
theorem split3_any (s : ByteArray) (w : World) (hs : s.size ≤ 1000000) (hL : Lq w.heap.size w) :
    Calls Tryz.prog 40 #[.string s, .string ⟨#[32, 59, 32]⟩] w fun e w' => e = .returned (.slice (some ⟨w.heap.size, 0, none⟩) (Lib.split s.data.toList sep3).length (Lib.split s.data.toList sep3).length) ∧ w' = w.alloc (.cells (strs (Lib.split s.data.toList sep3)).toArray 9) := by
  obtain ⟨m, hm⟩ := hL.mx
  refine (Tryz.strings_Split s ⟨#[32, 59, 32]⟩ m w (by omega) hm (by simp [ByteArray.size])).mono ?_
  rintro e w' ⟨rfl, rfl⟩
  have h := Lib.splitB_data ⟨#[32, 59, 32]⟩ 0 (Lib.countB s ⟨#[32, 59, 32]⟩) s
  have e2 : Lib.split s.data.toList sep3 = (Lib.splitB ⟨#[32, 59, 32]⟩ 0 (Lib.countB s ⟨#[32, 59, 32]⟩) s).map (·.data.toList) := h.symm
  rw [← split3_len, e2]
  refine ⟨rfl, ?_⟩
  congr 3
  simp only [strs, List.map_map]
  apply List.map_congr_left
  intro b _
  simp
theorem splitK3_le : ∀ (k : Nat) (s : List UInt8), ∀ x ∈ Lib.splitK sep3 0 k s, x.length ≤ s.length
  | 0, s, x, h => by simp [Lib.splitK] at h; subst h; exact Nat.le_refl _
  | k + 1, s, x, h => by
    unfold Lib.splitK at h
    split at h
    · simp at h; subst h; exact Nat.le_refl _
    · rcases List.mem_cons.1 h with rfl | h
      · simp; omega
      · have := splitK3_le k _ x h
        simp at this; omega
theorem split3_le (s : List UInt8) : (∀ x ∈ Lib.split s sep3, x.length ≤ s.length) := splitK3_le _ _
theorem split3_cnt (s : ByteArray) : (Lib.split s.data.toList sep3).length ≤ s.size + 1 := by
  rw [← split3_len]
  have := Lib.countB_le ⟨#[32, 59, 32]⟩ (by simp [ByteArray.size]) s.size s (Nat.le_refl _)
  omega
end Go.Proofs.YtagnalfkmdjajaaGreatDoor
