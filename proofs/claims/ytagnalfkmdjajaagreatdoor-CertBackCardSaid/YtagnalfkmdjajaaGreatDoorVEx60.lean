/- A certificate's text: the candidates of both readers: plain Lean. -/
import Derived.Test.YtagnalfkmdjajaaGreatDoorV26
import Derived.Test.YtagnalfkmdjajaaGreatDoorV27
import Derived.Lib.SplitLaws
namespace Go.Proofs.YtagnalfkmdjajaaGreatDoor
open Go.RowKit Go
set_option linter.unusedVariables false
set_option linter.unusedSimpArgs false
/-- The separator between edges' texts. -/
def sep3 : List UInt8 := [32, 59, 32]
theorem sep3_here (r : List UInt8) : Lib.index (sep3 ++ r) sep3 = ((0 : Nat) : Int) := by
  show Lib.index (32 :: 59 :: 32 :: r) sep3 = _
  rw [Lib.index, if_pos (by simp [sep3, List.isPrefixOf])]; rfl
theorem sep3_no {b : UInt8} {l : List UInt8} (h : ∀ c t, l = c :: t → c ≠ 59) : sep3.isPrefixOf (b :: l) = false := by
  cases l with
  | nil => simp [sep3, List.isPrefixOf]
  | cons c t =>
    have := h c t rfl
    simp [sep3, List.isPrefixOf]
    intro _ h2
    exact absurd h2.symm this
theorem index3_hit : ∀ (t r : List UInt8), (59 : UInt8) ∉ t → Lib.index (t ++ (sep3 ++ r)) sep3 = ((t.length : Nat) : Int)
  | [], r, _ => sep3_here r
  | b :: t, r, h => by
    have hn : ∀ c u, t ++ (sep3 ++ r) = c :: u → c ≠ 59 := fun c u e => by
      cases t with
      | nil => simp [sep3] at e; rw [← e.1]; decide
      | cons d t => simp at e; rw [← e.1]; exact fun e => h (by simp [e])
    rw [List.cons_append, Lib.index, sep3_no hn, index3_hit t r (fun hc => h (by simp [hc]))]
    rw [if_neg (by decide), if_neg (by simp)]
    simp
theorem index3_miss : ∀ (t : List UInt8), (59 : UInt8) ∉ t → Lib.index t sep3 = -1
  | [], _ => by simp [Lib.index, sep3]
  | b :: t, h => by
    have hn : ∀ c u, t = c :: u → c ≠ 59 := fun c u e he => h (by rw [e, he]; simp)
    rw [Lib.index, sep3_no hn, index3_miss t (fun hc => h (by simp [hc]))]
    rfl
theorem split3_join : ∀ (ts : List (List UInt8)), ts ≠ [] → (∀ t ∈ ts, (59 : UInt8) ∉ t) → Lib.split (Lib.join ts sep3) sep3 = ts
  | [], h, _ => absurd rfl h
  | [t], _, h => by
    have hm := index3_miss t (h t (by simp))
    rw [Lib.join_one]
    unfold Lib.split
    rw [Lib.count_miss hm]; rfl
  | t :: u :: ts, _, h => by
    have hj : Lib.join (t :: u :: ts) sep3 = t ++ (sep3 ++ Lib.join (u :: ts) sep3) := by
      rw [Lib.join_cons, Lib.join_cons]
      simp [Lib.joinTail]
    have hi := index3_hit t (Lib.join (u :: ts) sep3) (h t (by simp))
    have hd : (t ++ (sep3 ++ Lib.join (u :: ts) sep3)).drop (t.length + sep3.length) = Lib.join (u :: ts) sep3 := by
      rw [← List.drop_drop, List.drop_left, List.drop_left]
    have ih := split3_join (u :: ts) (by simp) (fun x hx => h x (by simp [hx]))
    unfold Lib.split at ih ⊢
    rw [hj, Lib.count_hit (by simp [sep3]) hi, hd, Nat.add_comm 1]
    rw [Lib.splitK, hi, if_neg (by simp)]
    simp only [Int.toNat_natCast, Nat.add_zero]
    rw [hd, ih, List.take_left]
theorem cut_first {c : UInt8} {a r : List UInt8} (h : c ∉ a) : Lib.cut (a ++ c :: r) [c] = (a, r, true) := by
  obtain ⟨x, q, h1, h2, h3⟩ := cut_some (c := c) (l := a ++ c :: r) (by simp)
  have e1 := cuts_at r h
  rw [h2, cuts_at q h3] at e1
  simp only [List.cons.injEq] at e1
  obtain ⟨rfl, e2⟩ := e1
  have := congrArg (fun l => Lib.join l [c]) e2
  simp only [cuts_join] at this
  rw [h1, this]
noncomputable def edGet (s : List UInt8) : Ed := (edRead s).getD Ed.zero
theorem Ed.zero_nums : Ed.zero.nums := by unfold Ed.nums Ed.zero i64; simp
theorem edGet_nums (s : List UInt8) : (edGet s).nums := by
  unfold edGet
  cases h : edRead s with
  | none => exact Ed.zero_nums
  | some e => exact (edRead_some.1 h).2.1
theorem edGet_told {e : Ed} (h : e.ok) (hn : e.nums) : edGet e.told = e := by
  unfold edGet
  rw [edRead_some.2 ⟨h, hn, rfl⟩]; rfl
def wSerial : List UInt8 := [115, 101, 114, 105, 97, 108]
def wDirty : List UInt8 := [100, 105, 114, 116, 121]
def wPartial : List UInt8 := [112, 97, 114, 116, 105, 97, 108]
def wCycle : List UInt8 := [99, 121, 99, 108, 101]
/-- The kind of a word; 0: it is none's. -/
def kindP (l : List UInt8) : Int := if l = wSerial then 1 else if l = wDirty then 2 else if l = wPartial then 3 else if l = wCycle then 4 else 0
theorem kindP_word {k : Int} (h1 : 1 ≤ k) (h5 : k < 5) : kindP (crtWord k) = k := by
  obtain rfl | rfl | rfl | rfl : k = 1 ∨ k = 2 ∨ k = 3 ∨ k = 4 := by omega
  all_goals decide
theorem kindP_le (l : List UInt8) : 0 ≤ kindP l ∧ kindP l ≤ 4 := by
  unfold kindP; split <;> (try split) <;> (try split) <;> (try split) <;> omega
/-- The program's candidate. -/
noncomputable def candP (s : List UInt8) : Crt :=
  if kindP (Lib.cut s [32]).1 = 1 ∧ (Lib.cut s [32]).2.2 = true then ⟨1, (cuts 32 (Lib.cut s [32]).2.1).map atoiE, 0, 0, []⟩
  else if kindP (Lib.cut s [32]).1 = 4 ∧ (Lib.cut s [32]).2.2 = true then ⟨4, [], 0, 0, (Lib.split (Lib.cut s [32]).2.1 sep3).map edGet⟩
  else match cuts 32 (Lib.cut s [32]).2.1 with
    | [a, b] => ⟨kindP (Lib.cut s [32]).1, [], atoiE a, atoiE b, []⟩
    | _ => ⟨kindP (Lib.cut s [32]).1, [], 0, 0, []⟩
theorem candP_nums (s : List UInt8) : (candP s).nums := by
  have z : i64 0 := by unfold i64; omega
  have hk := kindP_le (Lib.cut s [32]).1
  have hk' : i64 (kindP (Lib.cut s [32]).1) := by unfold i64; omega
  unfold candP
  split
  · refine ⟨by show i64 1; unfold i64; omega, z, z, fun n hn => ?_, fun e he => absurd he (by simp)⟩
    obtain ⟨x, _, rfl⟩ := List.mem_map.1 hn
    exact atoiE_i64 _
  · split
    · refine ⟨by show i64 4; unfold i64; omega, z, z, fun n hn => absurd hn (by simp), fun e he => ?_⟩
      obtain ⟨x, _, rfl⟩ := List.mem_map.1 he
      exact edGet_nums _
    · split
      · exact ⟨hk', atoiE_i64 _, atoiE_i64 _, fun n hn => absurd hn (by simp), fun e he => absurd he (by simp)⟩
      · exact ⟨hk', z, z, fun n hn => absurd hn (by simp), fun e he => absurd he (by simp)⟩
theorem atoiE_dig {n : Int} (h0 : 0 ≤ n) (h1 : n ≤ 9223372036854775807) : atoiE (Lib.decDigits n.toNat) = n := by
  unfold atoiE
  rw [atoi_digits n.toNat (by omega)]
  show ((n.toNat : Nat) : Int) = n
  omega
/-- Edges' words are their texts, parted by ';'. -/
theorem edWords_join : ∀ (w : List Ed), Lib.join (edWords w) [32] = Lib.join (w.map Ed.told) sep3
  | [] => rfl
  | [e] => by simp [edWords, edTail, Lib.join_one, Ed.told]
  | e :: d :: w => by
    have ih := edWords_join (d :: w)
    have h1 : edWords (e :: d :: w) = e.words ++ ([[59]] ++ edWords (d :: w)) := by simp [edWords, edTail]
    have hw : edWords (d :: w) ≠ [] := by simp [edWords, Ed.words]
    rw [h1, join_two (by simp [Ed.words]) (by simp), join_two (by simp) hw, Lib.join_one, ih]
    simp only [List.map_cons]
    rw [Lib.join_cons e.told, Lib.join_cons d.told]
    simp [Lib.joinTail, sep3, Ed.told]
theorem join_no {c : UInt8} (hc : c ≠ 32) : ∀ (l : List (List UInt8)), (∀ x ∈ l, c ∉ x) → c ∉ Lib.join l [32]
  | [], _ => by simp [Lib.join_nil]
  | x :: l, h => by
    rw [Lib.join_cons]
    simp only [List.mem_append, not_or]
    refine ⟨h x (by simp), ?_⟩
    unfold Lib.joinTail
    simp only [List.mem_flatten, List.mem_map, not_exists, not_and]
    intro z hz hcz
    obtain ⟨y, hy, rfl⟩ := hz
    rcases List.mem_cons.1 hcz with e | e
    · exact hc e
    · exact h y (by simp [hy]) e
theorem told_no59 {e : Ed} (h : e.ok) : (59 : UInt8) ∉ e.told := by
  refine join_no (by decide) _ fun x hx => ?_
  simp only [Ed.words, List.mem_cons, List.not_mem_nil, or_false] at hx
  rcases hx with rfl | rfl | rfl | rfl | rfl | rfl | rfl
  · exact digits_no (by decide)
  · unfold edWord; split <;> (try split) <;> (try split) <;> (try split) <;> decide
  · exact digits_no (by decide)
  · exact digits_no (by decide)
  · exact verT_no (by decide) (by decide)
  · exact verT_no (by decide) (by decide)
  · exact itoa_no h.2.2.2.2 (by decide) (by decide)
theorem Crt.words_no {c : Crt} (h : ∀ e ∈ c.w, e.ok) : ∀ x ∈ c.words, (32 : UInt8) ∉ x := by
  intro x hx
  unfold Crt.words at hx
  simp only [List.mem_cons, List.mem_append, List.mem_map] at hx
  rcases hx with rfl | (hx | ⟨n, _, rfl⟩) | hx
  · exact crtWord_no _
  · split at hx
    · simp only [List.mem_cons, List.not_mem_nil, or_false] at hx
      rcases hx with rfl | rfl <;> exact digits_no (by decide)
    · cases hx
  · exact digits_no (by decide)
  · exact edWords_no h x hx
theorem map_dig {f : List UInt8 → Int} (hf : ∀ n : Int, 0 ≤ n → n ≤ 9223372036854775807 → f (Lib.decDigits n.toNat) = n) {o : List Int} (h : ∀ n ∈ o, 0 ≤ n) (hn : ∀ n ∈ o, i64 n) : (o.map fun n => Lib.decDigits n.toNat).map f = o := by
  rw [List.map_map]
  conv => rhs; rw [← List.map_id o]
  apply List.map_congr_left
  intro n hm
  have := hn n hm
  unfold i64 at this
  exact hf n (h n hm) this.2
theorem map_told {w : List Ed} (h : ∀ e ∈ w, e.ok) (hn : ∀ e ∈ w, e.nums) : (w.map Ed.told).map edGet = w := by
  rw [List.map_map]
  conv => rhs; rw [← List.map_id w]
  exact List.map_congr_left fun e he => edGet_told (h e he) (hn e he)
/-- The program's candidate is the certificate, if one is told so. -/
theorem candP_of {q : Crt} (hr : q.right = true) (hn : q.nums) : candP q.told = q := by
  obtain ⟨r1, r2, r3, r4, r5, r6, r7, r8, r9, r10, r11⟩ := Crt.nil_of hr
  obtain ⟨n1, n2, n3, n4, n5⟩ := hn
  have hw := Crt.words_no r9
  have ht := Crt.told_words r9
  obtain ⟨k, o, p, q, w⟩ := q
  unfold i64 at n2 n3
  simp only at r1 r2 r3 r4 r5 r6 r7 r8 r9 n1 n2 n3 n4 n5
  obtain ⟨T, hT⟩ : ∃ T, T = (if spotK k then [Lib.decDigits p.toNat, Lib.decDigits q.toNat] else []) ++ o.map (fun n => Lib.decDigits n.toNat) ++ edWords w := ⟨_, rfl⟩
  have hW : (⟨k, o, p, q, w⟩ : Crt).words = crtWord k :: T := by rw [hT]; rfl
  rw [hW] at hw ht
  rw [ht]
  have hk := kindP_word r4 r5
  have h32 : (32 : UInt8) ∉ crtWord k := crtWord_no k
  cases hc : T with
  | nil =>
    rw [hc] at hT
    have hT' := List.append_eq_nil_iff.1 hT.symm
    have hT2 := List.append_eq_nil_iff.1 hT'.1
    have ho : o = [] := by simpa using hT2.2
    have hww : w = [] := by
      cases w with
      | nil => rfl
      | cons e w => exact absurd hT'.2 (by simp [edWords, Ed.words])
    have hsp : spotK k = false := by
      have := hT2.1
      cases h : spotK k with
      | false => rfl
      | true => rw [h] at this; simp at this
    have hpq : p = 0 ∧ q = 0 := r3.resolve_left (fun h => by unfold spotK at hsp; rcases h with rfl | rfl <;> simp at hsp)
    rw [Lib.join_one]
    unfold candP
    rw [cut_none h32]
    simp only [hk, Bool.false_eq_true, and_false, if_false]
    simp only [Go.Proofs.YtagnalfkmdjajaaGreatDoor.cuts]
    rw [ho, hww, hpq.1, hpq.2]
  | cons t T' =>
    have hjn : Lib.join (crtWord k :: T) [32] = crtWord k ++ 32 :: Lib.join T [32] := by
      rw [hc, Lib.join_cons, Lib.join_cons]
      simp [Lib.joinTail]
    rw [← hc, hjn]
    have hcu : cuts 32 (Lib.join T [32]) = T := cuts_of_join (by rw [hc]; simp) (fun x hx => hw x (by simp [hx]))
    unfold candP
    rw [cut_first h32]
    simp only [hk, and_true]
    rw [hcu]
    by_cases h1 : k = 1
    · subst h1
      have e2 : w = [] := r2.resolve_left (by omega)
      have e4 := r3.resolve_left (by omega)
      subst e2
      rw [if_pos rfl, hT]
      have : spotK 1 = false := rfl
      rw [this]
      simp only [Bool.false_eq_true, if_false, List.nil_append, edWords, List.append_nil]
      rw [map_dig (fun n h0 h1 => atoiE_dig h0 h1) r8 n4, e4.1, e4.2]
    · rw [if_neg h1]
      have e1 : o = [] := r1.resolve_left h1
      subst e1
      by_cases h4 : k = 4
      · subst h4
        have e4 := r3.resolve_left (by omega)
        have hsp : spotK 4 = false := rfl
        rw [hsp] at hT
        simp only [Bool.false_eq_true, if_false, List.nil_append, List.map_nil] at hT
        have hwn : w ≠ [] := fun e => by rw [e] at hT; rw [hT] at hc; simp [edWords] at hc
        rw [if_pos rfl, hT, edWords_join, split3_join (w.map Ed.told) (by simpa using hwn) (fun t ht => by obtain ⟨e, he, rfl⟩ := List.mem_map.1 ht; exact told_no59 (r9 e he)), map_told r9 n5, e4.1, e4.2]
      · rw [if_neg h4]
        have e2 : w = [] := r2.resolve_left h4
        subst e2
        have hsp : spotK k = true := by
          unfold spotK
          obtain rfl | rfl : k = 2 ∨ k = 3 := by omega
          all_goals rfl
        rw [hsp] at hT
        simp only [if_true, List.map_nil, List.append_nil, edWords] at hT
        rw [hT]
        simp only
        rw [atoiE_dig r6 n2.2, atoiE_dig r7 n3.2]
theorem crtRead_candP {s : List UInt8} (hs : s ≠ []) : crtRead s = if (candP s).text = s then some (candP s) else none :=
  crtRead_via hs (candP_nums s) fun q h1 h2 h3 => by rw [← h3]; exact candP_of h1 h2
/-- Words to texts: ';' parts them, ' ' joins them. -/
def grp : List (List UInt8) → List UInt8 → List (List UInt8)
  | [], s => [s]
  | x :: l, s => if x = [59] then s :: grp l [] else grp l (if s = [] then x else s ++ 32 :: x)
end Go.Proofs.YtagnalfkmdjajaaGreatDoor
