/- The law RecordBack, walked: it is true of any two records, any frame and any text. Ahead of it: What is put and told of records, back and forth: plain Lean. Regions in the order of the text, by the same steps as those that draw it. Plain lemmas. What a law's walk keeps while memory only grows: boxes by their cells, and facts that stay. Plain lemmas. What the law RecordBack calls, case by case. The law RecordBack, walked: what its calls give, the cases joined. The law RecordBack, walked: its arguments small. -/
import Derived.Test.YtjedgiiplebofaaGreatDoorU20
import Derived.Test.YtjedgiiplebofaaGreatDoorUW52
import Derived.Test.YtjedgiiplebofaaGreatDoorU10
import Derived.Test.YtjedgiiplebofaaGreatDoorU29
import Derived.Test.YtjedgiiplebofaaGreatDoorUW46
import Derived.Test.YtjedgiiplebofaaGreatDoorU49
import Derived.Test.YtjedgiiplebofaaGreatDoorUW31
import Derived.Laws.Rows
import Derived.Deep.CutRange
namespace Go.Proofs.YtjedgiiplebofaaGreatDoor
open Go.RowKit Go
set_option linter.unusedVariables false
set_option linter.unusedSimpArgs false
theorem es_small {r : Rec} (h : r.es.length ≤ 60) : r.es.length < 18446744073709551616 := by omega
theorem put_back {r : Rec} {k : Nat} (hr : r.right = true) (hn : r.nums) (he : r.es.length ≤ 60) (hk : r.k = (k : Int)) : frameG k r.body = some r := by
  have h := frameG_put ((Rec.right_iff r).1 hr) hn (es_small he)
  rw [hk] at h
  exact h
theorem body_inj {r o : Rec} {k k' : Nat} (hr : r.right = true) (ho : o.right = true) (hn : r.nums) (hm : o.nums) (he : r.es.length ≤ 60) (hf : o.es.length ≤ 60) (hk : r.k = (k : Int)) (hk' : o.k = (k' : Int)) :
    (decide (k = k') && decide (r.body = o.body)) = r.same o := by
  rw [Bool.eq_iff_iff, Rec.same_iff]
  simp only [Bool.and_eq_true, decide_eq_true_eq]
  constructor
  · rintro ⟨rfl, h2⟩
    have h1 := put_back hr hn he hk
    rw [h2, put_back ho hm hf hk'] at h1
    injection h1 with h1; exact h1.symm
  · rintro rfl
    exact ⟨by omega, rfl⟩
theorem text_right {r : Rec} (hr : r.right = true) : r.text = r.told := by unfold Rec.text; rw [if_pos hr]
theorem line_back {r : Rec} (hr : r.right = true) (hn : r.nums) : lineB r.text = some r := by rw [text_right hr]; exact lineB_told ((Rec.right_iff r).1 hr) hn
theorem text_inj2 {r o : Rec} (hr : r.right = true) (ho : o.right = true) (hn : r.nums) (hm : o.nums) : decide (r.text = o.text) = r.same o := by
  rw [Bool.eq_iff_iff, Rec.same_iff, decide_eq_true_eq]
  constructor
  · intro h
    have h1 := line_back hr hn
    rw [h, line_back ho hm] at h1
    injection h1 with h1; exact h1.symm
  · rintro rfl; rfl
theorem frame_back {k : Nat} {b : List UInt8} {x : Rec} (h : frameG k b = some x) : x.right = true ∧ x.nums ∧ x.k = (k : Int) ∧ x.body = b := by
  obtain ⟨h1, h2, h3, h4⟩ := frameG_sound h
  exact ⟨(Rec.right_iff x).2 h2, h3, h1, h4⟩
theorem line_sound {s : List UInt8} {y : Rec} (h : lineB s = some y) : y.right = true ∧ y.nums ∧ y.text = s := by
  obtain ⟨h1, h2, h3⟩ := lineB_sound h
  have h4 := (Rec.right_iff y).2 h1
  exact ⟨h4, h2, by rw [text_right h4]; exact h3⟩
theorem ents_len : ∀ es : List Ent, es.length ≤ (entPuts es).length
  | [] => by simp
  | e :: es => by
    have := ents_len es
    simp only [entPuts, List.flatMap_cons, List.length_append, List.length_cons] at this ⊢
    have h2 : 1 ≤ e.put.length := by simp [Ent.put]
    omega
theorem frame_small {k : Nat} {b : List UInt8} {x : Rec} (h : frameG k b = some x) : x.p.size ≤ 900 ∧ x.p.depth ≤ 900 ∧ x.es.length ≤ b.length := by
  obtain ⟨h1, h2, h3, h4⟩ := frameG_sound h
  obtain ⟨q1, q7, hp, ho⟩ := h2
  by_cases h5 : x.k = 5
  · have hr := hp h5
    have hd := x.p.depth_le_size
    simp only [Ex.right, Bool.and_eq_true, decide_eq_true_eq] at hr
    refine ⟨by omega, by omega, ?_⟩
    rw [← h4]
    unfold Rec.body
    have := ents_len x.es
    simp only [h5]
    simp; omega
  · have hz : x.p = .zero ∧ x.es = [] := by
      rw [← ho]
      unfold Rec.only
      rw [if_neg h5]
      split
      · exact ⟨rfl, rfl⟩
      split
      · exact ⟨rfl, rfl⟩
      split <;> exact ⟨rfl, rfl⟩
    rw [hz.1, hz.2]
    exact ⟨by decide, by decide, by simp⟩
theorem line_small2 {s : List UInt8} {y : Rec} (h : lineB s = some y) : y.p.size ≤ 900 ∧ y.es.length ≤ s.length := by
  obtain ⟨h1, h2, h3⟩ := lineB_sound h
  obtain ⟨q1, q7, hp, ho⟩ := h1
  by_cases h5 : y.k = 5
  · have hr := hp h5
    simp only [Ex.right, Bool.and_eq_true, decide_eq_true_eq] at hr
    refine ⟨by omega, ?_⟩
    rw [← h3]
    unfold Rec.told Rec.words
    have ht : y.tail = y.p.told :: y.es.map Ent.told := by unfold Rec.tail; simp [h5]
    rw [ht, Lib.join_cons]
    have key : ∀ l : List (List UInt8), l.length ≤ (Lib.joinTail [32] l).length := by
      intro l
      induction l with
      | nil => simp
      | cons a l ih => simp only [Lib.joinTail, List.map_cons, List.flatten_cons, List.length_append, List.length_cons, List.length_nil] at ih ⊢; omega
    have := key (Lib.decDigits y.t :: y.p.told :: y.es.map Ent.told)
    simp only [List.length_append, List.length_cons, List.length_map] at this ⊢
    omega
  · have hz : y.p = .zero ∧ y.es = [] := by
      rw [← ho]
      unfold Rec.only
      rw [if_neg h5]
      split
      · exact ⟨rfl, rfl⟩
      split
      · exact ⟨rfl, rfl⟩
      split <;> exact ⟨rfl, rfl⟩
    rw [hz.1, hz.2]
    exact ⟨by decide, by simp⟩
theorem body_small {r : Rec} (hp : r.p.size ≤ 60) (he : r.es.length ≤ 60) : r.body.length ≤ 10000 := by
  have h1 := putVs_length [r.t, r.x, r.w, r.n]
  have h2 := putVs_length [r.t, r.x, r.v]
  have h3 := putVs_length [r.t, r.x]
  have h4 := putVs_length [r.t, r.p.put.length]
  have h5 := putVs_length [r.es.length]
  have h6 := entPuts_length r.es
  have h7 := putVs_length [r.t]
  have hpl : r.p.put.length ≤ 992 := by
    by_cases h : r.p.right = true
    · exact put_length_lt h
    · simp [Ex.put, h]
  unfold Rec.body
  repeat' split
  all_goals simp only [List.length_append, List.length_cons, List.length_nil] at *
  all_goals omega
theorem text_small {r : Rec} (hn : r.nums) (hp : r.p.size ≤ 60) (he : r.es.length ≤ 60) : r.text.length ≤ 40000 := by
  unfold Rec.text
  split
  · obtain ⟨n1, n2, n3, n4, n5, n6, n7⟩ := hn
    have dt := decDigits_le20 _ n1
    have dx := decDigits_le20 _ n2
    have dw := decDigits_le20 _ n3
    have dn := decDigits_le20 _ n4
    have dv := decDigits_le20 _ n5
    have dp := Ex.told_len r.p n6
    have hw : (wordOf r.k).length ≤ 6 := by
      unfold wordOf
      repeat' split
      all_goals decide
    have hv : (verT r.w r.n).length ≤ 41 := by simp only [verT, List.length_append, List.length_cons]; omega
    have hes : ∀ es : List Ent, (∀ e ∈ es, e.ok) → (Lib.joinTail [32] (es.map Ent.told)).length ≤ 75 * es.length := by
      intro es
      induction es with
      | nil => intro _; simp [Lib.joinTail]
      | cons e es ih =>
        intro h
        have h2 := ih (fun z hz => h z (List.mem_cons_of_mem _ hz))
        obtain ⟨a1, a2, a3⟩ := h e (by simp)
        have := decDigits_le20 _ a1
        have := decDigits_le20 _ a2
        have := decDigits_le20 _ a3
        have h4 : (flagT e.m).length = 1 := by unfold flagT; split <;> rfl
        have h5 : e.told.length ≤ 70 := by simp only [Ent.told, verT, List.length_append, List.length_cons]; omega
        simp only [Lib.joinTail, List.map_cons, List.flatten_cons, List.length_append, List.length_cons, List.length_nil] at h2 ⊢
        omega
    have h9 := hes r.es n7
    have ht : (Lib.joinTail [32] r.tail).length ≤ 10000 := by
      unfold Rec.tail
      repeat' split
      all_goals simp only [Lib.joinTail, List.map_cons, List.map_nil, List.flatten_cons, List.flatten_nil, List.length_append, List.length_cons, List.length_nil] at h9 ⊢
      all_goals omega
    unfold Rec.told Rec.words
    rw [Lib.join_cons]
    have hc : Lib.joinTail [32] (Lib.decDigits r.t :: r.tail) = [32] ++ Lib.decDigits r.t ++ Lib.joinTail [32] r.tail := by simp [Lib.joinTail]
    rw [hc]
    simp only [List.length_append, List.length_cons, List.length_nil]; omega
  · simp
end Go.Proofs.YtjedgiiplebofaaGreatDoor
namespace Go.Proofs.YtjedgiiplebofaaGreatDoor
open Go.RowKit Go
set_option linter.unusedVariables false
set_option linter.unusedSimpArgs false
theorem wpOps_inv {P : Program} {ops : Array Oper} {Q : Exit → Act → World → Prop} (Inv : (Nat → Bool) → Act → World → Prop)
    (hstep : ∀ (l : Nat → Bool) (a : Act) (w : World) (i : Nat), Inv l a w → i < ops.size → l i = false → (∀ o, ops[i]? = some o → ∀ e ∈ o.after, Region.binds .any e = true → l e.on = true) → wpOp P ops Q i (fun a' w' => Inv (fun j => j == i || l j) a' w') a w)
    (hdone : ∀ (l : Nat → Bool) (a : Act) (w : World), (∀ i, i < ops.size → l i = true) → Inv l a w → Q .normal a w)
    (hdag : ∀ i o, ops[i]? = some o → ∀ e ∈ o.after, Region.binds .any e = true → e.on < i) :
    ∀ (n k : Nat) (a : Act) (w : World), k + n = ops.size → Inv (fun j => decide (j < k)) a w → wpOps P ops Q (List.range' k n) a w
  | 0, k, a, w, hk, hI => hdone _ a w (fun i hi => by simp; omega) hI
  | n + 1, k, a, w, hk, hI => by
    rw [List.range'_succ, wpOps_cons]
    refine wpOp_mono (fun a' w' h => wpOps_inv Inv hstep hdone hdag n (k + 1) a' w' (by omega) ?_) (hstep _ a w k hI (by omega) (by simp) (fun o ho e he hb => by simpa using hdag k o ho e he hb))
    have e : (fun j => decide (j < k + 1)) = fun j => j == k || decide (j < k) := by
      funext j
      rw [Bool.eq_iff_iff]
      simp
      omega
    rw [e]; exact h
theorem wp_region_inv_f {P : Program} {id : Nat} {ops : Array Oper} {Q : Exit → Act → World → Prop} {a : Act} {w : World} (Inv : (Nat → Bool) → Act → World → Prop)
    (hdag : ∀ i o, ops[i]? = some o → ∀ e ∈ o.after, Region.binds .any e = true → e.on < i)
    (h0 : Inv (fun _ => false) a w)
    (hstep : ∀ (l : Nat → Bool) (a : Act) (w : World) (i : Nat), Inv l a w → i < ops.size → l i = false → (∀ o, ops[i]? = some o → ∀ e ∈ o.after, Region.binds .any e = true → l e.on = true) → wpOp P ops Q i (fun a' w' => Inv (fun j => j == i || l j) a' w') a w)
    (hdone : ∀ (l : Nat → Bool) (a : Act) (w : World), (∀ i, i < ops.size → l i = true) → Inv l a w → Q .normal a w) : (Code.region id ops false).wp P Q a w := by
  refine wp_region ?_
  rw [List.range_eq_range']
  refine wpOps_inv Inv hstep hdone hdag ops.size 0 a w (by omega) ?_
  have e : (fun j : Nat => decide (j < 0)) = fun _ => false := by funext j; simp
  rw [e]; exact h0
section
variable {P : Program} {ops : Array Oper} {Q : Exit → Act → World → Prop} {G : List Pr} {ws : List Nat} {a0 : Act} {w0 : World}
theorem RInv.start_f : RInv ops G ws a0 w0 (fun _ => false) a0 w0 where
  fr := Fr.refl _ _
  bel := Below.refl _ _
  vals := fun _ _ _ _ _ h => by cases h
  boxes := fun _ _ _ _ _ h => by cases h
  apart := fun _ _ _ _ _ _ _ _ _ _ _ _ h => by cases h
  done := fun _ _ _ _ h => by cases h
theorem wp_region_pr_f {id : Nat} (G : List Pr) (ws : List Nat) (hok : okR ops G ws a0.tmps.size = true) (hnt : ∀ i : Nat, G[i]? ≠ some Pr.tail) (hsteps : Steps' P ops G ws a0 w0 0 G)
    (hdone : ∀ (a : Act) (w : World) (l : Nat → Bool), (∀ i, i < ops.size → l i = true) → RInv ops G ws a0 w0 l a w → Q .normal a w) : (Code.region id ops false).wp P Q a0 w0 := by
  have hlen := okR_len hok
  refine wp_region_inv_f (fun l a w => RInv ops G ws a0 w0 l a w) (fun i o ho e he hb => ?_) RInv.start_f (fun l a w i hI hi hl ha => pr_step rfl hok hsteps hI hi hl ha (hnt i)) (fun l a w hl h => hdone a w l hl h)
  have hi := (Array.getElem?_eq_some_iff.1 ho).1
  have hp : G[i]? = some G[i] := List.getElem?_eq_getElem (by omega)
  exact (okOp_parts (okR_at hok hi) ho hp).1 e he hb
theorem wp_region_prs_f {id : Nat} (G : List Pr) (hok : (okR ops G (dsts ops.toList) a0.tmps.size && decide (dsts ops.toList).Nodup && !G.any Pr.isTail) = true) (hsteps : Steps' P ops G (dsts ops.toList) a0 w0 0 G)
    (L : (Nat → Value) → List (Nat × Value)) (hL : ∀ vs, valL vs 0 ops.toList G = L vs)
    (hdone : ∀ (S : Nat → Prop) (vs : Nat → Value) (w : World), RDone ops G w0 S vs w → Q .normal (putsL a0 (L vs)) w) : (Code.region id ops false).wp P Q a0 w0 := by
  simp only [Bool.and_eq_true, decide_eq_true_eq, Bool.not_eq_true'] at hok
  obtain ⟨⟨hok, hnd⟩, hnta⟩ := hok
  have hnt := no_tail hnta
  have hlen := okR_len hok
  refine wp_region_pr_f G _ hok hnt hsteps ?_
  intro a w l hl hI
  have hv : ∀ i p, G[i]? = some p → ∀ d, dstOf ops i = some d → ∃ u, a.tmps[d]? = some u ∧ u = p.val u ∧ p.holds (SB ops G w0.heap.size l a) w u := fun i p hp d hd => by
    have hli := hl i (by have := (List.getElem?_eq_some_iff.1 hp).1; omega)
    cases p with
    | skip =>
      obtain ⟨u, h1, h2⟩ := hI.vals i _ d hp rfl hli hd
      exact ⟨u, h1, h2, h2⟩
    | eq v =>
      obtain ⟨u, h1, h2⟩ := hI.vals i _ d hp rfl hli hd
      exact ⟨u, h1, h2, h2⟩
    | of q =>
      obtain ⟨u, h1, h2⟩ := hI.vals i _ d hp rfl hli hd
      exact ⟨u, h1, rfl, h2⟩
    | box T z =>
      obtain ⟨g, cs, h1, _⟩ := hI.boxes i T z d hp hli hd
      exact ⟨_, h1, rfl, trivial⟩
    | sto al vl =>
      have hi : i < ops.size := dst_lt hd
      obtain ⟨_, _, _, hdn, _⟩ := okOp_parts (okR_at hok hi) (Array.getElem?_eq_getElem hi) hp
      unfold dstOf at hd
      rw [Array.getElem?_eq_getElem hi] at hd
      rw [show (some ops[i]).bind (·.dst) = ops[i].dst from rfl, hdn] at hd
      cases hd
    | tail => exact absurd hp (hnt i)
  have hsome : ∀ i p, G[i]? = some p → (∀ al vl, p ≠ .sto al vl) → ∃ d, dstOf ops i = some d := fun i p hp hns => by
    have hi : i < ops.size := by have := (List.getElem?_eq_some_iff.1 hp).1; omega
    have hk := (okOp_parts (okR_at hok hi) (Array.getElem?_eq_getElem hi) hp).2.2
    have hd : ∀ d, ops[i].dst = some d → dstOf ops i = some d := fun d hd => by unfold dstOf; rw [Array.getElem?_eq_getElem hi]; exact hd
    cases p with
    | skip => exact ⟨_, hd _ hk.2.choose_spec.1⟩
    | eq v => exact ⟨_, hd _ hk.2.choose_spec.1⟩
    | of q => exact ⟨_, hd _ hk.2.choose_spec.1⟩
    | box T z => exact ⟨_, hd _ hk.2.1.choose_spec.1⟩
    | sto al vl => exact absurd rfl (hns al vl)
    | tail => exact absurd hp (hnt i)
  obtain ⟨vs, hvs⟩ : ∃ vs : Nat → Value, ∀ i d, dstOf ops i = some d → vs i = (a.tmps[d]?).getD undef := ⟨fun i => (((dstOf ops i).bind fun d => a.tmps[d]?).getD undef), fun i d hd => by show (((dstOf ops i).bind fun d => a.tmps[d]?).getD undef) = _; rw [hd]; rfl⟩
  have hvu : ∀ i d u, dstOf ops i = some d → a.tmps[d]? = some u → vs i = u := fun i d u h1 h2 => by rw [hvs i d h1, h2]; rfl
  have hfr : a = putsL a0 (L vs) := by
    rw [← hL vs]
    have hfst := valL_fst vs ops.toList G 0 (by simpa using hlen.symm)
    refine frame_eq _ (by rw [hfst]; exact hI.fr) (by rw [hfst]; exact hnd) (fun x hx => ?_) (fun x hx => ?_)
    · obtain ⟨j, o, p, h1, h2, h3, h4⟩ := valL_mem vs ops.toList G 0 (by simpa using hlen.symm) x hx
      have h1' : ops[j]? = some o := by simpa using h1
      have hj : j < ops.size := (Array.getElem?_eq_some_iff.1 h1').1
      have hk := (okOp_parts (okR_at hok hj) h1' h2).2.2
      have : ∃ d, o.dst = some d ∧ d < a0.tmps.size := by
        cases p with
        | skip => exact ⟨_, hk.2.choose_spec.1, hk.2.choose_spec.2.2⟩
        | eq v => exact ⟨_, hk.2.choose_spec.1, hk.2.choose_spec.2.2⟩
        | of q => exact ⟨_, hk.2.choose_spec.1, hk.2.choose_spec.2.2⟩
        | box T z => exact ⟨_, hk.2.1.choose_spec.1, hk.2.1.choose_spec.2.2⟩
        | sto al vl => rw [hk.2.1] at h3; cases h3
        | tail => exact absurd h2 (hnt j)
      obtain ⟨d, e1, e2⟩ := this
      rw [h3] at e1
      cases e1
      exact e2
    · obtain ⟨j, o, p, h1, h2, h3, h4⟩ := valL_mem vs ops.toList G 0 (by simpa using hlen.symm) x hx
      have hd : dstOf ops j = some x.1 := by
        unfold dstOf
        have h1' : ops[j]? = some o := by simpa using h1
        rw [h1']; exact h3
      obtain ⟨u, u1, u2, _⟩ := hv j p h2 x.1 hd
      rw [Nat.zero_add, hvu j x.1 u hd u1] at h4
      rw [h4, ← u2]
      simp only [Act.eval, Array.getD_eq_getD_getElem?, u1]
      rfl
  rw [hfr] at hI ⊢
  rw [← hfr] at hI
  refine hdone (SB ops G w0.heap.size l a) vs w ⟨hI.bel, fun b hb => hb.1, fun i p hp => ?_, fun i v hp => ?_, fun k al vl T z hk ha => ?_, fun i j T z T' z' g hi hj hne h1 h2 => ?_⟩
  · obtain ⟨d, hd⟩ := hsome i _ hp nofun
    obtain ⟨u, u1, _, u3⟩ := hv i _ hp d hd
    rw [hvu i d u hd u1]
    exact u3
  · obtain ⟨d, hd⟩ := hsome i _ hp nofun
    obtain ⟨u, u1, _, u3⟩ := hv i _ hp d hd
    rw [hvu i d u hd u1]
    exact u3
  · obtain ⟨d, hd⟩ := hsome al _ ha nofun
    have hla := hl al (dst_lt hd)
    obtain ⟨g, cs, b1, b2, b3, b4, b5, b6⟩ := hI.boxes al T z d ha hla hd
    have hki : k < ops.size := by have := (List.getElem?_eq_some_iff.1 hk).1; omega
    obtain ⟨_, _, _, _, ⟨q, hq, hqp⟩, T2, z2, d2, dv, e1, _, e3, e4⟩ := (okOp_parts (okR_at hok hki) (Array.getElem?_eq_getElem hki) hk).2.2
    have b7 := b6 k vl dv hk (hl k hki) e4
    exact ⟨g, cs, hvu al d _ hd b1, b2, b3, b4, hvu vl dv _ e4 b7, fun hS => hS.2 al T z d ha hla hd b1⟩
  · obtain ⟨d, hd⟩ := hsome i _ hi nofun
    obtain ⟨d', hd'⟩ := hsome j _ hj nofun
    obtain ⟨u, u1, _⟩ := hv i _ hi d hd
    obtain ⟨u', u1', _⟩ := hv j _ hj d' hd'
    rw [hvu i d u hd u1] at h1
    rw [hvu j d' u' hd' u1'] at h2
    exact hI.apart i j T z T' z' d d' g hi hj hne (hl i (dst_lt hd)) (hl j (dst_lt hd')) hd hd' (by rw [u1, h1]) (by rw [u1', h2])
end
section
variable {P : Program} {ops : Array Oper} {Q : Exit → Act → World → Prop} {G : List Dv} {ws : List Nat} {a0 : Act} {w0 : World} {Z : Nat → (Nat → Value) → World → Prop}
end
end Go.Proofs.YtjedgiiplebofaaGreatDoor
namespace Go.Proofs.YtjedgiiplebofaaGreatDoor
open Go.RowKit Go
set_option linter.unusedVariables false
set_option linter.unusedSimpArgs false
structure Env (w0 : World) (rows : List (Nat × Array Value × TypeId)) (P : World → Prop) (w : World) : Prop where
  bel : Below w0.heap.size w0 w
  row : ∀ x ∈ rows, w.heap[x.1]? = some (.cells x.2.1 x.2.2 (0, 0))
  st : ∀ w w', Below w.heap.size w w' → P w → P w'
  p : P w
section
variable {w0 w w' : World} {rows : List (Nat × Array Value × TypeId)} {P Q : World → Prop}
theorem Env.below (h : Env w0 rows P w) (hb : Below w.heap.size w w') : Env w0 rows P w' :=
  ⟨h.bel.trans (hb.mono h.bel.size), fun x hx => (hb.block _ (Array.getElem?_eq_some_iff.1 (h.row x hx)).1).trans (h.row x hx), h.st, h.st _ _ hb h.p⟩
theorem Env.alloc (h : Env w0 rows P w) (cs : Array Value) (T : TypeId) : Env w0 ((w.heap.size, cs, T) :: rows) P (w.alloc (.cells cs T)) := by
  have h' := h.below ((Below.refl _ _).alloc (Nat.le_refl _) (.cells cs T))
  refine ⟨h'.bel, fun x hx => ?_, h'.st, h'.p⟩
  rcases List.mem_cons.1 hx with rfl | hx
  · exact heap_alloc_at _ _ _ rfl
  · exact h'.row x hx
theorem Env.and (h : Env w0 rows P w) (hs : ∀ w w', Below w.heap.size w w' → Q w → Q w') (hq : Q w) : Env w0 rows (fun w => Q w ∧ P w) w :=
  ⟨h.bel, h.row, fun w w' hb hp => ⟨hs w w' hb hp.1, h.st w w' hb hp.2⟩, hq, h.p⟩
theorem Env.cell (h : Env w0 rows P w) {b : Nat} {cs : Array Value} {T : TypeId} (hm : (b, cs, T) ∈ rows) (o : Nat) : w.cell? ⟨b, o, none⟩ = cs[o]? := cell_of_row w b o cs T (0, 0) (h.row _ hm)
end
theorem stRepR (S : Nat → Prop) (own : Bool) (r : Rec) (v : Value) : ∀ w w', Below w.heap.size w w' → RepR w S own r v → RepR w' S own r v := fun _ _ hb h => h.below hb (Nat.le_refl _)
theorem stRepB (S : Nat → Prop) (own : Bool) (l : List UInt8) (v : Value) : ∀ w w', Below w.heap.size w w' → RepB w S own l v → RepB w' S own l v := fun _ _ hb h => Sl.below h (by omega) hb (Nat.le_refl _)
end Go.Proofs.YtjedgiiplebofaaGreatDoor
namespace Go.Proofs.YtjedgiiplebofaaGreatDoor
open Go.RowKit Go
set_option linter.unusedVariables false
set_option linter.unusedSimpArgs false
theorem putY (S : Nat → Prop) (own : Bool) (r : Rec) (kr : Nat) (v : Value) (w : World) (hsz : r.p.size ≤ 900) (hle : r.es.length ≤ 10000) (hv : RepR w S own r v) (hr : r.right = true) (hk : r.k = (kr : Int)) :
    Calls Tryz.prog 26 #[v] w fun e w' => ∃ ad cap, e = .returned (.tuple #[.agg #[.int .u8 (kr : Nat), .slice ad r.body.length cap], .int .i64 0]) ∧ RepB w' (fun b => w.heap.size ≤ b) true r.body (.slice ad r.body.length cap) ∧ Below w.heap.size w w' := by
  refine (recPut_any S own r v w hsz hle hv).mono ?_
  rintro e w' ⟨h1, _, h3⟩
  obtain ⟨bv, rfl, hb⟩ := h1 hr
  obtain ⟨_, ad, cap, rfl, _⟩ := hb.shape
  rw [hk]
  exact ⟨ad, cap, rfl, hb, h3⟩
theorem putN (S : Nat → Prop) (own : Bool) (r : Rec) (v : Value) (w : World) (hsz : r.p.size ≤ 900) (hle : r.es.length ≤ 10000) (hv : RepR w S own r v) (hr : r.right = false) :
    Calls Tryz.prog 26 #[v] w fun e w' => e = .returned (.tuple #[.agg #[.int .u8 0, .slice none 0 0], .int .i64 50]) ∧ Below w.heap.size w w' := by
  refine (recPut_any S own r v w hsz hle hv).mono ?_
  rintro e w' ⟨_, h2, h3⟩
  exact ⟨h2 hr, h3⟩
theorem parseY (S : Nat → Prop) (own : Bool) (k : Nat) (b : List UInt8) (x : Rec) (pv : Value) (w : World) (hk : k < 256) (hb : b.length ≤ 100000) (hv : RepB w S own b pv) (hx : frameG k b = some x) :
    Calls Tryz.prog 23 #[.agg #[.int .u8 (k : Nat), pv]] w fun e w' => ∃ v, e = .returned (.tuple #[v, .int .i64 0]) ∧ RepR w' (fun b => w.heap.size ≤ b) true x v ∧ Below w.heap.size w w' := by
  refine (recParse_any S own k b pv w hk hb hv).mono ?_
  rintro e w' ⟨v, rfl, hr, hbl⟩
  rw [hx] at hr
  have hk17 : 1 ≤ k ∧ k ≤ 7 := by
    unfold frameG at hx
    split at hx
    · assumption
    · cases hx
  have h0 : ruleOf k b = 0 := by unfold ruleOf; rw [if_pos hk17, hx]; rfl
  rw [h0]
  exact ⟨v, rfl, hr, hbl⟩
theorem parseN (S : Nat → Prop) (own : Bool) (k : Nat) (b : List UInt8) (pv : Value) (w : World) (hk : k < 256) (hb : b.length ≤ 100000) (hv : RepB w S own b pv) (hx : frameG k b = none) :
    Calls Tryz.prog 23 #[.agg #[.int .u8 (k : Nat), pv]] w fun e w' => ∃ v rule, e = .returned (.tuple #[v, .int .i64 rule]) ∧ (rule == 0) = false ∧ RepR w' (fun b => w.heap.size ≤ b) true .zero v ∧ Below w.heap.size w w' := by
  refine (recParse_any S own k b pv w hk hb hv).mono ?_
  rintro e w' ⟨v, rfl, hr, hbl⟩
  rw [hx] at hr
  refine ⟨v, _, rfl, ?_, hr, hbl⟩
  unfold ruleOf
  rw [hx]
  split <;> rfl
theorem lineY (s : ByteArray) (y : Rec) (w : World) (hs : s.size ≤ 50000) (hL : Lq w.heap.size w) (hy : lineB s.data.toList = some y) :
    Calls Tryz.prog 17 #[.string s] w fun e w' => ∃ v, e = .returned (.tuple #[v, .int .i64 0]) ∧ RepR w' (fun b => w.heap.size ≤ b) true y v ∧ Below w.heap.size w w' := by
  refine (recLine_any s w hs hL).mono ?_
  rintro e w' ⟨v, rfl, hr, hbl⟩
  rw [hy] at hr ⊢
  exact ⟨v, rfl, hr, hbl⟩
theorem lineN (s : ByteArray) (w : World) (hs : s.size ≤ 50000) (hL : Lq w.heap.size w) (hy : lineB s.data.toList = none) :
    Calls Tryz.prog 17 #[.string s] w fun e w' => ∃ v, e = .returned (.tuple #[v, .int .i64 50]) ∧ RepR w' (fun b => w.heap.size ≤ b) true .zero v ∧ Below w.heap.size w w' := by
  refine (recLine_any s w hs hL).mono ?_
  rintro e w' ⟨v, rfl, hr, hbl⟩
  rw [hy] at hr ⊢
  exact ⟨v, rfl, hr, hbl⟩
theorem env3 (w : World) (cs1 cs2 cs3 : Array Value) (T1 T2 T3 : TypeId) (P : World → Prop) (hst : ∀ w w', Below w.heap.size w w' → P w → P w') (hp : P w) :
    Env w [(w.heap.size + 2, cs3, T3), (w.heap.size + 1, cs2, T2), (w.heap.size, cs1, T1)] P (((w.alloc (.cells cs1 T1)).alloc (.cells cs2 T2)).alloc (.cells cs3 T3)) := by
  have h0 : Env w [] P w := ⟨Below.refl _ _, (by simp), hst, hp⟩
  have h := ((h0.alloc cs1 T1).alloc cs2 T2).alloc cs3 T3
  simp only [World.size_alloc] at h
  exact h
end Go.Proofs.YtjedgiiplebofaaGreatDoor
namespace Go.Proofs.YtjedgiiplebofaaGreatDoor
open Go.RowKit Go
set_option linter.unusedVariables false
set_option linter.unusedSimpArgs false
theorem kind_nat {r : Rec} (h : r.right = true) : ∃ k : Nat, r.k = (k : Int) := Int.eq_ofNat_of_zero_le (by have := ((Rec.right_iff r).1 h).1; omega)
theorem stImp (c : Prop) (S : Nat → Prop) (own : Bool) (l : List UInt8) (v : Value) : ∀ w w', Below w.heap.size w w' → (c → RepB w S own l v) → (c → RepB w' S own l v) := fun _ _ hb h hc => stRepB _ _ _ _ _ _ hb (h hc)
theorem Env.rebase {w0 w : World} {rows : List (Nat × Array Value × TypeId)} {P : World → Prop} (h : Env w0 rows P w) : Env w rows P w := ⟨Below.refl _ _, h.row, h.st, h.p⟩
theorem putJ (S : Nat → Prop) (own : Bool) (r : Rec) (v : Value) (w : World) (hsz : r.p.size ≤ 900) (hle : r.es.length ≤ 10000) (hv : RepR w S own r v) :
    Calls Tryz.prog 26 #[v] w fun e w' => ∃ (k : Nat) (ad : Option Addr) (n cap : Nat) (rule : Int), e = .returned (.tuple #[.agg #[.int .u8 k, .slice ad n cap], .int .i64 rule]) ∧ ((r.right = true → r.k = (k : Int) ∧ n = r.body.length ∧ rule = 0) ∧ (r.right = false → rule = 50)) ∧ (r.right = true → RepB w' (fun b => w.heap.size ≤ b) true r.body (.slice ad n cap)) ∧ Below w.heap.size w w' := by
  cases hr : r.right with
  | false =>
    refine (putN S own r v w hsz hle hv hr).mono ?_
    rintro e w' ⟨rfl, hb⟩
    exact ⟨0, none, 0, 0, 50, rfl, ⟨(by intro h; cases h), fun _ => rfl⟩, (by intro h; cases h), hb⟩
  | true =>
    obtain ⟨k, hk⟩ := kind_nat hr
    refine (putY S own r k v w hsz hle hv hr hk).mono ?_
    rintro e w' ⟨ad, cap, rfl, hb, hbl⟩
    exact ⟨k, ad, r.body.length, cap, 0, rfl, ⟨fun _ => ⟨hk, rfl, rfl⟩, (by intro h; cases h)⟩, fun _ => hb, hbl⟩
theorem parseJ (S : Nat → Prop) (own : Bool) (k : Nat) (b : List UInt8) (pv : Value) (w : World) (hk : k < 256) (hb : b.length ≤ 100000) (hv : RepB w S own b pv) :
    Calls Tryz.prog 23 #[.agg #[.int .u8 k, pv]] w fun e w' => ∃ v x rule, e = .returned (.tuple #[v, .int .i64 rule]) ∧ ((rule == 0) = false ∨ (rule = 0 ∧ frameG k b = some x)) ∧ RepR w' (fun b => w.heap.size ≤ b) true x v ∧ Below w.heap.size w w' := by
  cases hx : frameG k b with
  | none =>
    refine (parseN S own k b pv w hk hb hv hx).mono ?_
    rintro e w' ⟨v, rule, rfl, h, hr, hbl⟩
    exact ⟨v, _, rule, rfl, .inl h, hr, hbl⟩
  | some x =>
    refine (parseY S own k b x pv w hk hb hv hx).mono ?_
    rintro e w' ⟨v, rfl, hr, hbl⟩
    exact ⟨v, x, 0, rfl, .inr ⟨rfl, rfl⟩, hr, hbl⟩
end Go.Proofs.YtjedgiiplebofaaGreatDoor
namespace Go.Proofs.YtjedgiiplebofaaGreatDoor
open Go.RowKit Go
set_option linter.unusedVariables false
set_option linter.unusedSimpArgs false
set_option maxHeartbeats 32000000 in
set_option maxRecDepth 100000 in
theorem recordBack_in (Sr So Sf : Nat → Prop) (ownr owno ownf : Bool) (r o : Rec) (kf : Nat) (b : List UInt8) (s : ByteArray) (m0 : Int) (m1 m2 : Nat) (m3 : Option Addr) (m4 m5 : Nat) (m6 : Option Addr) (m7 : Nat) (q0 : Int) (q1 q2 : Nat) (q3 : Option Addr) (q4 q5 : Nat) (q6 : Option Addr) (q7 : Nat) (f8 : Option Addr) (f9 : Nat) (w : World) (hr : RepR w Sr ownr r (.agg #[.int .i64 r.k, .int .u64 r.t, .int .u64 r.x, .int .u64 r.w, .int .u64 r.n, .int .u64 r.v, .int .i64 m0, .int .u64 m1, .int .u64 m2, .slice m3 m4 m5, .slice m6 r.es.length m7])) (ho : RepR w So owno o (.agg #[.int .i64 o.k, .int .u64 o.t, .int .u64 o.x, .int .u64 o.w, .int .u64 o.n, .int .u64 o.v, .int .i64 q0, .int .u64 q1, .int .u64 q2, .slice q3 q4 q5, .slice q6 o.es.length q7])) (hf : RepB w Sf ownf b (.slice f8 b.length f9)) (hkf : kf < 256) (hL : Lq w.heap.size w) (r1 : r.es.length ≤ 60) (r2 : r.p.size ≤ 60) (o1 : o.es.length ≤ 60) (o2 : o.p.size ≤ 60) (b1 : b.length ≤ 400) (s1 : s.size ≤ 300) :
    Calls Tryz.prog 5 #[.agg #[.int .i64 r.k, .int .u64 r.t, .int .u64 r.x, .int .u64 r.w, .int .u64 r.n, .int .u64 r.v, .int .i64 m0, .int .u64 m1, .int .u64 m2, .slice m3 m4 m5, .slice m6 r.es.length m7], .agg #[.int .i64 o.k, .int .u64 o.t, .int .u64 o.x, .int .u64 o.w, .int .u64 o.n, .int .u64 o.v, .int .i64 q0, .int .u64 q1, .int .u64 q2, .slice q3 q4 q5, .slice q6 o.es.length q7], .agg #[.int .u8 kf, .slice f8 b.length f9], .string s] w fun e w' => e = .returned (.bool true) ∧ Below w.heap.size w w' := by
  have HFR : Hid ((decide (r.es.length ≤ 60) && decide (r.p.size ≤ 60)) = true) := Lib.hid (by simp [r1, r2])
  have HFO : Hid ((decide (o.es.length ≤ 60) && decide (o.p.size ≤ 60)) = true) := Lib.hid (by simp [o1, o2])
  have HQB : Hid (decide ((400 : Int) < (b.length : Nat)) = false) := Lib.hid (by simp; omega)
  have HQS : Hid (decide ((300 : Int) < (s.size : Nat)) = false) := Lib.hid (by simp; omega)
  have hnr : r.nums := hr.choose_spec.choose_spec.choose_spec.choose_spec.choose_spec.2.2.2.1
  have hno : o.nums := ho.choose_spec.choose_spec.choose_spec.choose_spec.choose_spec.2.2.2.1
  have HE := Lib.hid (env3 w #[.int .i64 r.k, .int .u64 r.t, .int .u64 r.x, .int .u64 r.w, .int .u64 r.n, .int .u64 r.v, .int .i64 m0, .int .u64 m1, .int .u64 m2, .slice m3 m4 m5, .slice m6 r.es.length m7] #[.int .i64 o.k, .int .u64 o.t, .int .u64 o.x, .int .u64 o.w, .int .u64 o.n, .int .u64 o.v, .int .i64 q0, .int .u64 q1, .int .u64 q2, .slice q3 q4 q5, .slice q6 o.es.length q7] #[.int .u8 kf, .slice f8 b.length f9] 31 31 49 (fun W => RepB W Sf ownf b (.slice f8 b.length f9) ∧ RepR W So owno o (.agg #[.int .i64 o.k, .int .u64 o.t, .int .u64 o.x, .int .u64 o.w, .int .u64 o.n, .int .u64 o.v, .int .i64 q0, .int .u64 q1, .int .u64 q2, .slice q3 q4 q5, .slice q6 o.es.length q7]) ∧ RepR W Sr ownr r (.agg #[.int .i64 r.k, .int .u64 r.t, .int .u64 r.x, .int .u64 r.w, .int .u64 r.n, .int .u64 r.v, .int .i64 m0, .int .u64 m1, .int .u64 m2, .slice m3 m4 m5, .slice m6 r.es.length m7])) (fun _ _ hb h => ⟨stRepB _ _ _ _ _ _ hb h.1, stRepR _ _ _ _ _ _ hb h.2.1, stRepR _ _ _ _ _ _ hb h.2.2⟩) ⟨hf, ho, hr⟩)
  have HL := Lib.hid hL
  have HNN := Lib.hid (And.intro hnr hno)
  clear hr ho hf hL hnr hno
  go_enter Tryz.func5, Tryz.ntmps5
  go_upto_region 1 with fail
  generalize ((w.alloc (.cells #[.int .i64 r.k, .int .u64 r.t, .int .u64 r.x, .int .u64 r.w, .int .u64 r.n, .int .u64 r.v, .int .i64 m0, .int .u64 m1, .int .u64 m2, .slice m3 m4 m5, .slice m6 r.es.length m7] 31)).alloc (.cells #[.int .i64 o.k, .int .u64 o.t, .int .u64 o.x, .int .u64 o.w, .int .u64 o.n, .int .u64 o.v, .int .i64 q0, .int .u64 q1, .int .u64 q2, .slice q3 q4 q5, .slice q6 o.es.length q7] 31)).alloc (.cells #[.int .u8 kf, .slice f8 b.length f9] 49) = W at HE ⊢
  refine wp_region_prs_f (w0 := W) [.eq (.agg #[.int .i64 r.k, .int .u64 r.t, .int .u64 r.x, .int .u64 r.w, .int .u64 r.n, .int .u64 r.v, .int .i64 m0, .int .u64 m1, .int .u64 m2, .slice m3 m4 m5, .slice m6 r.es.length m7]), .eq (.bool true), .eq (.bool false), .eq (.bool false), .eq (.agg #[.int .i64 o.k, .int .u64 o.t, .int .u64 o.x, .int .u64 o.w, .int .u64 o.n, .int .u64 o.v, .int .i64 q0, .int .u64 q1, .int .u64 q2, .slice q3 q4 q5, .slice q6 o.es.length q7]), .eq (.bool true), .eq (.bool false), .eq (.bool false), .eq (.bool false), .eq (.pointer (some ⟨w.heap.size + 2, 1, none⟩)), .eq (.slice f8 b.length f9), .eq (.int .i64 b.length), .eq (.bool false), .eq (.bool false), .eq (.bool false), .eq (.string s), .eq (.int .i64 s.size), .eq (.bool false), .eq (.bool false)] (by kernel_rfl) ⟨?_, ?_, ?_, ?_, ?_, ?_, ?_, ?_, ?_, ?_, ?_, ?_, ?_, ?_, ?_, ?_, ?_, ?_, ?_, trivial⟩ (fun vs => [(24, (.agg #[.int .i64 r.k, .int .u64 r.t, .int .u64 r.x, .int .u64 r.w, .int .u64 r.n, .int .u64 r.v, .int .i64 m0, .int .u64 m1, .int .u64 m2, .slice m3 m4 m5, .slice m6 r.es.length m7])), (25, (.bool true)), (26, (.bool false)), (27, (.bool false)), (28, (.agg #[.int .i64 o.k, .int .u64 o.t, .int .u64 o.x, .int .u64 o.w, .int .u64 o.n, .int .u64 o.v, .int .i64 q0, .int .u64 q1, .int .u64 q2, .slice q3 q4 q5, .slice q6 o.es.length q7])), (29, (.bool true)), (30, (.bool false)), (31, (.bool false)), (32, (.bool false)), (33, (.pointer (some ⟨w.heap.size + 2, 1, none⟩))), (34, (.slice f8 b.length f9)), (35, (.int .i64 b.length)), (36, (.bool false)), (37, (.bool false)), (38, (.bool false)), (39, (.string s)), (40, (.int .i64 s.size)), (41, (.bool false)), (42, (.bool false))]) (fun _ => rfl) ?_
  · refine RStep.mk rfl rfl (fun S a wx K Q hR hK => ?_)
    have t4 : a.tmps[4]? = some (.pointer (some ⟨w.heap.size, 0, none⟩)) := (hR.old 4 (by kernel_rfl)).trans (by kernel_rfl)
    have H := (HE.out.below hR.bel).cell (.tail _ (.tail _ (.head _))); have y0 := H 0; have y1 := H 1; have y2 := H 2; have y3 := H 3; have y4 := H 4; have y5 := H 5; have y6 := H 6; have y7 := H 7; have y8 := H 8; have y9 := H 9; have y10 := H 10; clear H
    go_simp
    exact hK _ _ (Below.refl _ _) rfl
  · refine RStep.mk rfl rfl (fun S a wx K Q hR hK => ?_)
    have t24 := hR.eq 0 (by kernel_rfl) rfl rfl
    go_simp
    go_at_call 25
    refine (docFewRec_any Sr ownr r _ _ (HE.out.below hR.bel).p.2.2).mono ?_
    rintro e w' ⟨rfl, hbx⟩
    rw [HFR.out]
    exact hK _ _ hbx rfl
  · refine RStep.mk rfl rfl (fun S a wx K Q hR hK => ?_)
    have t25 := hR.eq 1 (by kernel_rfl) rfl rfl
    go_simp
    exact hK _ _ (Below.refl _ _) rfl
  · refine RStep.mk rfl rfl (fun S a wx K Q hR hK => ?_)
    have t26 := hR.eq 2 (by kernel_rfl) rfl rfl
    go_simp
    exact hK _ _ (Below.refl _ _) rfl
  · refine RStep.mk rfl rfl (fun S a wx K Q hR hK => ?_)
    have t5 : a.tmps[5]? = some (.pointer (some ⟨w.heap.size + 1, 0, none⟩)) := (hR.old 5 (by kernel_rfl)).trans (by kernel_rfl)
    have H := (HE.out.below hR.bel).cell (.tail _ (.head _)); have y0 := H 0; have y1 := H 1; have y2 := H 2; have y3 := H 3; have y4 := H 4; have y5 := H 5; have y6 := H 6; have y7 := H 7; have y8 := H 8; have y9 := H 9; have y10 := H 10; clear H
    go_simp
    exact hK _ _ (Below.refl _ _) rfl
  · refine RStep.mk rfl rfl (fun S a wx K Q hR hK => ?_)
    have t28 := hR.eq 4 (by kernel_rfl) rfl rfl
    go_simp
    go_at_call 25
    refine (docFewRec_any So owno o _ _ (HE.out.below hR.bel).p.2.1).mono ?_
    rintro e w' ⟨rfl, hbx⟩
    rw [HFO.out]
    exact hK _ _ hbx rfl
  · refine RStep.mk rfl rfl (fun S a wx K Q hR hK => ?_)
    have t29 := hR.eq 5 (by kernel_rfl) rfl rfl
    go_simp
    exact hK _ _ (Below.refl _ _) rfl
  · refine RStep.mk rfl rfl (fun S a wx K Q hR hK => ?_)
    have t27 := hR.eq 3 (by kernel_rfl) rfl rfl
    have t30 := hR.eq 6 (by kernel_rfl) rfl rfl
    go_simp
    exact hK _ _ (Below.refl _ _) rfl
  · refine RStep.mk rfl rfl (fun S a wx K Q hR hK => ?_)
    have t31 := hR.eq 7 (by kernel_rfl) rfl rfl
    go_simp
    exact hK _ _ (Below.refl _ _) rfl
  · refine RStep.mk rfl rfl (fun S a wx K Q hR hK => ?_)
    have t6 : a.tmps[6]? = some (.pointer (some ⟨w.heap.size + 2, 0, none⟩)) := (hR.old 6 (by kernel_rfl)).trans (by kernel_rfl)
    go_simp
    exact hK _ _ (Below.refl _ _) rfl
  · refine RStep.mk rfl rfl (fun S a wx K Q hR hK => ?_)
    have t33 := hR.eq 9 (by kernel_rfl) rfl rfl
    have y0 := (HE.out.below hR.bel).cell (.head _) 1
    go_simp
    exact hK _ _ (Below.refl _ _) rfl
  · refine RStep.mk rfl rfl (fun S a wx K Q hR hK => ?_)
    have t34 := hR.eq 10 (by kernel_rfl) rfl rfl
    go_simp
    exact hK _ _ (Below.refl _ _) rfl
  · refine RStep.mk rfl rfl (fun S a wx K Q hR hK => ?_)
    have t35 := hR.eq 11 (by kernel_rfl) rfl rfl
    have q := HQB.out
    go_simp
    (try go_ints)
    exact hK _ _ (Below.refl _ _) rfl
  · refine RStep.mk rfl rfl (fun S a wx K Q hR hK => ?_)
    have t32 := hR.eq 8 (by kernel_rfl) rfl rfl
    have t36 := hR.eq 12 (by kernel_rfl) rfl rfl
    go_simp
    exact hK _ _ (Below.refl _ _) rfl
  · refine RStep.mk rfl rfl (fun S a wx K Q hR hK => ?_)
    have t37 := hR.eq 13 (by kernel_rfl) rfl rfl
    go_simp
    exact hK _ _ (Below.refl _ _) rfl
  · refine RStep.mk rfl rfl (fun S a wx K Q hR hK => ?_)
    have t3 : a.tmps[3]? = some (.string s) := (hR.old 3 (by kernel_rfl)).trans (by kernel_rfl)
    go_simp
    exact hK _ _ (Below.refl _ _) rfl
  · refine RStep.mk rfl rfl (fun S a wx K Q hR hK => ?_)
    have t39 := hR.eq 15 (by kernel_rfl) rfl rfl
    go_simp
    exact hK _ _ (Below.refl _ _) rfl
  · refine RStep.mk rfl rfl (fun S a wx K Q hR hK => ?_)
    have t40 := hR.eq 16 (by kernel_rfl) rfl rfl
    have q := HQS.out
    go_simp
    (try go_ints)
    exact hK _ _ (Below.refl _ _) rfl
  · refine RStep.mk rfl rfl (fun S a wx K Q hR hK => ?_)
    have t38 := hR.eq 14 (by kernel_rfl) rfl rfl
    have t41 := hR.eq 17 (by kernel_rfl) rfl rfl
    go_simp
    exact hK _ _ (Below.refl _ _) rfl
  intro S1 vs w1 hD
  have HE1 := Lib.hid (HE.out.below hD.bel)
  simp only [putsL, List.foldl_cons, List.foldl_nil]
  clear hD
  go_simp
  go_upto_region 3 with fail
  have H := HE1.out.cell (.tail _ (.tail _ (.head _))); have c2_0 := H 0; have c2_1 := H 1; have c2_2 := H 2; have c2_3 := H 3; have c2_4 := H 4; have c2_5 := H 5; have c2_6 := H 6; have c2_7 := H 7; have c2_8 := H 8; have c2_9 := H 9; have c2_10 := H 10; clear H
  go_wp2_with fail
  refine (putJ Sr ownr r _ _ (by omega) (by omega) (HE1.out.p.2.2)).mono ?_
  rintro e w2 ⟨g, g8, gn, g9, ge, rfl, hg, hbb, hbl⟩
  have HE2 := Lib.hid (HE1.out.below hbl)
  have HE3 := Lib.hid (HE2.out.and (stImp _ _ _ _ _) hbb)
  have HGg := Lib.hid hg
  clear hbl hbb hg c2_0 c2_1 c2_2 c2_3 c2_4 c2_5 c2_6 c2_7 c2_8 c2_9 c2_10
  go_upto_region 4 with fail
  have HE4 := Lib.hid (HE3.out.alloc #[.int .u8 g, .slice g8 gn g9] 49)
  generalize w2.alloc (.cells #[.int .u8 g, .slice g8 gn g9] 49) = X4 at HE4 ⊢
  have H := HE4.out.cell (.tail _ (.tail _ (.head _))); have c2_0 := H 0; have c2_1 := H 1; have c2_2 := H 2; have c2_3 := H 3; have c2_4 := H 4; have c2_5 := H 5; have c2_6 := H 6; have c2_7 := H 7; have c2_8 := H 8; have c2_9 := H 9; have c2_10 := H 10; clear H
  go_wp2_with fail
  refine (putJ So owno o _ _ (by omega) (by omega) (HE4.out.p.2.2.1)).mono ?_
  rintro e w3 ⟨h, h8, hn, h9, he, rfl, hg, hbb, hbl⟩
  have HE5 := Lib.hid (HE4.out.below hbl)
  have HE6 := Lib.hid (HE5.out.and (stImp _ _ _ _ _) hbb)
  have HGh := Lib.hid hg
  clear hbl hbb hg c2_0 c2_1 c2_2 c2_3 c2_4 c2_5 c2_6 c2_7 c2_8 c2_9 c2_10
  go_upto_region 5 with fail
  have HE7 := Lib.hid (HE6.out.alloc #[.int .u8 h, .slice h8 hn h9] 49)
  generalize w3.alloc (.cells #[.int .u8 h, .slice h8 hn h9] 49) = X7 at HE7 ⊢
  go_upto_if 55 with fail
  go_cut [] from 13 (fun wx => Below X7.heap.size X7 wx)
  case first =>
    cases hyr : r.right with
    | false =>
      have hge := HGg.out.2 hyr
      subst hge
      go_wp2_with fail
      go_meet
      exact Below.refl _ _
    | true =>
      obtain ⟨hk, hn, hge⟩ := HGg.out.1 hyr
      subst hn hge
      have HRO := Lib.hid (And.intro hyr hk)
      clear hyr hk
      have HL8 := Lib.hid ((HL.out.below HE7.out.bel).mono HE7.out.bel.size)
      clear HL
      have HL := HL8
      have HE8 := Lib.hid HE7.out.rebase
      go_upto_region 6 with fail
      have c1_0 := HE8.out.cell (.tail _ (.head _)) 0
      have c1_1 := HE8.out.cell (.tail _ (.head _)) 1
      go_wp2_with fail
      refine (parseY _ _ g r.body r _ _ (by have := (Rec.right_iff r).1 HRO.out.1; have := this.2.1; have := HRO.out.2; omega) (by have := body_small r2 r1; omega) (HE8.out.p.2.1 HRO.out.1) (put_back HRO.out.1 HNN.out.1 r1 HRO.out.2)).mono ?_
      rintro e w4 ⟨v4, rfl, hrr, hbl⟩
      obtain ⟨x0, x1, x2, x3, x4, x5, x6, x7, rfl, _⟩ := hrr.conc
      have HE9 := Lib.hid (HE8.out.below hbl)
      have HE10 := Lib.hid (HE9.out.and (stRepR _ _ _ _) hrr)
      clear hrr hbl c1_0 c1_1
      go_upto_region 7 with fail
      have HE11 := Lib.hid (HE10.out.alloc #[.int .i64 r.k, .int .u64 r.t, .int .u64 r.x, .int .u64 r.w, .int .u64 r.n, .int .u64 r.v, .int .i64 x0, .int .u64 x1, .int .u64 x2, .slice x3 x4 x5, .slice x6 r.es.length x7] 31)
      generalize w4.alloc (.cells #[.int .i64 r.k, .int .u64 r.t, .int .u64 r.x, .int .u64 r.w, .int .u64 r.n, .int .u64 r.v, .int .i64 x0, .int .u64 x1, .int .u64 x2, .slice x3 x4 x5, .slice x6 r.es.length x7] 31) = X11 at HE11 ⊢
      have H := HE11.out.cell (.tail _ (.tail _ (.tail _ (.tail _ (.tail _ (.head _)))))); have c5_0 := H 0; have c5_1 := H 1; have c5_2 := H 2; have c5_3 := H 3; have c5_4 := H 4; have c5_5 := H 5; have c5_6 := H 6; have c5_7 := H 7; have c5_8 := H 8; have c5_9 := H 9; have c5_10 := H 10; clear H
      go_wp2_with fail
      refine (recText_any Sr ownr r _ _ (by omega) (by omega) (HE11.out.p.2.2.2.2.2) ((HL.out.below HE11.out.bel).mono HE11.out.bel.size).lv).mono ?_
      rintro e w5 ⟨rfl, hbl⟩
      have HE12 := Lib.hid (HE11.out.below hbl)
      obtain ⟨TRx, hTR⟩ : ∃ TRx : ByteArray, TRx = ⟨r.text.toArray⟩ := ⟨_, rfl⟩
      have HTR := Lib.hid hTR
      rw [← hTR]
      have hsz : TRx.size ≤ 50000 := by rw [hTR, ← ba_size]; have := text_small HNN.out.1 r2 r1; simp; omega
      have hly : lineB TRx.data.toList = some r := by rw [hTR]; simpa using line_back HRO.out.1 HNN.out.1
      clear hbl hTR c5_0 c5_1 c5_2 c5_3 c5_4 c5_5 c5_6 c5_7 c5_8 c5_9 c5_10
      go_wp2_with fail
      refine (lineY TRx r _ hsz ((HL.out.below HE12.out.bel).mono HE12.out.bel.size) hly).mono ?_
      rintro e w6 ⟨v6, rfl, hrr, hbl⟩
      obtain ⟨y0, y1, y2, y3, y4, y5, y6, y7, rfl, _⟩ := hrr.conc
      have HE13 := Lib.hid (HE12.out.below hbl)
      have HE14 := Lib.hid (HE13.out.and (stRepR _ _ _ _) hrr)
      clear hrr hbl hsz hly
      go_upto_region 8 with fail
      have HE15 := Lib.hid (HE14.out.alloc #[.int .i64 r.k, .int .u64 r.t, .int .u64 r.x, .int .u64 r.w, .int .u64 r.n, .int .u64 r.v, .int .i64 y0, .int .u64 y1, .int .u64 y2, .slice y3 y4 y5, .slice y6 r.es.length y7] 31)
      generalize w6.alloc (.cells #[.int .i64 r.k, .int .u64 r.t, .int .u64 r.x, .int .u64 r.w, .int .u64 r.n, .int .u64 r.v, .int .i64 y0, .int .u64 y1, .int .u64 y2, .slice y3 y4 y5, .slice y6 r.es.length y7] 31) = X15 at HE15 ⊢
      refine wp_region_prs_f (w0 := X15) [.eq (.int .i64 0), .eq (.bool false), .eq (.bool false), .eq (.agg #[.int .i64 r.k, .int .u64 r.t, .int .u64 r.x, .int .u64 r.w, .int .u64 r.n, .int .u64 r.v, .int .i64 x0, .int .u64 x1, .int .u64 x2, .slice x3 x4 x5, .slice x6 r.es.length x7]), .eq (.agg #[.int .i64 r.k, .int .u64 r.t, .int .u64 r.x, .int .u64 r.w, .int .u64 r.n, .int .u64 r.v, .int .i64 m0, .int .u64 m1, .int .u64 m2, .slice m3 m4 m5, .slice m6 r.es.length m7]), .eq (.bool true), .eq (.bool false), .eq (.bool false), .eq (.bool false), .eq (.int .i64 0), .eq (.bool false), .eq (.bool false), .eq (.bool false), .eq (.agg #[.int .i64 r.k, .int .u64 r.t, .int .u64 r.x, .int .u64 r.w, .int .u64 r.n, .int .u64 r.v, .int .i64 y0, .int .u64 y1, .int .u64 y2, .slice y3 y4 y5, .slice y6 r.es.length y7]), .eq (.agg #[.int .i64 r.k, .int .u64 r.t, .int .u64 r.x, .int .u64 r.w, .int .u64 r.n, .int .u64 r.v, .int .i64 m0, .int .u64 m1, .int .u64 m2, .slice m3 m4 m5, .slice m6 r.es.length m7]), .eq (.bool true), .eq (.bool false), .eq (.bool false)] (by kernel_rfl) ⟨?_, ?_, ?_, ?_, ?_, ?_, ?_, ?_, ?_, ?_, ?_, ?_, ?_, ?_, ?_, ?_, ?_, ?_, trivial⟩ (fun vs => [(67, (.int .i64 0)), (68, (.bool false)), (69, (.bool false)), (70, (.agg #[.int .i64 r.k, .int .u64 r.t, .int .u64 r.x, .int .u64 r.w, .int .u64 r.n, .int .u64 r.v, .int .i64 x0, .int .u64 x1, .int .u64 x2, .slice x3 x4 x5, .slice x6 r.es.length x7])), (71, (.agg #[.int .i64 r.k, .int .u64 r.t, .int .u64 r.x, .int .u64 r.w, .int .u64 r.n, .int .u64 r.v, .int .i64 m0, .int .u64 m1, .int .u64 m2, .slice m3 m4 m5, .slice m6 r.es.length m7])), (72, (.bool true)), (73, (.bool false)), (74, (.bool false)), (75, (.bool false)), (76, (.int .i64 0)), (77, (.bool false)), (78, (.bool false)), (79, (.bool false)), (80, (.agg #[.int .i64 r.k, .int .u64 r.t, .int .u64 r.x, .int .u64 r.w, .int .u64 r.n, .int .u64 r.v, .int .i64 y0, .int .u64 y1, .int .u64 y2, .slice y3 y4 y5, .slice y6 r.es.length y7])), (81, (.agg #[.int .i64 r.k, .int .u64 r.t, .int .u64 r.x, .int .u64 r.w, .int .u64 r.n, .int .u64 r.v, .int .i64 m0, .int .u64 m1, .int .u64 m2, .slice m3 m4 m5, .slice m6 r.es.length m7])), (82, (.bool true)), (83, (.bool false)), (84, (.bool false))]) (fun _ => rfl) ?_
      · refine RStep.mk rfl rfl (fun S a wx K Q hR hK => ?_)
        have t14 : a.tmps[14]? = some (.int .i64 0) := (hR.old 14 (by kernel_rfl)).trans (by kernel_rfl)
        go_simp
        exact hK _ _ (Below.refl _ _) rfl
      · refine RStep.mk rfl rfl (fun S a wx K Q hR hK => ?_)
        have t67 := hR.eq 0 (by kernel_rfl) rfl rfl
        go_simp
        (try go_ints)
        exact hK _ _ (Below.refl _ _) rfl
      · refine RStep.mk rfl rfl (fun S a wx K Q hR hK => ?_)
        have t68 := hR.eq 1 (by kernel_rfl) rfl rfl
        go_simp
        exact hK _ _ (Below.refl _ _) rfl
      · refine RStep.mk rfl rfl (fun S a wx K Q hR hK => ?_)
        have t13 : a.tmps[13]? = some (.pointer (some ⟨w4.heap.size, 0, none⟩)) := (hR.old 13 (by kernel_rfl)).trans (by kernel_rfl)
        have H := (HE15.out.below hR.bel).cell (.tail _ (.head _)); have y0 := H 0; have y1 := H 1; have y2 := H 2; have y3 := H 3; have y4 := H 4; have y5 := H 5; have y6 := H 6; have y7 := H 7; have y8 := H 8; have y9 := H 9; have y10 := H 10; clear H
        go_simp
        exact hK _ _ (Below.refl _ _) rfl
      · refine RStep.mk rfl rfl (fun S a wx K Q hR hK => ?_)
        have t4 : a.tmps[4]? = some (.pointer (some ⟨w.heap.size, 0, none⟩)) := (hR.old 4 (by kernel_rfl)).trans (by kernel_rfl)
        have H := (HE15.out.below hR.bel).cell (.tail _ (.tail _ (.tail _ (.tail _ (.tail _ (.tail _ (.head _))))))); have y0 := H 0; have y1 := H 1; have y2 := H 2; have y3 := H 3; have y4 := H 4; have y5 := H 5; have y6 := H 6; have y7 := H 7; have y8 := H 8; have y9 := H 9; have y10 := H 10; clear H
        go_simp
        exact hK _ _ (Below.refl _ _) rfl
      · refine RStep.mk rfl rfl (fun S a wx K Q hR hK => ?_)
        have t70 := hR.eq 3 (by kernel_rfl) rfl rfl
        have t71 := hR.eq 4 (by kernel_rfl) rfl rfl
        go_simp
        go_at_call 28
        refine (recSame_any _ Sr true ownr r r _ _ _ ((HE15.out.below hR.bel).p.2.1) ((HE15.out.below hR.bel).p.2.2.2.2.2.2)).mono ?_
        rintro e w' ⟨rfl, hbx⟩
        rw [Rec.same_refl]
        exact hK _ _ hbx rfl
      · refine RStep.mk rfl rfl (fun S a wx K Q hR hK => ?_)
        have t72 := hR.eq 5 (by kernel_rfl) rfl rfl
        go_simp
        exact hK _ _ (Below.refl _ _) rfl
      · refine RStep.mk rfl rfl (fun S a wx K Q hR hK => ?_)
        have t69 := hR.eq 2 (by kernel_rfl) rfl rfl
        have t73 := hR.eq 6 (by kernel_rfl) rfl rfl
        go_simp
        exact hK _ _ (Below.refl _ _) rfl
      · refine RStep.mk rfl rfl (fun S a wx K Q hR hK => ?_)
        have t74 := hR.eq 7 (by kernel_rfl) rfl rfl
        go_simp
        exact hK _ _ (Below.refl _ _) rfl
      · refine RStep.mk rfl rfl (fun S a wx K Q hR hK => ?_)
        have t16 : a.tmps[16]? = some (.int .i64 0) := (hR.old 16 (by kernel_rfl)).trans (by kernel_rfl)
        go_simp
        exact hK _ _ (Below.refl _ _) rfl
      · refine RStep.mk rfl rfl (fun S a wx K Q hR hK => ?_)
        have t76 := hR.eq 9 (by kernel_rfl) rfl rfl
        go_simp
        (try go_ints)
        exact hK _ _ (Below.refl _ _) rfl
      · refine RStep.mk rfl rfl (fun S a wx K Q hR hK => ?_)
        have t75 := hR.eq 8 (by kernel_rfl) rfl rfl
        have t77 := hR.eq 10 (by kernel_rfl) rfl rfl
        go_simp
        exact hK _ _ (Below.refl _ _) rfl
      · refine RStep.mk rfl rfl (fun S a wx K Q hR hK => ?_)
        have t78 := hR.eq 11 (by kernel_rfl) rfl rfl
        go_simp
        exact hK _ _ (Below.refl _ _) rfl
      · refine RStep.mk rfl rfl (fun S a wx K Q hR hK => ?_)
        have t15 : a.tmps[15]? = some (.pointer (some ⟨w6.heap.size, 0, none⟩)) := (hR.old 15 (by kernel_rfl)).trans (by kernel_rfl)
        have H := (HE15.out.below hR.bel).cell (.head _); have y0 := H 0; have y1 := H 1; have y2 := H 2; have y3 := H 3; have y4 := H 4; have y5 := H 5; have y6 := H 6; have y7 := H 7; have y8 := H 8; have y9 := H 9; have y10 := H 10; clear H
        go_simp
        exact hK _ _ (Below.refl _ _) rfl
      · refine RStep.mk rfl rfl (fun S a wx K Q hR hK => ?_)
        have t4 : a.tmps[4]? = some (.pointer (some ⟨w.heap.size, 0, none⟩)) := (hR.old 4 (by kernel_rfl)).trans (by kernel_rfl)
        have H := (HE15.out.below hR.bel).cell (.tail _ (.tail _ (.tail _ (.tail _ (.tail _ (.tail _ (.head _))))))); have y0 := H 0; have y1 := H 1; have y2 := H 2; have y3 := H 3; have y4 := H 4; have y5 := H 5; have y6 := H 6; have y7 := H 7; have y8 := H 8; have y9 := H 9; have y10 := H 10; clear H
        go_simp
        exact hK _ _ (Below.refl _ _) rfl
      · refine RStep.mk rfl rfl (fun S a wx K Q hR hK => ?_)
        have t80 := hR.eq 13 (by kernel_rfl) rfl rfl
        have t81 := hR.eq 14 (by kernel_rfl) rfl rfl
        go_simp
        go_at_call 28
        refine (recSame_any _ Sr true ownr r r _ _ _ ((HE15.out.below hR.bel).p.1) ((HE15.out.below hR.bel).p.2.2.2.2.2.2)).mono ?_
        rintro e w' ⟨rfl, hbx⟩
        rw [Rec.same_refl]
        exact hK _ _ hbx rfl
      · refine RStep.mk rfl rfl (fun S a wx K Q hR hK => ?_)
        have t82 := hR.eq 15 (by kernel_rfl) rfl rfl
        go_simp
        exact hK _ _ (Below.refl _ _) rfl
      · refine RStep.mk rfl rfl (fun S a wx K Q hR hK => ?_)
        have t79 := hR.eq 12 (by kernel_rfl) rfl rfl
        have t83 := hR.eq 16 (by kernel_rfl) rfl rfl
        go_simp
        exact hK _ _ (Below.refl _ _) rfl
      intro S1 vs w7 hD
      have HE16 := Lib.hid (HE15.out.below hD.bel)
      simp only [putsL, List.foldl_cons, List.foldl_nil]
      clear hD
      go_simp
      go_wp2_with fail
      go_meet
      exact HE16.out.bel
  have HE8 := Lib.hid (HE7.out.below hcut)
  clear hcut
  go_upto_region 10 with fail
  obtain ⟨c, hc⟩ : ∃ c, c = (r.right && o.right) := ⟨_, rfl⟩
  have HC := Lib.hid hc
  clear hc
  go_cut [90] from 13 (fun v wx => v = .bool c ∧ wx = wc)
  case first =>
    cases hyr : r.right with
    | false =>
      have hge := HGg.out.2 hyr
      subst hge
      go_wp2_with fail
      go_meet
      exact ⟨by rw [HC.out, hyr]; rfl, rfl⟩
    | true =>
      have hge := (HGg.out.1 hyr).2.2
      subst hge
      cases hyo : o.right with
      | false =>
        have hge := HGh.out.2 hyo
        subst hge
        go_wp2_with fail
        go_meet
        exact ⟨by rw [HC.out, hyr, hyo]; rfl, rfl⟩
      | true =>
        have hge := (HGh.out.1 hyo).2.2
        subst hge
        go_wp2_with fail
        go_meet
        exact ⟨by rw [HC.out, hyr, hyo]; rfl, rfl⟩
  obtain ⟨rfl, rfl⟩ := hcut
  go_upto_if 90 with fail
  have hX := Below.refl wc.heap.size wc
  go_cut [] from 13 (fun wx => Below wc.heap.size wc wx)
  case first =>
    cases c with
    | false =>
      go_wp2_with fail
      go_meet
      exact Below.refl _ _
    | true =>
      have hc := HC.out.symm
      simp only [Bool.and_eq_true] at hc
      obtain ⟨hyr, hyo⟩ := hc
      obtain ⟨hk, hn, hge⟩ := HGg.out.1 hyr
      subst hn hge
      obtain ⟨hk2, hn, hge⟩ := HGh.out.1 hyo
      subst hn hge
      have HRO := Lib.hid (And.intro hyr (And.intro hyo (And.intro hk hk2)))
      clear hyr hyo hk hk2
      have HL9 := Lib.hid ((HL.out.below HE8.out.bel).mono HE8.out.bel.size)
      clear HL
      have HL := HL9
      have HE9 := Lib.hid HE8.out.rebase
      go_upto_region 11 with fail
      have H := HE9.out.cell (.tail _ (.tail _ (.tail _ (.tail _ (.head _))))); have c4_0 := H 0; have c4_1 := H 1; have c4_2 := H 2; have c4_3 := H 3; have c4_4 := H 4; have c4_5 := H 5; have c4_6 := H 6; have c4_7 := H 7; have c4_8 := H 8; have c4_9 := H 9; have c4_10 := H 10; clear H
      have H := HE9.out.cell (.tail _ (.tail _ (.tail _ (.head _)))); have c3_0 := H 0; have c3_1 := H 1; have c3_2 := H 2; have c3_3 := H 3; have c3_4 := H 4; have c3_5 := H 5; have c3_6 := H 6; have c3_7 := H 7; have c3_8 := H 8; have c3_9 := H 9; have c3_10 := H 10; clear H
      go_wp2_with fail
      refine (recSame_any Sr So ownr owno r o _ _ _ (HE9.out.p.2.2.2.2) (HE9.out.p.2.2.2.1)).mono ?_
      rintro e w8 ⟨rfl, hbl⟩
      have HE10 := Lib.hid (HE9.out.below hbl)
      obtain ⟨sm, hsm⟩ : ∃ sm, sm = r.same o := ⟨_, rfl⟩
      have HSM := Lib.hid hsm
      rw [← hsm]
      obtain ⟨TRr, hTRr⟩ : ∃ TRr : ByteArray, TRr = ⟨r.text.toArray⟩ := ⟨_, rfl⟩
      obtain ⟨TRo, hTRo⟩ : ∃ TRo : ByteArray, TRo = ⟨o.text.toArray⟩ := ⟨_, rfl⟩
      have hte : (TRr.toList == TRo.toList) = sm := by
        rw [hTRr, hTRo, hsm, ← text_inj2 HRO.out.1 HRO.out.2.1 HNN.out.1 HNN.out.2, ByteArray.toList_eq, ByteArray.toList_eq, Bool.eq_iff_iff]
        simp
      have HTE := Lib.hid (And.intro hte (And.intro hTRr hTRo))
      clear hbl hsm hte hTRr hTRo c4_0 c4_1 c4_2 c4_3 c4_4 c4_5 c4_6 c4_7 c4_8 c4_9 c4_10 c3_0 c3_1 c3_2 c3_3 c3_4 c3_5 c3_6 c3_7 c3_8 c3_9 c3_10
      go_upto_region 12 with fail
      refine wp_region_prs (w0 := w8) rfl [.eq (.agg #[.int .u8 g, .slice g8 r.body.length g9]), .eq (.agg #[.int .u8 h, .slice h8 o.body.length h9]), .eq (.bool sm), .eq (.bool sm), .eq (.bool false), .eq (.bool false), .eq (.agg #[.int .i64 r.k, .int .u64 r.t, .int .u64 r.x, .int .u64 r.w, .int .u64 r.n, .int .u64 r.v, .int .i64 m0, .int .u64 m1, .int .u64 m2, .slice m3 m4 m5, .slice m6 r.es.length m7]), .eq (.string TRr), .eq (.agg #[.int .i64 o.k, .int .u64 o.t, .int .u64 o.x, .int .u64 o.w, .int .u64 o.n, .int .u64 o.v, .int .i64 q0, .int .u64 q1, .int .u64 q2, .slice q3 q4 q5, .slice q6 o.es.length q7]), .eq (.string TRo), .eq (.bool sm), .eq (.bool sm), .eq (.bool false), .eq (.bool false)] (by kernel_rfl) ⟨?_, ?_, ?_, ?_, ?_, ?_, ?_, ?_, ?_, ?_, ?_, ?_, ?_, ?_, trivial⟩ (fun vs => [(94, (.agg #[.int .u8 g, .slice g8 r.body.length g9])), (95, (.agg #[.int .u8 h, .slice h8 o.body.length h9])), (96, (.bool sm)), (97, (.bool sm)), (98, (.bool false)), (99, (.bool false)), (100, (.agg #[.int .i64 r.k, .int .u64 r.t, .int .u64 r.x, .int .u64 r.w, .int .u64 r.n, .int .u64 r.v, .int .i64 m0, .int .u64 m1, .int .u64 m2, .slice m3 m4 m5, .slice m6 r.es.length m7])), (101, (.string TRr)), (102, (.agg #[.int .i64 o.k, .int .u64 o.t, .int .u64 o.x, .int .u64 o.w, .int .u64 o.n, .int .u64 o.v, .int .i64 q0, .int .u64 q1, .int .u64 q2, .slice q3 q4 q5, .slice q6 o.es.length q7])), (103, (.string TRo)), (104, (.bool sm)), (105, (.bool sm)), (106, (.bool false)), (107, (.bool false))]) (fun _ => rfl) ?_
      · refine RStep.mk rfl rfl (fun S a wx K Q hR hK => ?_)
        have t9 : a.tmps[9]? = some (.pointer (some ⟨w2.heap.size, 0, none⟩)) := (hR.old 9 (by kernel_rfl)).trans (by kernel_rfl)
        have y0 := (HE10.out.below hR.bel).cell (.tail _ (.head _)) 0
        have y1 := (HE10.out.below hR.bel).cell (.tail _ (.head _)) 1
        go_simp
        exact hK _ _ (Below.refl _ _) rfl
      · refine RStep.mk rfl rfl (fun S a wx K Q hR hK => ?_)
        have t11 : a.tmps[11]? = some (.pointer (some ⟨w3.heap.size, 0, none⟩)) := (hR.old 11 (by kernel_rfl)).trans (by kernel_rfl)
        have y0 := (HE10.out.below hR.bel).cell (.head _) 0
        have y1 := (HE10.out.below hR.bel).cell (.head _) 1
        go_simp
        exact hK _ _ (Below.refl _ _) rfl
      · refine RStep.mk rfl rfl (fun S a wx K Q hR hK => ?_)
        have t94 := hR.eq 0 (by kernel_rfl) rfl rfl
        have t95 := hR.eq 1 (by kernel_rfl) rfl rfl
        go_simp
        go_at_call 29
        refine (frameSame_any _ _ true true g h r.body o.body _ _ _ ((HE10.out.below hR.bel).p.2.1 HRO.out.1) ((HE10.out.below hR.bel).p.1 HRO.out.2.1)).mono ?_
        rintro e w' ⟨rfl, hbx⟩
        rw [body_inj HRO.out.1 HRO.out.2.1 HNN.out.1 HNN.out.2 r1 o1 HRO.out.2.2.1 HRO.out.2.2.2, ← HSM.out]
        exact hK _ _ hbx rfl
      · refine RStep.mk rfl rfl (fun S a wx K Q hR hK => ?_)
        have t17 : a.tmps[17]? = some (.bool sm) := (hR.old 17 (by kernel_rfl)).trans (by kernel_rfl)
        go_simp
        exact hK _ _ (Below.refl _ _) rfl
      · refine RStep.mk rfl rfl (fun S a wx K Q hR hK => ?_)
        have t96 := hR.eq 2 (by kernel_rfl) rfl rfl
        have t97 := hR.eq 3 (by kernel_rfl) rfl rfl
        go_simp
        (try go_ints)
        exact hK _ _ (Below.refl _ _) rfl
      · refine RStep.mk rfl rfl (fun S a wx K Q hR hK => ?_)
        have t98 := hR.eq 4 (by kernel_rfl) rfl rfl
        go_simp
        exact hK _ _ (Below.refl _ _) rfl
      · refine RStep.mk rfl rfl (fun S a wx K Q hR hK => ?_)
        have t4 : a.tmps[4]? = some (.pointer (some ⟨w.heap.size, 0, none⟩)) := (hR.old 4 (by kernel_rfl)).trans (by kernel_rfl)
        have H := (HE10.out.below hR.bel).cell (.tail _ (.tail _ (.tail _ (.tail _ (.head _))))); have y0 := H 0; have y1 := H 1; have y2 := H 2; have y3 := H 3; have y4 := H 4; have y5 := H 5; have y6 := H 6; have y7 := H 7; have y8 := H 8; have y9 := H 9; have y10 := H 10; clear H
        go_simp
        exact hK _ _ (Below.refl _ _) rfl
      · refine RStep.mk rfl rfl (fun S a wx K Q hR hK => ?_)
        have t100 := hR.eq 6 (by kernel_rfl) rfl rfl
        go_simp
        go_at_call 27
        refine (recText_any Sr ownr r _ _ (by omega) (by omega) ((HE10.out.below hR.bel).p.2.2.2.2) ((HL.out.below (HE10.out.below hR.bel).bel).mono (HE10.out.below hR.bel).bel.size).lv).mono ?_
        rintro e w' ⟨rfl, hbx⟩
        rw [← HTE.out.2.1]
        exact hK _ _ hbx rfl
      · refine RStep.mk rfl rfl (fun S a wx K Q hR hK => ?_)
        have t5 : a.tmps[5]? = some (.pointer (some ⟨w.heap.size + 1, 0, none⟩)) := (hR.old 5 (by kernel_rfl)).trans (by kernel_rfl)
        have H := (HE10.out.below hR.bel).cell (.tail _ (.tail _ (.tail _ (.head _)))); have y0 := H 0; have y1 := H 1; have y2 := H 2; have y3 := H 3; have y4 := H 4; have y5 := H 5; have y6 := H 6; have y7 := H 7; have y8 := H 8; have y9 := H 9; have y10 := H 10; clear H
        go_simp
        exact hK _ _ (Below.refl _ _) rfl
      · refine RStep.mk rfl rfl (fun S a wx K Q hR hK => ?_)
        have t102 := hR.eq 8 (by kernel_rfl) rfl rfl
        go_simp
        go_at_call 27
        refine (recText_any So owno o _ _ (by omega) (by omega) ((HE10.out.below hR.bel).p.2.2.2.1) ((HL.out.below (HE10.out.below hR.bel).bel).mono (HE10.out.below hR.bel).bel.size).lv).mono ?_
        rintro e w' ⟨rfl, hbx⟩
        rw [← HTE.out.2.2]
        exact hK _ _ hbx rfl
      · refine RStep.mk rfl rfl (fun S a wx K Q hR hK => ?_)
        have t101 := hR.eq 7 (by kernel_rfl) rfl rfl
        have t103 := hR.eq 9 (by kernel_rfl) rfl rfl
        have q := HTE.out.1
        go_simp
        (try go_ints)
        exact hK _ _ (Below.refl _ _) rfl
      · refine RStep.mk rfl rfl (fun S a wx K Q hR hK => ?_)
        have t17 : a.tmps[17]? = some (.bool sm) := (hR.old 17 (by kernel_rfl)).trans (by kernel_rfl)
        go_simp
        exact hK _ _ (Below.refl _ _) rfl
      · refine RStep.mk rfl rfl (fun S a wx K Q hR hK => ?_)
        have t104 := hR.eq 10 (by kernel_rfl) rfl rfl
        have t105 := hR.eq 11 (by kernel_rfl) rfl rfl
        go_simp
        (try go_ints)
        exact hK _ _ (Below.refl _ _) rfl
      · refine RStep.mk rfl rfl (fun S a wx K Q hR hK => ?_)
        have t99 := hR.eq 5 (by kernel_rfl) rfl rfl
        have t106 := hR.eq 12 (by kernel_rfl) rfl rfl
        go_simp
        exact hK _ _ (Below.refl _ _) rfl
      intro S1 vs w9 hD
      have HE11 := Lib.hid (HE10.out.below hD.bel)
      simp only [putsL, List.foldl_cons, List.foldl_nil]
      clear hD
      go_simp
      go_wp2_with fail
      go_meet
      exact HE11.out.bel
  have HE9 := Lib.hid (HE8.out.below hcut)
  clear hcut
  go_upto_region 14 with fail
  have c2_0 := HE9.out.cell (.tail _ (.tail _ (.head _))) 0
  have c2_1 := HE9.out.cell (.tail _ (.tail _ (.head _))) 1
  go_wp2_with fail
  refine (parseJ _ _ kf b _ _ hkf (by omega) (HE9.out.p.2.2.1)).mono ?_
  rintro e w10 ⟨v10, xz, rule, rfl, hrule, hrr, hbl⟩
  have HRU := Lib.hid hrule
  clear hrule
  obtain ⟨z0, z1, z2, z3, z4, z5, z6, z7, rfl, _⟩ := hrr.conc
  have HE10 := Lib.hid (HE9.out.below hbl)
  have HE11 := Lib.hid (HE10.out.and (stRepR _ _ _ _) hrr)
  clear hrr hbl c2_0 c2_1
  go_upto_region 15 with fail
  have HE12 := Lib.hid (HE11.out.alloc #[.int .i64 xz.k, .int .u64 xz.t, .int .u64 xz.x, .int .u64 xz.w, .int .u64 xz.n, .int .u64 xz.v, .int .i64 z0, .int .u64 z1, .int .u64 z2, .slice z3 z4 z5, .slice z6 xz.es.length z7] 31)
  generalize w10.alloc (.cells #[.int .i64 xz.k, .int .u64 xz.t, .int .u64 xz.x, .int .u64 xz.w, .int .u64 xz.n, .int .u64 xz.v, .int .i64 z0, .int .u64 z1, .int .u64 z2, .slice z3 z4 z5, .slice z6 xz.es.length z7] 31) = X12 at HE12 ⊢
  go_upto_if 114 with fail
  go_cut [] from 20 (fun wx => Below X12.heap.size X12 wx)
  case first =>
    rcases HRU.out with hru | ⟨rfl, hfx⟩
    · go_wp2_with fail
      go_meet
      exact Below.refl _ _
    have hxx := frame_back hfx
    have hxs := frame_small hfx
    have HXX := Lib.hid hxx
    clear hxx hfx HRU
    have HL13 := Lib.hid ((HL.out.below HE12.out.bel).mono HE12.out.bel.size)
    clear HL
    have HL := HL13
    have HE13 := Lib.hid HE12.out.rebase
    go_upto_region 16 with fail
    have H := HE13.out.cell (.head _); have c0_0 := H 0; have c0_1 := H 1; have c0_2 := H 2; have c0_3 := H 3; have c0_4 := H 4; have c0_5 := H 5; have c0_6 := H 6; have c0_7 := H 7; have c0_8 := H 8; have c0_9 := H 9; have c0_10 := H 10; clear H
    go_wp2_with fail
    refine (putY _ _ xz kf _ _ (by omega) (by omega) (HE13.out.p.1) HXX.out.1 HXX.out.2.2.1).mono ?_
    rintro e w11 ⟨k8, k9, rfl, hbb, hbl⟩
    have HE14 := Lib.hid (HE13.out.below hbl)
    have HE15 := Lib.hid (HE14.out.and (stRepB _ _ _ _) hbb)
    clear hbb hbl c0_0 c0_1 c0_2 c0_3 c0_4 c0_5 c0_6 c0_7 c0_8 c0_9 c0_10
    go_upto_region 17 with fail
    have HE16 := Lib.hid (HE15.out.alloc #[.int .u8 kf, .slice k8 xz.body.length k9] 49)
    generalize w11.alloc (.cells #[.int .u8 kf, .slice k8 xz.body.length k9] 49) = X16 at HE16 ⊢
    refine wp_region_prs_f (w0 := X16) [.eq (.int .i64 0), .eq (.bool false), .eq (.bool false), .eq (.agg #[.int .u8 kf, .slice k8 xz.body.length k9]), .eq (.agg #[.int .u8 kf, .slice f8 b.length f9]), .eq (.bool true), .eq (.bool false), .eq (.bool false), .eq (.bool false), .eq (.agg #[.int .i64 xz.k, .int .u64 xz.t, .int .u64 xz.x, .int .u64 xz.w, .int .u64 xz.n, .int .u64 xz.v, .int .i64 z0, .int .u64 z1, .int .u64 z2, .slice z3 z4 z5, .slice z6 xz.es.length z7]), .eq (.bool true), .eq (.bool false), .eq (.bool false)] (by kernel_rfl) ⟨?_, ?_, ?_, ?_, ?_, ?_, ?_, ?_, ?_, ?_, ?_, ?_, ?_, trivial⟩ (fun vs => [(120, (.int .i64 0)), (121, (.bool false)), (122, (.bool false)), (123, (.agg #[.int .u8 kf, .slice k8 xz.body.length k9])), (124, (.agg #[.int .u8 kf, .slice f8 b.length f9])), (125, (.bool true)), (126, (.bool false)), (127, (.bool false)), (128, (.bool false)), (129, (.agg #[.int .i64 xz.k, .int .u64 xz.t, .int .u64 xz.x, .int .u64 xz.w, .int .u64 xz.n, .int .u64 xz.v, .int .i64 z0, .int .u64 z1, .int .u64 z2, .slice z3 z4 z5, .slice z6 xz.es.length z7])), (130, (.bool true)), (131, (.bool false)), (132, (.bool false))]) (fun _ => rfl) ?_
    · refine RStep.mk rfl rfl (fun S a wx K Q hR hK => ?_)
      have t21 : a.tmps[21]? = some (.int .i64 0) := (hR.old 21 (by kernel_rfl)).trans (by kernel_rfl)
      go_simp
      exact hK _ _ (Below.refl _ _) rfl
    · refine RStep.mk rfl rfl (fun S a wx K Q hR hK => ?_)
      have t120 := hR.eq 0 (by kernel_rfl) rfl rfl
      go_simp
      (try go_ints)
      exact hK _ _ (Below.refl _ _) rfl
    · refine RStep.mk rfl rfl (fun S a wx K Q hR hK => ?_)
      have t121 := hR.eq 1 (by kernel_rfl) rfl rfl
      go_simp
      exact hK _ _ (Below.refl _ _) rfl
    · refine RStep.mk rfl rfl (fun S a wx K Q hR hK => ?_)
      have t20 : a.tmps[20]? = some (.pointer (some ⟨w11.heap.size, 0, none⟩)) := (hR.old 20 (by kernel_rfl)).trans (by kernel_rfl)
      have y0 := (HE16.out.below hR.bel).cell (.head _) 0
      have y1 := (HE16.out.below hR.bel).cell (.head _) 1
      go_simp
      exact hK _ _ (Below.refl _ _) rfl
    · refine RStep.mk rfl rfl (fun S a wx K Q hR hK => ?_)
      have t6 : a.tmps[6]? = some (.pointer (some ⟨w.heap.size + 2, 0, none⟩)) := (hR.old 6 (by kernel_rfl)).trans (by kernel_rfl)
      have y0 := (HE16.out.below hR.bel).cell (.tail _ (.tail _ (.tail _ (.tail _ (.head _))))) 0
      have y1 := (HE16.out.below hR.bel).cell (.tail _ (.tail _ (.tail _ (.tail _ (.head _))))) 1
      go_simp
      exact hK _ _ (Below.refl _ _) rfl
    · refine RStep.mk rfl rfl (fun S a wx K Q hR hK => ?_)
      have t123 := hR.eq 3 (by kernel_rfl) rfl rfl
      have t124 := hR.eq 4 (by kernel_rfl) rfl rfl
      go_simp
      go_at_call 29
      refine (frameSame_any _ _ true ownf kf kf xz.body b _ _ _ ((HE16.out.below hR.bel).p.1) ((HE16.out.below hR.bel).p.2.2.2.2.1)).mono ?_
      rintro e w' ⟨rfl, hbx⟩
      rw [HXX.out.2.2.2]
      simp only [decide_true, Bool.and_self]
      exact hK _ _ hbx rfl
    · refine RStep.mk rfl rfl (fun S a wx K Q hR hK => ?_)
      have t125 := hR.eq 5 (by kernel_rfl) rfl rfl
      go_simp
      exact hK _ _ (Below.refl _ _) rfl
    · refine RStep.mk rfl rfl (fun S a wx K Q hR hK => ?_)
      have t122 := hR.eq 2 (by kernel_rfl) rfl rfl
      have t126 := hR.eq 6 (by kernel_rfl) rfl rfl
      go_simp
      exact hK _ _ (Below.refl _ _) rfl
    · refine RStep.mk rfl rfl (fun S a wx K Q hR hK => ?_)
      have t127 := hR.eq 7 (by kernel_rfl) rfl rfl
      go_simp
      exact hK _ _ (Below.refl _ _) rfl
    · refine RStep.mk rfl rfl (fun S a wx K Q hR hK => ?_)
      have t18 : a.tmps[18]? = some (.pointer (some ⟨w10.heap.size, 0, none⟩)) := (hR.old 18 (by kernel_rfl)).trans (by kernel_rfl)
      have H := (HE16.out.below hR.bel).cell (.tail _ (.head _)); have y0 := H 0; have y1 := H 1; have y2 := H 2; have y3 := H 3; have y4 := H 4; have y5 := H 5; have y6 := H 6; have y7 := H 7; have y8 := H 8; have y9 := H 9; have y10 := H 10; clear H
      go_simp
      exact hK _ _ (Below.refl _ _) rfl
    · refine RStep.mk rfl rfl (fun S a wx K Q hR hK => ?_)
      have t129 := hR.eq 9 (by kernel_rfl) rfl rfl
      go_simp
      go_at_call 30
      refine (recRight_any _ _ xz _ _ (by omega) ((HE16.out.below hR.bel).p.2.1)).mono ?_
      rintro e w' ⟨rfl, hbx⟩
      rw [HXX.out.1]
      exact hK _ _ hbx rfl
    · refine RStep.mk rfl rfl (fun S a wx K Q hR hK => ?_)
      have t130 := hR.eq 10 (by kernel_rfl) rfl rfl
      go_simp
      exact hK _ _ (Below.refl _ _) rfl
    · refine RStep.mk rfl rfl (fun S a wx K Q hR hK => ?_)
      have t128 := hR.eq 8 (by kernel_rfl) rfl rfl
      have t131 := hR.eq 11 (by kernel_rfl) rfl rfl
      go_simp
      exact hK _ _ (Below.refl _ _) rfl
    intro S1 vs w12 hD
    have HE17 := Lib.hid (HE16.out.below hD.bel)
    simp only [putsL, List.foldl_cons, List.foldl_nil]
    clear hD
    go_simp
    go_wp2_with fail
    go_meet
    exact HE17.out.bel
  have HE13 := Lib.hid (HE12.out.below hcut)
  clear hcut
  go_upto_region 19 with fail
  go_wp2_with fail
  cases hly : lineB s.data.toList with
  | none =>
    refine (lineN s _ (by omega) ((HL.out.below HE13.out.bel).mono HE13.out.bel.size) hly).mono ?_
    rintro e w13 ⟨v13, rfl, hrr, hbl⟩
    clear hly
    obtain ⟨u0, u1, u2, u3, u4, u5, u6, u7, rfl, _⟩ := hrr.conc
    have HE14 := Lib.hid (HE13.out.below hbl)
    have HE15 := Lib.hid (HE14.out.and (stRepR _ _ _ _) hrr)
    clear hrr hbl 
    go_upto_region 20 with fail
    have HE16 := Lib.hid (HE15.out.alloc #[.int .i64 Rec.zero.k, .int .u64 Rec.zero.t, .int .u64 Rec.zero.x, .int .u64 Rec.zero.w, .int .u64 Rec.zero.n, .int .u64 Rec.zero.v, .int .i64 u0, .int .u64 u1, .int .u64 u2, .slice u3 u4 u5, .slice u6 Rec.zero.es.length u7] 31)
    generalize w13.alloc (.cells #[.int .i64 Rec.zero.k, .int .u64 Rec.zero.t, .int .u64 Rec.zero.x, .int .u64 Rec.zero.w, .int .u64 Rec.zero.n, .int .u64 Rec.zero.v, .int .i64 u0, .int .u64 u1, .int .u64 u2, .slice u3 u4 u5, .slice u6 Rec.zero.es.length u7] 31) = X16 at HE16 ⊢
    refine wp_region_prs_f (w0 := X16) [.eq (.int .i64 50), .eq (.bool true), .eq (.bool true), .skip, .skip, .skip, .skip, .skip, .skip, .skip, .skip, .eq ((Value.bool true)), .eq ((Value.bool true)), .eq (.bool true), .eq (.bool true), .eq (.bool true)] (by kernel_rfl) ⟨?_, ?_, ?_, ?_, ?_, ?_, ?_, ?_, trivial⟩ (fun vs => [(138, (.int .i64 50)), (139, (.bool true)), (140, (.bool true)), (141, undef), (142, undef), (143, undef), (144, undef), (145, undef), (146, undef), (147, undef), (148, undef), (149, ((Value.bool true))), (150, ((Value.bool true))), (151, (.bool true)), (152, (.bool true)), (8, (.bool true))]) (fun _ => rfl) ?_
    · refine RStep.mk rfl rfl (fun S a wx K Q hR hK => ?_)
      have t23 : a.tmps[23]? = some (.int .i64 50) := (hR.old 23 (by kernel_rfl)).trans (by kernel_rfl)
      go_simp
      exact hK _ _ (Below.refl _ _) rfl
    · refine RStep.mk rfl rfl (fun S a wx K Q hR hK => ?_)
      have t138 := hR.eq 0 (by kernel_rfl) rfl rfl
      go_simp
      (try go_ints)
      exact hK _ _ (Below.refl _ _) rfl
    · refine RStep.mk rfl rfl (fun S a wx K Q hR hK => ?_)
      have t139 := hR.eq 1 (by kernel_rfl) rfl rfl
      go_simp
      exact hK _ _ (Below.refl _ _) rfl
    · refine RStep.mk rfl rfl (fun S a wx K Q hR hK => ?_)
      have t140 := hR.eq 2 (by kernel_rfl) rfl rfl
      obtain ⟨u148, t148, f148⟩ := hR.dep 10 _ _ (by kernel_rfl) rfl rfl rfl; replace f148 : u148 = undef := f148; subst f148
      go_simp
      exact hK _ _ (Below.refl _ _) rfl
    · refine RStep.mk rfl rfl (fun S a wx K Q hR hK => ?_)
      have t149 := hR.eq 11 (by kernel_rfl) rfl rfl
      go_simp
      exact hK _ _ (Below.refl _ _) rfl
    · refine RStep.mk rfl rfl (fun S a wx K Q hR hK => ?_)
      go_simp
      go_at_call 16
      refine (works5_any _ ((HL.out.below (HE16.out.below hR.bel).bel).mono (HE16.out.below hR.bel).bel.size)).mono ?_
      rintro e w' ⟨rfl, hbx⟩
      exact hK _ _ hbx rfl
    · refine RStep.mk rfl rfl (fun S a wx K Q hR hK => ?_)
      have t150 := hR.eq 12 (by kernel_rfl) rfl rfl
      have t151 := hR.eq 13 (by kernel_rfl) rfl rfl
      go_simp
      exact hK _ _ (Below.refl _ _) rfl
    · refine RStep.mk rfl rfl (fun S a wx K Q hR hK => ?_)
      have t152 := hR.eq 14 (by kernel_rfl) rfl rfl
      go_simp
      exact hK _ _ (Below.refl _ _) rfl
    intro S1 vs w14 hD
    have HFIN := Lib.hid (HE16.out.below hD.bel).bel
    simp only [putsL, List.foldl_cons, List.foldl_nil]
    clear hD
    go_simp
    go_wp2_with fail
    go_ret
    exact ⟨rfl, HFIN.out⟩
  | some y =>
    have hyy := line_sound hly
    have hys := line_small2 hly
    have hsl : s.data.toList.length = s.size := ba_size s
    rw [hsl] at hys
    have HYY := Lib.hid hyy
    clear hyy hsl
    refine (lineY s y _ (by omega) ((HL.out.below HE13.out.bel).mono HE13.out.bel.size) hly).mono ?_
    rintro e w13 ⟨v13, rfl, hrr, hbl⟩
    clear hly
    obtain ⟨u0, u1, u2, u3, u4, u5, u6, u7, rfl, _⟩ := hrr.conc
    have HE14 := Lib.hid (HE13.out.below hbl)
    have HE15 := Lib.hid (HE14.out.and (stRepR _ _ _ _) hrr)
    clear hrr hbl 
    go_upto_region 20 with fail
    have HE16 := Lib.hid (HE15.out.alloc #[.int .i64 y.k, .int .u64 y.t, .int .u64 y.x, .int .u64 y.w, .int .u64 y.n, .int .u64 y.v, .int .i64 u0, .int .u64 u1, .int .u64 u2, .slice u3 u4 u5, .slice u6 y.es.length u7] 31)
    generalize w13.alloc (.cells #[.int .i64 y.k, .int .u64 y.t, .int .u64 y.x, .int .u64 y.w, .int .u64 y.n, .int .u64 y.v, .int .i64 u0, .int .u64 u1, .int .u64 u2, .slice u3 u4 u5, .slice u6 y.es.length u7] 31) = X16 at HE16 ⊢
    have HTS : Hid ((⟨y.text.toArray⟩ : ByteArray) = s) := Lib.hid (by rw [HYY.out.2.2])
    refine wp_region_prs_f (w0 := X16) [.eq (.int .i64 0), .eq (.bool false), .eq (.bool false), .eq (.agg #[.int .i64 y.k, .int .u64 y.t, .int .u64 y.x, .int .u64 y.w, .int .u64 y.n, .int .u64 y.v, .int .i64 u0, .int .u64 u1, .int .u64 u2, .slice u3 u4 u5, .slice u6 y.es.length u7]), .eq (.string s), .eq (.string s), .eq (.bool true), .eq (.bool true), .eq (.agg #[.int .i64 y.k, .int .u64 y.t, .int .u64 y.x, .int .u64 y.w, .int .u64 y.n, .int .u64 y.v, .int .i64 u0, .int .u64 u1, .int .u64 u2, .slice u3 u4 u5, .slice u6 y.es.length u7]), .eq (.bool true), .eq (.bool true), .eq (.bool true), .eq (.bool true), .eq (.bool true), .eq (.bool true), .eq (.bool true)] (by kernel_rfl) ⟨?_, ?_, ?_, ?_, ?_, ?_, ?_, ?_, ?_, ?_, ?_, ?_, ?_, ?_, ?_, ?_, trivial⟩ (fun vs => [(138, (.int .i64 0)), (139, (.bool false)), (140, (.bool false)), (141, (.agg #[.int .i64 y.k, .int .u64 y.t, .int .u64 y.x, .int .u64 y.w, .int .u64 y.n, .int .u64 y.v, .int .i64 u0, .int .u64 u1, .int .u64 u2, .slice u3 u4 u5, .slice u6 y.es.length u7])), (142, (.string s)), (143, (.string s)), (144, (.bool true)), (145, (.bool true)), (146, (.agg #[.int .i64 y.k, .int .u64 y.t, .int .u64 y.x, .int .u64 y.w, .int .u64 y.n, .int .u64 y.v, .int .i64 u0, .int .u64 u1, .int .u64 u2, .slice u3 u4 u5, .slice u6 y.es.length u7])), (147, (.bool true)), (148, (.bool true)), (149, (.bool true)), (150, (.bool true)), (151, (.bool true)), (152, (.bool true)), (8, (.bool true))]) (fun _ => rfl) ?_
    · refine RStep.mk rfl rfl (fun S a wx K Q hR hK => ?_)
      have t23 : a.tmps[23]? = some (.int .i64 0) := (hR.old 23 (by kernel_rfl)).trans (by kernel_rfl)
      go_simp
      exact hK _ _ (Below.refl _ _) rfl
    · refine RStep.mk rfl rfl (fun S a wx K Q hR hK => ?_)
      have t138 := hR.eq 0 (by kernel_rfl) rfl rfl
      go_simp
      (try go_ints)
      exact hK _ _ (Below.refl _ _) rfl
    · refine RStep.mk rfl rfl (fun S a wx K Q hR hK => ?_)
      have t139 := hR.eq 1 (by kernel_rfl) rfl rfl
      go_simp
      exact hK _ _ (Below.refl _ _) rfl
    · refine RStep.mk rfl rfl (fun S a wx K Q hR hK => ?_)
      have t22 : a.tmps[22]? = some (.pointer (some ⟨w13.heap.size, 0, none⟩)) := (hR.old 22 (by kernel_rfl)).trans (by kernel_rfl)
      have H := (HE16.out.below hR.bel).cell (.head _); have y0 := H 0; have y1 := H 1; have y2 := H 2; have y3 := H 3; have y4 := H 4; have y5 := H 5; have y6 := H 6; have y7 := H 7; have y8 := H 8; have y9 := H 9; have y10 := H 10; clear H
      go_simp
      exact hK _ _ (Below.refl _ _) rfl
    · refine RStep.mk rfl rfl (fun S a wx K Q hR hK => ?_)
      have t141 := hR.eq 3 (by kernel_rfl) rfl rfl
      go_simp
      go_at_call 27
      refine (recText_any _ _ y _ _ (by omega) (by omega) ((HE16.out.below hR.bel).p.1) ((HL.out.below (HE16.out.below hR.bel).bel).mono (HE16.out.below hR.bel).bel.size).lv).mono ?_
      rintro e w' ⟨rfl, hbx⟩
      rw [HTS.out]
      exact hK _ _ hbx rfl
    · refine RStep.mk rfl rfl (fun S a wx K Q hR hK => ?_)
      have t3 : a.tmps[3]? = some (.string s) := (hR.old 3 (by kernel_rfl)).trans (by kernel_rfl)
      go_simp
      exact hK _ _ (Below.refl _ _) rfl
    · refine RStep.mk rfl rfl (fun S a wx K Q hR hK => ?_)
      have t142 := hR.eq 4 (by kernel_rfl) rfl rfl
      have t143 := hR.eq 5 (by kernel_rfl) rfl rfl
      go_simp
      (try go_ints)
      exact hK _ _ (Below.refl _ _) rfl
    · refine RStep.mk rfl rfl (fun S a wx K Q hR hK => ?_)
      have t144 := hR.eq 6 (by kernel_rfl) rfl rfl
      go_simp
      exact hK _ _ (Below.refl _ _) rfl
    · refine RStep.mk rfl rfl (fun S a wx K Q hR hK => ?_)
      have t22 : a.tmps[22]? = some (.pointer (some ⟨w13.heap.size, 0, none⟩)) := (hR.old 22 (by kernel_rfl)).trans (by kernel_rfl)
      have H := (HE16.out.below hR.bel).cell (.head _); have y0 := H 0; have y1 := H 1; have y2 := H 2; have y3 := H 3; have y4 := H 4; have y5 := H 5; have y6 := H 6; have y7 := H 7; have y8 := H 8; have y9 := H 9; have y10 := H 10; clear H
      go_simp
      exact hK _ _ (Below.refl _ _) rfl
    · refine RStep.mk rfl rfl (fun S a wx K Q hR hK => ?_)
      have t146 := hR.eq 8 (by kernel_rfl) rfl rfl
      go_simp
      go_at_call 30
      refine (recRight_any _ _ y _ _ (by omega) ((HE16.out.below hR.bel).p.1)).mono ?_
      rintro e w' ⟨rfl, hbx⟩
      rw [HYY.out.1]
      exact hK _ _ hbx rfl
    · refine RStep.mk rfl rfl (fun S a wx K Q hR hK => ?_)
      have t145 := hR.eq 7 (by kernel_rfl) rfl rfl
      have t147 := hR.eq 9 (by kernel_rfl) rfl rfl
      go_simp
      exact hK _ _ (Below.refl _ _) rfl
    · refine RStep.mk rfl rfl (fun S a wx K Q hR hK => ?_)
      have t140 := hR.eq 2 (by kernel_rfl) rfl rfl
      have t148 := hR.eq 10 (by kernel_rfl) rfl rfl
      go_simp
      exact hK _ _ (Below.refl _ _) rfl
    · refine RStep.mk rfl rfl (fun S a wx K Q hR hK => ?_)
      have t149 := hR.eq 11 (by kernel_rfl) rfl rfl
      go_simp
      exact hK _ _ (Below.refl _ _) rfl
    · refine RStep.mk rfl rfl (fun S a wx K Q hR hK => ?_)
      go_simp
      go_at_call 16
      refine (works5_any _ ((HL.out.below (HE16.out.below hR.bel).bel).mono (HE16.out.below hR.bel).bel.size)).mono ?_
      rintro e w' ⟨rfl, hbx⟩
      exact hK _ _ hbx rfl
    · refine RStep.mk rfl rfl (fun S a wx K Q hR hK => ?_)
      have t150 := hR.eq 12 (by kernel_rfl) rfl rfl
      have t151 := hR.eq 13 (by kernel_rfl) rfl rfl
      go_simp
      exact hK _ _ (Below.refl _ _) rfl
    · refine RStep.mk rfl rfl (fun S a wx K Q hR hK => ?_)
      have t152 := hR.eq 14 (by kernel_rfl) rfl rfl
      go_simp
      exact hK _ _ (Below.refl _ _) rfl
    intro S1 vs w14 hD
    have HFIN := Lib.hid (HE16.out.below hD.bel).bel
    simp only [putsL, List.foldl_cons, List.foldl_nil]
    clear hD
    go_simp
    go_wp2_with fail
    go_ret
    exact ⟨rfl, HFIN.out⟩
end Go.Proofs.YtjedgiiplebofaaGreatDoor
namespace Go.Proofs.YtjedgiiplebofaaGreatDoor
open Go.RowKit Go
set_option linter.unusedVariables false
set_option linter.unusedSimpArgs false
set_option maxHeartbeats 8000000 in
set_option maxRecDepth 100000 in
theorem recordBack_out0 (Sr So Sf : Nat → Prop) (ownr owno ownf : Bool) (r o : Rec) (kf : Nat) (b : List UInt8) (s : ByteArray) (m0 : Int) (m1 m2 : Nat) (m3 : Option Addr) (m4 m5 : Nat) (m6 : Option Addr) (m7 : Nat) (q0 : Int) (q1 q2 : Nat) (q3 : Option Addr) (q4 q5 : Nat) (q6 : Option Addr) (q7 : Nat) (f8 : Option Addr) (f9 : Nat) (w : World) (hr : RepR w Sr ownr r (.agg #[.int .i64 r.k, .int .u64 r.t, .int .u64 r.x, .int .u64 r.w, .int .u64 r.n, .int .u64 r.v, .int .i64 m0, .int .u64 m1, .int .u64 m2, .slice m3 m4 m5, .slice m6 r.es.length m7])) (ho : RepR w So owno o (.agg #[.int .i64 o.k, .int .u64 o.t, .int .u64 o.x, .int .u64 o.w, .int .u64 o.n, .int .u64 o.v, .int .i64 q0, .int .u64 q1, .int .u64 q2, .slice q3 q4 q5, .slice q6 o.es.length q7])) (hf : RepB w Sf ownf b (.slice f8 b.length f9)) (hkf : kf < 256) (hL : Lq w.heap.size w) (h1 : (decide (r.es.length ≤ 60) && decide (r.p.size ≤ 60)) = false) :
    Calls Tryz.prog 5 #[.agg #[.int .i64 r.k, .int .u64 r.t, .int .u64 r.x, .int .u64 r.w, .int .u64 r.n, .int .u64 r.v, .int .i64 m0, .int .u64 m1, .int .u64 m2, .slice m3 m4 m5, .slice m6 r.es.length m7], .agg #[.int .i64 o.k, .int .u64 o.t, .int .u64 o.x, .int .u64 o.w, .int .u64 o.n, .int .u64 o.v, .int .i64 q0, .int .u64 q1, .int .u64 q2, .slice q3 q4 q5, .slice q6 o.es.length q7], .agg #[.int .u8 kf, .slice f8 b.length f9], .string s] w fun e w' => e = .returned (.bool true) ∧ Below w.heap.size w w' := by
  have HFR : Hid ((decide (r.es.length ≤ 60) && decide (r.p.size ≤ 60)) = false) := Lib.hid h1
  have hnr : r.nums := hr.choose_spec.choose_spec.choose_spec.choose_spec.choose_spec.2.2.2.1
  have hno : o.nums := ho.choose_spec.choose_spec.choose_spec.choose_spec.choose_spec.2.2.2.1
  have HE := Lib.hid (env3 w #[.int .i64 r.k, .int .u64 r.t, .int .u64 r.x, .int .u64 r.w, .int .u64 r.n, .int .u64 r.v, .int .i64 m0, .int .u64 m1, .int .u64 m2, .slice m3 m4 m5, .slice m6 r.es.length m7] #[.int .i64 o.k, .int .u64 o.t, .int .u64 o.x, .int .u64 o.w, .int .u64 o.n, .int .u64 o.v, .int .i64 q0, .int .u64 q1, .int .u64 q2, .slice q3 q4 q5, .slice q6 o.es.length q7] #[.int .u8 kf, .slice f8 b.length f9] 31 31 49 (fun W => RepB W Sf ownf b (.slice f8 b.length f9) ∧ RepR W So owno o (.agg #[.int .i64 o.k, .int .u64 o.t, .int .u64 o.x, .int .u64 o.w, .int .u64 o.n, .int .u64 o.v, .int .i64 q0, .int .u64 q1, .int .u64 q2, .slice q3 q4 q5, .slice q6 o.es.length q7]) ∧ RepR W Sr ownr r (.agg #[.int .i64 r.k, .int .u64 r.t, .int .u64 r.x, .int .u64 r.w, .int .u64 r.n, .int .u64 r.v, .int .i64 m0, .int .u64 m1, .int .u64 m2, .slice m3 m4 m5, .slice m6 r.es.length m7])) (fun _ _ hb h => ⟨stRepB _ _ _ _ _ _ hb h.1, stRepR _ _ _ _ _ _ hb h.2.1, stRepR _ _ _ _ _ _ hb h.2.2⟩) ⟨hf, ho, hr⟩)
  have HL := Lib.hid hL
  have HNN := Lib.hid (And.intro hnr hno)
  clear hr ho hf hL hnr hno
  go_enter Tryz.func5, Tryz.ntmps5
  go_upto_region 1 with fail
  generalize ((w.alloc (.cells #[.int .i64 r.k, .int .u64 r.t, .int .u64 r.x, .int .u64 r.w, .int .u64 r.n, .int .u64 r.v, .int .i64 m0, .int .u64 m1, .int .u64 m2, .slice m3 m4 m5, .slice m6 r.es.length m7] 31)).alloc (.cells #[.int .i64 o.k, .int .u64 o.t, .int .u64 o.x, .int .u64 o.w, .int .u64 o.n, .int .u64 o.v, .int .i64 q0, .int .u64 q1, .int .u64 q2, .slice q3 q4 q5, .slice q6 o.es.length q7] 31)).alloc (.cells #[.int .u8 kf, .slice f8 b.length f9] 49) = W at HE ⊢
  refine wp_region_prs_f (w0 := W) [.eq (.agg #[.int .i64 r.k, .int .u64 r.t, .int .u64 r.x, .int .u64 r.w, .int .u64 r.n, .int .u64 r.v, .int .i64 m0, .int .u64 m1, .int .u64 m2, .slice m3 m4 m5, .slice m6 r.es.length m7]), .eq (.bool false), .eq (.bool true), .eq (.bool true), .skip, .skip, .skip, .eq ((Value.bool true)), .eq ((Value.bool true)), .skip, .skip, .skip, .skip, .eq ((Value.bool true)), .eq ((Value.bool true)), .skip, .skip, .skip, .eq ((Value.bool true))] (by kernel_rfl) ⟨?_, ?_, ?_, ?_, ?_, ?_, ?_, ?_, ?_, trivial⟩ (fun vs => [(24, (.agg #[.int .i64 r.k, .int .u64 r.t, .int .u64 r.x, .int .u64 r.w, .int .u64 r.n, .int .u64 r.v, .int .i64 m0, .int .u64 m1, .int .u64 m2, .slice m3 m4 m5, .slice m6 r.es.length m7])), (25, (.bool false)), (26, (.bool true)), (27, (.bool true)), (28, undef), (29, undef), (30, undef), (31, ((Value.bool true))), (32, ((Value.bool true))), (33, undef), (34, undef), (35, undef), (36, undef), (37, ((Value.bool true))), (38, ((Value.bool true))), (39, undef), (40, undef), (41, undef), (42, ((Value.bool true)))]) (fun _ => rfl) ?_
  · refine RStep.mk rfl rfl (fun S a wx K Q hR hK => ?_)
    have t4 : a.tmps[4]? = some (.pointer (some ⟨w.heap.size, 0, none⟩)) := (hR.old 4 (by kernel_rfl)).trans (by kernel_rfl)
    have H := (HE.out.below hR.bel).cell (.tail _ (.tail _ (.head _))); have y0 := H 0; have y1 := H 1; have y2 := H 2; have y3 := H 3; have y4 := H 4; have y5 := H 5; have y6 := H 6; have y7 := H 7; have y8 := H 8; have y9 := H 9; have y10 := H 10; clear H
    go_simp
    exact hK _ _ (Below.refl _ _) rfl
  · refine RStep.mk rfl rfl (fun S a wx K Q hR hK => ?_)
    have t24 := hR.eq 0 (by kernel_rfl) rfl rfl
    go_simp
    go_at_call 25
    refine (docFewRec_any Sr ownr r _ _ (HE.out.below hR.bel).p.2.2).mono ?_
    rintro e w' ⟨rfl, hbx⟩
    rw [HFR.out]
    exact hK _ _ hbx rfl
  · refine RStep.mk rfl rfl (fun S a wx K Q hR hK => ?_)
    have t25 := hR.eq 1 (by kernel_rfl) rfl rfl
    go_simp
    exact hK _ _ (Below.refl _ _) rfl
  · refine RStep.mk rfl rfl (fun S a wx K Q hR hK => ?_)
    have t26 := hR.eq 2 (by kernel_rfl) rfl rfl
    go_simp
    exact hK _ _ (Below.refl _ _) rfl
  · refine RStep.mk rfl rfl (fun S a wx K Q hR hK => ?_)
    have t27 := hR.eq 3 (by kernel_rfl) rfl rfl
    obtain ⟨u30, t30, f30⟩ := hR.dep 6 _ _ (by kernel_rfl) rfl rfl rfl; replace f30 : u30 = undef := f30; subst f30
    go_simp
    exact hK _ _ (Below.refl _ _) rfl
  · refine RStep.mk rfl rfl (fun S a wx K Q hR hK => ?_)
    have t31 := hR.eq 7 (by kernel_rfl) rfl rfl
    go_simp
    exact hK _ _ (Below.refl _ _) rfl
  · refine RStep.mk rfl rfl (fun S a wx K Q hR hK => ?_)
    have t32 := hR.eq 8 (by kernel_rfl) rfl rfl
    obtain ⟨u36, t36, f36⟩ := hR.dep 12 _ _ (by kernel_rfl) rfl rfl rfl; replace f36 : u36 = undef := f36; subst f36
    go_simp
    exact hK _ _ (Below.refl _ _) rfl
  · refine RStep.mk rfl rfl (fun S a wx K Q hR hK => ?_)
    have t37 := hR.eq 13 (by kernel_rfl) rfl rfl
    go_simp
    exact hK _ _ (Below.refl _ _) rfl
  · refine RStep.mk rfl rfl (fun S a wx K Q hR hK => ?_)
    have t38 := hR.eq 14 (by kernel_rfl) rfl rfl
    obtain ⟨u41, t41, f41⟩ := hR.dep 17 _ _ (by kernel_rfl) rfl rfl rfl; replace f41 : u41 = undef := f41; subst f41
    go_simp
    exact hK _ _ (Below.refl _ _) rfl
  intro S1 vs w1 hD
  have HE1 := Lib.hid (HE.out.below hD.bel)
  simp only [putsL, List.foldl_cons, List.foldl_nil]
  clear hD
  go_simp
  go_wp2_with fail
  refine (works5_any _ ((HL.out.below HE1.out.bel).mono HE1.out.bel.size)).mono ?_
  rintro e w2 ⟨rfl, hbl⟩
  have HFIN := Lib.hid (HE1.out.below hbl).bel
  clear hbl
  go_wp2_with fail
  go_ret
  exact ⟨rfl, HFIN.out⟩
set_option maxHeartbeats 8000000 in
set_option maxRecDepth 100000 in
theorem recordBack_out1 (Sr So Sf : Nat → Prop) (ownr owno ownf : Bool) (r o : Rec) (kf : Nat) (b : List UInt8) (s : ByteArray) (m0 : Int) (m1 m2 : Nat) (m3 : Option Addr) (m4 m5 : Nat) (m6 : Option Addr) (m7 : Nat) (q0 : Int) (q1 q2 : Nat) (q3 : Option Addr) (q4 q5 : Nat) (q6 : Option Addr) (q7 : Nat) (f8 : Option Addr) (f9 : Nat) (w : World) (hr : RepR w Sr ownr r (.agg #[.int .i64 r.k, .int .u64 r.t, .int .u64 r.x, .int .u64 r.w, .int .u64 r.n, .int .u64 r.v, .int .i64 m0, .int .u64 m1, .int .u64 m2, .slice m3 m4 m5, .slice m6 r.es.length m7])) (ho : RepR w So owno o (.agg #[.int .i64 o.k, .int .u64 o.t, .int .u64 o.x, .int .u64 o.w, .int .u64 o.n, .int .u64 o.v, .int .i64 q0, .int .u64 q1, .int .u64 q2, .slice q3 q4 q5, .slice q6 o.es.length q7])) (hf : RepB w Sf ownf b (.slice f8 b.length f9)) (hkf : kf < 256) (hL : Lq w.heap.size w) (h1 : (decide (r.es.length ≤ 60) && decide (r.p.size ≤ 60)) = true) (h2 : (decide (o.es.length ≤ 60) && decide (o.p.size ≤ 60)) = false) :
    Calls Tryz.prog 5 #[.agg #[.int .i64 r.k, .int .u64 r.t, .int .u64 r.x, .int .u64 r.w, .int .u64 r.n, .int .u64 r.v, .int .i64 m0, .int .u64 m1, .int .u64 m2, .slice m3 m4 m5, .slice m6 r.es.length m7], .agg #[.int .i64 o.k, .int .u64 o.t, .int .u64 o.x, .int .u64 o.w, .int .u64 o.n, .int .u64 o.v, .int .i64 q0, .int .u64 q1, .int .u64 q2, .slice q3 q4 q5, .slice q6 o.es.length q7], .agg #[.int .u8 kf, .slice f8 b.length f9], .string s] w fun e w' => e = .returned (.bool true) ∧ Below w.heap.size w w' := by
  have HFR : Hid ((decide (r.es.length ≤ 60) && decide (r.p.size ≤ 60)) = true) := Lib.hid h1
  have HFO : Hid ((decide (o.es.length ≤ 60) && decide (o.p.size ≤ 60)) = false) := Lib.hid h2
  have hnr : r.nums := hr.choose_spec.choose_spec.choose_spec.choose_spec.choose_spec.2.2.2.1
  have hno : o.nums := ho.choose_spec.choose_spec.choose_spec.choose_spec.choose_spec.2.2.2.1
  have HE := Lib.hid (env3 w #[.int .i64 r.k, .int .u64 r.t, .int .u64 r.x, .int .u64 r.w, .int .u64 r.n, .int .u64 r.v, .int .i64 m0, .int .u64 m1, .int .u64 m2, .slice m3 m4 m5, .slice m6 r.es.length m7] #[.int .i64 o.k, .int .u64 o.t, .int .u64 o.x, .int .u64 o.w, .int .u64 o.n, .int .u64 o.v, .int .i64 q0, .int .u64 q1, .int .u64 q2, .slice q3 q4 q5, .slice q6 o.es.length q7] #[.int .u8 kf, .slice f8 b.length f9] 31 31 49 (fun W => RepB W Sf ownf b (.slice f8 b.length f9) ∧ RepR W So owno o (.agg #[.int .i64 o.k, .int .u64 o.t, .int .u64 o.x, .int .u64 o.w, .int .u64 o.n, .int .u64 o.v, .int .i64 q0, .int .u64 q1, .int .u64 q2, .slice q3 q4 q5, .slice q6 o.es.length q7]) ∧ RepR W Sr ownr r (.agg #[.int .i64 r.k, .int .u64 r.t, .int .u64 r.x, .int .u64 r.w, .int .u64 r.n, .int .u64 r.v, .int .i64 m0, .int .u64 m1, .int .u64 m2, .slice m3 m4 m5, .slice m6 r.es.length m7])) (fun _ _ hb h => ⟨stRepB _ _ _ _ _ _ hb h.1, stRepR _ _ _ _ _ _ hb h.2.1, stRepR _ _ _ _ _ _ hb h.2.2⟩) ⟨hf, ho, hr⟩)
  have HL := Lib.hid hL
  have HNN := Lib.hid (And.intro hnr hno)
  clear hr ho hf hL hnr hno
  go_enter Tryz.func5, Tryz.ntmps5
  go_upto_region 1 with fail
  generalize ((w.alloc (.cells #[.int .i64 r.k, .int .u64 r.t, .int .u64 r.x, .int .u64 r.w, .int .u64 r.n, .int .u64 r.v, .int .i64 m0, .int .u64 m1, .int .u64 m2, .slice m3 m4 m5, .slice m6 r.es.length m7] 31)).alloc (.cells #[.int .i64 o.k, .int .u64 o.t, .int .u64 o.x, .int .u64 o.w, .int .u64 o.n, .int .u64 o.v, .int .i64 q0, .int .u64 q1, .int .u64 q2, .slice q3 q4 q5, .slice q6 o.es.length q7] 31)).alloc (.cells #[.int .u8 kf, .slice f8 b.length f9] 49) = W at HE ⊢
  refine wp_region_prs_f (w0 := W) [.eq (.agg #[.int .i64 r.k, .int .u64 r.t, .int .u64 r.x, .int .u64 r.w, .int .u64 r.n, .int .u64 r.v, .int .i64 m0, .int .u64 m1, .int .u64 m2, .slice m3 m4 m5, .slice m6 r.es.length m7]), .eq (.bool true), .eq (.bool false), .eq (.bool false), .eq (.agg #[.int .i64 o.k, .int .u64 o.t, .int .u64 o.x, .int .u64 o.w, .int .u64 o.n, .int .u64 o.v, .int .i64 q0, .int .u64 q1, .int .u64 q2, .slice q3 q4 q5, .slice q6 o.es.length q7]), .eq (.bool false), .eq (.bool true), .eq (.bool true), .eq (.bool true), .skip, .skip, .skip, .skip, .eq ((Value.bool true)), .eq ((Value.bool true)), .skip, .skip, .skip, .eq ((Value.bool true))] (by kernel_rfl) ⟨?_, ?_, ?_, ?_, ?_, ?_, ?_, ?_, ?_, ?_, ?_, ?_, trivial⟩ (fun vs => [(24, (.agg #[.int .i64 r.k, .int .u64 r.t, .int .u64 r.x, .int .u64 r.w, .int .u64 r.n, .int .u64 r.v, .int .i64 m0, .int .u64 m1, .int .u64 m2, .slice m3 m4 m5, .slice m6 r.es.length m7])), (25, (.bool true)), (26, (.bool false)), (27, (.bool false)), (28, (.agg #[.int .i64 o.k, .int .u64 o.t, .int .u64 o.x, .int .u64 o.w, .int .u64 o.n, .int .u64 o.v, .int .i64 q0, .int .u64 q1, .int .u64 q2, .slice q3 q4 q5, .slice q6 o.es.length q7])), (29, (.bool false)), (30, (.bool true)), (31, (.bool true)), (32, (.bool true)), (33, undef), (34, undef), (35, undef), (36, undef), (37, ((Value.bool true))), (38, ((Value.bool true))), (39, undef), (40, undef), (41, undef), (42, ((Value.bool true)))]) (fun _ => rfl) ?_
  · refine RStep.mk rfl rfl (fun S a wx K Q hR hK => ?_)
    have t4 : a.tmps[4]? = some (.pointer (some ⟨w.heap.size, 0, none⟩)) := (hR.old 4 (by kernel_rfl)).trans (by kernel_rfl)
    have H := (HE.out.below hR.bel).cell (.tail _ (.tail _ (.head _))); have y0 := H 0; have y1 := H 1; have y2 := H 2; have y3 := H 3; have y4 := H 4; have y5 := H 5; have y6 := H 6; have y7 := H 7; have y8 := H 8; have y9 := H 9; have y10 := H 10; clear H
    go_simp
    exact hK _ _ (Below.refl _ _) rfl
  · refine RStep.mk rfl rfl (fun S a wx K Q hR hK => ?_)
    have t24 := hR.eq 0 (by kernel_rfl) rfl rfl
    go_simp
    go_at_call 25
    refine (docFewRec_any Sr ownr r _ _ (HE.out.below hR.bel).p.2.2).mono ?_
    rintro e w' ⟨rfl, hbx⟩
    rw [HFR.out]
    exact hK _ _ hbx rfl
  · refine RStep.mk rfl rfl (fun S a wx K Q hR hK => ?_)
    have t25 := hR.eq 1 (by kernel_rfl) rfl rfl
    go_simp
    exact hK _ _ (Below.refl _ _) rfl
  · refine RStep.mk rfl rfl (fun S a wx K Q hR hK => ?_)
    have t26 := hR.eq 2 (by kernel_rfl) rfl rfl
    go_simp
    exact hK _ _ (Below.refl _ _) rfl
  · refine RStep.mk rfl rfl (fun S a wx K Q hR hK => ?_)
    have t5 : a.tmps[5]? = some (.pointer (some ⟨w.heap.size + 1, 0, none⟩)) := (hR.old 5 (by kernel_rfl)).trans (by kernel_rfl)
    have H := (HE.out.below hR.bel).cell (.tail _ (.head _)); have y0 := H 0; have y1 := H 1; have y2 := H 2; have y3 := H 3; have y4 := H 4; have y5 := H 5; have y6 := H 6; have y7 := H 7; have y8 := H 8; have y9 := H 9; have y10 := H 10; clear H
    go_simp
    exact hK _ _ (Below.refl _ _) rfl
  · refine RStep.mk rfl rfl (fun S a wx K Q hR hK => ?_)
    have t28 := hR.eq 4 (by kernel_rfl) rfl rfl
    go_simp
    go_at_call 25
    refine (docFewRec_any So owno o _ _ (HE.out.below hR.bel).p.2.1).mono ?_
    rintro e w' ⟨rfl, hbx⟩
    rw [HFO.out]
    exact hK _ _ hbx rfl
  · refine RStep.mk rfl rfl (fun S a wx K Q hR hK => ?_)
    have t29 := hR.eq 5 (by kernel_rfl) rfl rfl
    go_simp
    exact hK _ _ (Below.refl _ _) rfl
  · refine RStep.mk rfl rfl (fun S a wx K Q hR hK => ?_)
    have t27 := hR.eq 3 (by kernel_rfl) rfl rfl
    have t30 := hR.eq 6 (by kernel_rfl) rfl rfl
    go_simp
    exact hK _ _ (Below.refl _ _) rfl
  · refine RStep.mk rfl rfl (fun S a wx K Q hR hK => ?_)
    have t31 := hR.eq 7 (by kernel_rfl) rfl rfl
    go_simp
    exact hK _ _ (Below.refl _ _) rfl
  · refine RStep.mk rfl rfl (fun S a wx K Q hR hK => ?_)
    have t32 := hR.eq 8 (by kernel_rfl) rfl rfl
    obtain ⟨u36, t36, f36⟩ := hR.dep 12 _ _ (by kernel_rfl) rfl rfl rfl; replace f36 : u36 = undef := f36; subst f36
    go_simp
    exact hK _ _ (Below.refl _ _) rfl
  · refine RStep.mk rfl rfl (fun S a wx K Q hR hK => ?_)
    have t37 := hR.eq 13 (by kernel_rfl) rfl rfl
    go_simp
    exact hK _ _ (Below.refl _ _) rfl
  · refine RStep.mk rfl rfl (fun S a wx K Q hR hK => ?_)
    have t38 := hR.eq 14 (by kernel_rfl) rfl rfl
    obtain ⟨u41, t41, f41⟩ := hR.dep 17 _ _ (by kernel_rfl) rfl rfl rfl; replace f41 : u41 = undef := f41; subst f41
    go_simp
    exact hK _ _ (Below.refl _ _) rfl
  intro S1 vs w1 hD
  have HE1 := Lib.hid (HE.out.below hD.bel)
  simp only [putsL, List.foldl_cons, List.foldl_nil]
  clear hD
  go_simp
  go_wp2_with fail
  refine (works5_any _ ((HL.out.below HE1.out.bel).mono HE1.out.bel.size)).mono ?_
  rintro e w2 ⟨rfl, hbl⟩
  have HFIN := Lib.hid (HE1.out.below hbl).bel
  clear hbl
  go_wp2_with fail
  go_ret
  exact ⟨rfl, HFIN.out⟩
set_option maxHeartbeats 8000000 in
set_option maxRecDepth 100000 in
theorem recordBack_out2 (Sr So Sf : Nat → Prop) (ownr owno ownf : Bool) (r o : Rec) (kf : Nat) (b : List UInt8) (s : ByteArray) (m0 : Int) (m1 m2 : Nat) (m3 : Option Addr) (m4 m5 : Nat) (m6 : Option Addr) (m7 : Nat) (q0 : Int) (q1 q2 : Nat) (q3 : Option Addr) (q4 q5 : Nat) (q6 : Option Addr) (q7 : Nat) (f8 : Option Addr) (f9 : Nat) (w : World) (hr : RepR w Sr ownr r (.agg #[.int .i64 r.k, .int .u64 r.t, .int .u64 r.x, .int .u64 r.w, .int .u64 r.n, .int .u64 r.v, .int .i64 m0, .int .u64 m1, .int .u64 m2, .slice m3 m4 m5, .slice m6 r.es.length m7])) (ho : RepR w So owno o (.agg #[.int .i64 o.k, .int .u64 o.t, .int .u64 o.x, .int .u64 o.w, .int .u64 o.n, .int .u64 o.v, .int .i64 q0, .int .u64 q1, .int .u64 q2, .slice q3 q4 q5, .slice q6 o.es.length q7])) (hf : RepB w Sf ownf b (.slice f8 b.length f9)) (hkf : kf < 256) (hL : Lq w.heap.size w) (h1 : (decide (r.es.length ≤ 60) && decide (r.p.size ≤ 60)) = true) (h2 : (decide (o.es.length ≤ 60) && decide (o.p.size ≤ 60)) = true) (h3 : 400 < b.length) :
    Calls Tryz.prog 5 #[.agg #[.int .i64 r.k, .int .u64 r.t, .int .u64 r.x, .int .u64 r.w, .int .u64 r.n, .int .u64 r.v, .int .i64 m0, .int .u64 m1, .int .u64 m2, .slice m3 m4 m5, .slice m6 r.es.length m7], .agg #[.int .i64 o.k, .int .u64 o.t, .int .u64 o.x, .int .u64 o.w, .int .u64 o.n, .int .u64 o.v, .int .i64 q0, .int .u64 q1, .int .u64 q2, .slice q3 q4 q5, .slice q6 o.es.length q7], .agg #[.int .u8 kf, .slice f8 b.length f9], .string s] w fun e w' => e = .returned (.bool true) ∧ Below w.heap.size w w' := by
  have HFR : Hid ((decide (r.es.length ≤ 60) && decide (r.p.size ≤ 60)) = true) := Lib.hid h1
  have HFO : Hid ((decide (o.es.length ≤ 60) && decide (o.p.size ≤ 60)) = true) := Lib.hid h2
  have HQB : Hid (decide ((400 : Int) < (b.length : Nat)) = true) := Lib.hid (by simp; omega)
  have hnr : r.nums := hr.choose_spec.choose_spec.choose_spec.choose_spec.choose_spec.2.2.2.1
  have hno : o.nums := ho.choose_spec.choose_spec.choose_spec.choose_spec.choose_spec.2.2.2.1
  have HE := Lib.hid (env3 w #[.int .i64 r.k, .int .u64 r.t, .int .u64 r.x, .int .u64 r.w, .int .u64 r.n, .int .u64 r.v, .int .i64 m0, .int .u64 m1, .int .u64 m2, .slice m3 m4 m5, .slice m6 r.es.length m7] #[.int .i64 o.k, .int .u64 o.t, .int .u64 o.x, .int .u64 o.w, .int .u64 o.n, .int .u64 o.v, .int .i64 q0, .int .u64 q1, .int .u64 q2, .slice q3 q4 q5, .slice q6 o.es.length q7] #[.int .u8 kf, .slice f8 b.length f9] 31 31 49 (fun W => RepB W Sf ownf b (.slice f8 b.length f9) ∧ RepR W So owno o (.agg #[.int .i64 o.k, .int .u64 o.t, .int .u64 o.x, .int .u64 o.w, .int .u64 o.n, .int .u64 o.v, .int .i64 q0, .int .u64 q1, .int .u64 q2, .slice q3 q4 q5, .slice q6 o.es.length q7]) ∧ RepR W Sr ownr r (.agg #[.int .i64 r.k, .int .u64 r.t, .int .u64 r.x, .int .u64 r.w, .int .u64 r.n, .int .u64 r.v, .int .i64 m0, .int .u64 m1, .int .u64 m2, .slice m3 m4 m5, .slice m6 r.es.length m7])) (fun _ _ hb h => ⟨stRepB _ _ _ _ _ _ hb h.1, stRepR _ _ _ _ _ _ hb h.2.1, stRepR _ _ _ _ _ _ hb h.2.2⟩) ⟨hf, ho, hr⟩)
  have HL := Lib.hid hL
  have HNN := Lib.hid (And.intro hnr hno)
  clear hr ho hf hL hnr hno
  go_enter Tryz.func5, Tryz.ntmps5
  go_upto_region 1 with fail
  generalize ((w.alloc (.cells #[.int .i64 r.k, .int .u64 r.t, .int .u64 r.x, .int .u64 r.w, .int .u64 r.n, .int .u64 r.v, .int .i64 m0, .int .u64 m1, .int .u64 m2, .slice m3 m4 m5, .slice m6 r.es.length m7] 31)).alloc (.cells #[.int .i64 o.k, .int .u64 o.t, .int .u64 o.x, .int .u64 o.w, .int .u64 o.n, .int .u64 o.v, .int .i64 q0, .int .u64 q1, .int .u64 q2, .slice q3 q4 q5, .slice q6 o.es.length q7] 31)).alloc (.cells #[.int .u8 kf, .slice f8 b.length f9] 49) = W at HE ⊢
  refine wp_region_prs_f (w0 := W) [.eq (.agg #[.int .i64 r.k, .int .u64 r.t, .int .u64 r.x, .int .u64 r.w, .int .u64 r.n, .int .u64 r.v, .int .i64 m0, .int .u64 m1, .int .u64 m2, .slice m3 m4 m5, .slice m6 r.es.length m7]), .eq (.bool true), .eq (.bool false), .eq (.bool false), .eq (.agg #[.int .i64 o.k, .int .u64 o.t, .int .u64 o.x, .int .u64 o.w, .int .u64 o.n, .int .u64 o.v, .int .i64 q0, .int .u64 q1, .int .u64 q2, .slice q3 q4 q5, .slice q6 o.es.length q7]), .eq (.bool true), .eq (.bool false), .eq (.bool false), .eq (.bool false), .eq (.pointer (some ⟨w.heap.size + 2, 1, none⟩)), .eq (.slice f8 b.length f9), .eq (.int .i64 b.length), .eq (.bool true), .eq (.bool true), .eq (.bool true), .skip, .skip, .skip, .eq ((Value.bool true))] (by kernel_rfl) ⟨?_, ?_, ?_, ?_, ?_, ?_, ?_, ?_, ?_, ?_, ?_, ?_, ?_, ?_, ?_, ?_, trivial⟩ (fun vs => [(24, (.agg #[.int .i64 r.k, .int .u64 r.t, .int .u64 r.x, .int .u64 r.w, .int .u64 r.n, .int .u64 r.v, .int .i64 m0, .int .u64 m1, .int .u64 m2, .slice m3 m4 m5, .slice m6 r.es.length m7])), (25, (.bool true)), (26, (.bool false)), (27, (.bool false)), (28, (.agg #[.int .i64 o.k, .int .u64 o.t, .int .u64 o.x, .int .u64 o.w, .int .u64 o.n, .int .u64 o.v, .int .i64 q0, .int .u64 q1, .int .u64 q2, .slice q3 q4 q5, .slice q6 o.es.length q7])), (29, (.bool true)), (30, (.bool false)), (31, (.bool false)), (32, (.bool false)), (33, (.pointer (some ⟨w.heap.size + 2, 1, none⟩))), (34, (.slice f8 b.length f9)), (35, (.int .i64 b.length)), (36, (.bool true)), (37, (.bool true)), (38, (.bool true)), (39, undef), (40, undef), (41, undef), (42, ((Value.bool true)))]) (fun _ => rfl) ?_
  · refine RStep.mk rfl rfl (fun S a wx K Q hR hK => ?_)
    have t4 : a.tmps[4]? = some (.pointer (some ⟨w.heap.size, 0, none⟩)) := (hR.old 4 (by kernel_rfl)).trans (by kernel_rfl)
    have H := (HE.out.below hR.bel).cell (.tail _ (.tail _ (.head _))); have y0 := H 0; have y1 := H 1; have y2 := H 2; have y3 := H 3; have y4 := H 4; have y5 := H 5; have y6 := H 6; have y7 := H 7; have y8 := H 8; have y9 := H 9; have y10 := H 10; clear H
    go_simp
    exact hK _ _ (Below.refl _ _) rfl
  · refine RStep.mk rfl rfl (fun S a wx K Q hR hK => ?_)
    have t24 := hR.eq 0 (by kernel_rfl) rfl rfl
    go_simp
    go_at_call 25
    refine (docFewRec_any Sr ownr r _ _ (HE.out.below hR.bel).p.2.2).mono ?_
    rintro e w' ⟨rfl, hbx⟩
    rw [HFR.out]
    exact hK _ _ hbx rfl
  · refine RStep.mk rfl rfl (fun S a wx K Q hR hK => ?_)
    have t25 := hR.eq 1 (by kernel_rfl) rfl rfl
    go_simp
    exact hK _ _ (Below.refl _ _) rfl
  · refine RStep.mk rfl rfl (fun S a wx K Q hR hK => ?_)
    have t26 := hR.eq 2 (by kernel_rfl) rfl rfl
    go_simp
    exact hK _ _ (Below.refl _ _) rfl
  · refine RStep.mk rfl rfl (fun S a wx K Q hR hK => ?_)
    have t5 : a.tmps[5]? = some (.pointer (some ⟨w.heap.size + 1, 0, none⟩)) := (hR.old 5 (by kernel_rfl)).trans (by kernel_rfl)
    have H := (HE.out.below hR.bel).cell (.tail _ (.head _)); have y0 := H 0; have y1 := H 1; have y2 := H 2; have y3 := H 3; have y4 := H 4; have y5 := H 5; have y6 := H 6; have y7 := H 7; have y8 := H 8; have y9 := H 9; have y10 := H 10; clear H
    go_simp
    exact hK _ _ (Below.refl _ _) rfl
  · refine RStep.mk rfl rfl (fun S a wx K Q hR hK => ?_)
    have t28 := hR.eq 4 (by kernel_rfl) rfl rfl
    go_simp
    go_at_call 25
    refine (docFewRec_any So owno o _ _ (HE.out.below hR.bel).p.2.1).mono ?_
    rintro e w' ⟨rfl, hbx⟩
    rw [HFO.out]
    exact hK _ _ hbx rfl
  · refine RStep.mk rfl rfl (fun S a wx K Q hR hK => ?_)
    have t29 := hR.eq 5 (by kernel_rfl) rfl rfl
    go_simp
    exact hK _ _ (Below.refl _ _) rfl
  · refine RStep.mk rfl rfl (fun S a wx K Q hR hK => ?_)
    have t27 := hR.eq 3 (by kernel_rfl) rfl rfl
    have t30 := hR.eq 6 (by kernel_rfl) rfl rfl
    go_simp
    exact hK _ _ (Below.refl _ _) rfl
  · refine RStep.mk rfl rfl (fun S a wx K Q hR hK => ?_)
    have t31 := hR.eq 7 (by kernel_rfl) rfl rfl
    go_simp
    exact hK _ _ (Below.refl _ _) rfl
  · refine RStep.mk rfl rfl (fun S a wx K Q hR hK => ?_)
    have t6 : a.tmps[6]? = some (.pointer (some ⟨w.heap.size + 2, 0, none⟩)) := (hR.old 6 (by kernel_rfl)).trans (by kernel_rfl)
    go_simp
    exact hK _ _ (Below.refl _ _) rfl
  · refine RStep.mk rfl rfl (fun S a wx K Q hR hK => ?_)
    have t33 := hR.eq 9 (by kernel_rfl) rfl rfl
    have y0 := (HE.out.below hR.bel).cell (.head _) 1
    go_simp
    exact hK _ _ (Below.refl _ _) rfl
  · refine RStep.mk rfl rfl (fun S a wx K Q hR hK => ?_)
    have t34 := hR.eq 10 (by kernel_rfl) rfl rfl
    go_simp
    exact hK _ _ (Below.refl _ _) rfl
  · refine RStep.mk rfl rfl (fun S a wx K Q hR hK => ?_)
    have t35 := hR.eq 11 (by kernel_rfl) rfl rfl
    have q := HQB.out
    go_simp
    (try go_ints)
    exact hK _ _ (Below.refl _ _) rfl
  · refine RStep.mk rfl rfl (fun S a wx K Q hR hK => ?_)
    have t32 := hR.eq 8 (by kernel_rfl) rfl rfl
    have t36 := hR.eq 12 (by kernel_rfl) rfl rfl
    go_simp
    exact hK _ _ (Below.refl _ _) rfl
  · refine RStep.mk rfl rfl (fun S a wx K Q hR hK => ?_)
    have t37 := hR.eq 13 (by kernel_rfl) rfl rfl
    go_simp
    exact hK _ _ (Below.refl _ _) rfl
  · refine RStep.mk rfl rfl (fun S a wx K Q hR hK => ?_)
    have t38 := hR.eq 14 (by kernel_rfl) rfl rfl
    obtain ⟨u41, t41, f41⟩ := hR.dep 17 _ _ (by kernel_rfl) rfl rfl rfl; replace f41 : u41 = undef := f41; subst f41
    go_simp
    exact hK _ _ (Below.refl _ _) rfl
  intro S1 vs w1 hD
  have HE1 := Lib.hid (HE.out.below hD.bel)
  simp only [putsL, List.foldl_cons, List.foldl_nil]
  clear hD
  go_simp
  go_wp2_with fail
  refine (works5_any _ ((HL.out.below HE1.out.bel).mono HE1.out.bel.size)).mono ?_
  rintro e w2 ⟨rfl, hbl⟩
  have HFIN := Lib.hid (HE1.out.below hbl).bel
  clear hbl
  go_wp2_with fail
  go_ret
  exact ⟨rfl, HFIN.out⟩
set_option maxHeartbeats 8000000 in
set_option maxRecDepth 100000 in
theorem recordBack_out3 (Sr So Sf : Nat → Prop) (ownr owno ownf : Bool) (r o : Rec) (kf : Nat) (b : List UInt8) (s : ByteArray) (m0 : Int) (m1 m2 : Nat) (m3 : Option Addr) (m4 m5 : Nat) (m6 : Option Addr) (m7 : Nat) (q0 : Int) (q1 q2 : Nat) (q3 : Option Addr) (q4 q5 : Nat) (q6 : Option Addr) (q7 : Nat) (f8 : Option Addr) (f9 : Nat) (w : World) (hr : RepR w Sr ownr r (.agg #[.int .i64 r.k, .int .u64 r.t, .int .u64 r.x, .int .u64 r.w, .int .u64 r.n, .int .u64 r.v, .int .i64 m0, .int .u64 m1, .int .u64 m2, .slice m3 m4 m5, .slice m6 r.es.length m7])) (ho : RepR w So owno o (.agg #[.int .i64 o.k, .int .u64 o.t, .int .u64 o.x, .int .u64 o.w, .int .u64 o.n, .int .u64 o.v, .int .i64 q0, .int .u64 q1, .int .u64 q2, .slice q3 q4 q5, .slice q6 o.es.length q7])) (hf : RepB w Sf ownf b (.slice f8 b.length f9)) (hkf : kf < 256) (hL : Lq w.heap.size w) (h1 : (decide (r.es.length ≤ 60) && decide (r.p.size ≤ 60)) = true) (h2 : (decide (o.es.length ≤ 60) && decide (o.p.size ≤ 60)) = true) (h3 : b.length ≤ 400) (h4 : 300 < s.size) :
    Calls Tryz.prog 5 #[.agg #[.int .i64 r.k, .int .u64 r.t, .int .u64 r.x, .int .u64 r.w, .int .u64 r.n, .int .u64 r.v, .int .i64 m0, .int .u64 m1, .int .u64 m2, .slice m3 m4 m5, .slice m6 r.es.length m7], .agg #[.int .i64 o.k, .int .u64 o.t, .int .u64 o.x, .int .u64 o.w, .int .u64 o.n, .int .u64 o.v, .int .i64 q0, .int .u64 q1, .int .u64 q2, .slice q3 q4 q5, .slice q6 o.es.length q7], .agg #[.int .u8 kf, .slice f8 b.length f9], .string s] w fun e w' => e = .returned (.bool true) ∧ Below w.heap.size w w' := by
  have HFR : Hid ((decide (r.es.length ≤ 60) && decide (r.p.size ≤ 60)) = true) := Lib.hid h1
  have HFO : Hid ((decide (o.es.length ≤ 60) && decide (o.p.size ≤ 60)) = true) := Lib.hid h2
  have HQB : Hid (decide ((400 : Int) < (b.length : Nat)) = false) := Lib.hid (by simp; omega)
  have HQS : Hid (decide ((300 : Int) < (s.size : Nat)) = true) := Lib.hid (by simp; omega)
  have hnr : r.nums := hr.choose_spec.choose_spec.choose_spec.choose_spec.choose_spec.2.2.2.1
  have hno : o.nums := ho.choose_spec.choose_spec.choose_spec.choose_spec.choose_spec.2.2.2.1
  have HE := Lib.hid (env3 w #[.int .i64 r.k, .int .u64 r.t, .int .u64 r.x, .int .u64 r.w, .int .u64 r.n, .int .u64 r.v, .int .i64 m0, .int .u64 m1, .int .u64 m2, .slice m3 m4 m5, .slice m6 r.es.length m7] #[.int .i64 o.k, .int .u64 o.t, .int .u64 o.x, .int .u64 o.w, .int .u64 o.n, .int .u64 o.v, .int .i64 q0, .int .u64 q1, .int .u64 q2, .slice q3 q4 q5, .slice q6 o.es.length q7] #[.int .u8 kf, .slice f8 b.length f9] 31 31 49 (fun W => RepB W Sf ownf b (.slice f8 b.length f9) ∧ RepR W So owno o (.agg #[.int .i64 o.k, .int .u64 o.t, .int .u64 o.x, .int .u64 o.w, .int .u64 o.n, .int .u64 o.v, .int .i64 q0, .int .u64 q1, .int .u64 q2, .slice q3 q4 q5, .slice q6 o.es.length q7]) ∧ RepR W Sr ownr r (.agg #[.int .i64 r.k, .int .u64 r.t, .int .u64 r.x, .int .u64 r.w, .int .u64 r.n, .int .u64 r.v, .int .i64 m0, .int .u64 m1, .int .u64 m2, .slice m3 m4 m5, .slice m6 r.es.length m7])) (fun _ _ hb h => ⟨stRepB _ _ _ _ _ _ hb h.1, stRepR _ _ _ _ _ _ hb h.2.1, stRepR _ _ _ _ _ _ hb h.2.2⟩) ⟨hf, ho, hr⟩)
  have HL := Lib.hid hL
  have HNN := Lib.hid (And.intro hnr hno)
  clear hr ho hf hL hnr hno
  go_enter Tryz.func5, Tryz.ntmps5
  go_upto_region 1 with fail
  generalize ((w.alloc (.cells #[.int .i64 r.k, .int .u64 r.t, .int .u64 r.x, .int .u64 r.w, .int .u64 r.n, .int .u64 r.v, .int .i64 m0, .int .u64 m1, .int .u64 m2, .slice m3 m4 m5, .slice m6 r.es.length m7] 31)).alloc (.cells #[.int .i64 o.k, .int .u64 o.t, .int .u64 o.x, .int .u64 o.w, .int .u64 o.n, .int .u64 o.v, .int .i64 q0, .int .u64 q1, .int .u64 q2, .slice q3 q4 q5, .slice q6 o.es.length q7] 31)).alloc (.cells #[.int .u8 kf, .slice f8 b.length f9] 49) = W at HE ⊢
  refine wp_region_prs_f (w0 := W) [.eq (.agg #[.int .i64 r.k, .int .u64 r.t, .int .u64 r.x, .int .u64 r.w, .int .u64 r.n, .int .u64 r.v, .int .i64 m0, .int .u64 m1, .int .u64 m2, .slice m3 m4 m5, .slice m6 r.es.length m7]), .eq (.bool true), .eq (.bool false), .eq (.bool false), .eq (.agg #[.int .i64 o.k, .int .u64 o.t, .int .u64 o.x, .int .u64 o.w, .int .u64 o.n, .int .u64 o.v, .int .i64 q0, .int .u64 q1, .int .u64 q2, .slice q3 q4 q5, .slice q6 o.es.length q7]), .eq (.bool true), .eq (.bool false), .eq (.bool false), .eq (.bool false), .eq (.pointer (some ⟨w.heap.size + 2, 1, none⟩)), .eq (.slice f8 b.length f9), .eq (.int .i64 b.length), .eq (.bool false), .eq (.bool false), .eq (.bool false), .eq (.string s), .eq (.int .i64 s.size), .eq (.bool true), .eq (.bool true)] (by kernel_rfl) ⟨?_, ?_, ?_, ?_, ?_, ?_, ?_, ?_, ?_, ?_, ?_, ?_, ?_, ?_, ?_, ?_, ?_, ?_, ?_, trivial⟩ (fun vs => [(24, (.agg #[.int .i64 r.k, .int .u64 r.t, .int .u64 r.x, .int .u64 r.w, .int .u64 r.n, .int .u64 r.v, .int .i64 m0, .int .u64 m1, .int .u64 m2, .slice m3 m4 m5, .slice m6 r.es.length m7])), (25, (.bool true)), (26, (.bool false)), (27, (.bool false)), (28, (.agg #[.int .i64 o.k, .int .u64 o.t, .int .u64 o.x, .int .u64 o.w, .int .u64 o.n, .int .u64 o.v, .int .i64 q0, .int .u64 q1, .int .u64 q2, .slice q3 q4 q5, .slice q6 o.es.length q7])), (29, (.bool true)), (30, (.bool false)), (31, (.bool false)), (32, (.bool false)), (33, (.pointer (some ⟨w.heap.size + 2, 1, none⟩))), (34, (.slice f8 b.length f9)), (35, (.int .i64 b.length)), (36, (.bool false)), (37, (.bool false)), (38, (.bool false)), (39, (.string s)), (40, (.int .i64 s.size)), (41, (.bool true)), (42, (.bool true))]) (fun _ => rfl) ?_
  · refine RStep.mk rfl rfl (fun S a wx K Q hR hK => ?_)
    have t4 : a.tmps[4]? = some (.pointer (some ⟨w.heap.size, 0, none⟩)) := (hR.old 4 (by kernel_rfl)).trans (by kernel_rfl)
    have H := (HE.out.below hR.bel).cell (.tail _ (.tail _ (.head _))); have y0 := H 0; have y1 := H 1; have y2 := H 2; have y3 := H 3; have y4 := H 4; have y5 := H 5; have y6 := H 6; have y7 := H 7; have y8 := H 8; have y9 := H 9; have y10 := H 10; clear H
    go_simp
    exact hK _ _ (Below.refl _ _) rfl
  · refine RStep.mk rfl rfl (fun S a wx K Q hR hK => ?_)
    have t24 := hR.eq 0 (by kernel_rfl) rfl rfl
    go_simp
    go_at_call 25
    refine (docFewRec_any Sr ownr r _ _ (HE.out.below hR.bel).p.2.2).mono ?_
    rintro e w' ⟨rfl, hbx⟩
    rw [HFR.out]
    exact hK _ _ hbx rfl
  · refine RStep.mk rfl rfl (fun S a wx K Q hR hK => ?_)
    have t25 := hR.eq 1 (by kernel_rfl) rfl rfl
    go_simp
    exact hK _ _ (Below.refl _ _) rfl
  · refine RStep.mk rfl rfl (fun S a wx K Q hR hK => ?_)
    have t26 := hR.eq 2 (by kernel_rfl) rfl rfl
    go_simp
    exact hK _ _ (Below.refl _ _) rfl
  · refine RStep.mk rfl rfl (fun S a wx K Q hR hK => ?_)
    have t5 : a.tmps[5]? = some (.pointer (some ⟨w.heap.size + 1, 0, none⟩)) := (hR.old 5 (by kernel_rfl)).trans (by kernel_rfl)
    have H := (HE.out.below hR.bel).cell (.tail _ (.head _)); have y0 := H 0; have y1 := H 1; have y2 := H 2; have y3 := H 3; have y4 := H 4; have y5 := H 5; have y6 := H 6; have y7 := H 7; have y8 := H 8; have y9 := H 9; have y10 := H 10; clear H
    go_simp
    exact hK _ _ (Below.refl _ _) rfl
  · refine RStep.mk rfl rfl (fun S a wx K Q hR hK => ?_)
    have t28 := hR.eq 4 (by kernel_rfl) rfl rfl
    go_simp
    go_at_call 25
    refine (docFewRec_any So owno o _ _ (HE.out.below hR.bel).p.2.1).mono ?_
    rintro e w' ⟨rfl, hbx⟩
    rw [HFO.out]
    exact hK _ _ hbx rfl
  · refine RStep.mk rfl rfl (fun S a wx K Q hR hK => ?_)
    have t29 := hR.eq 5 (by kernel_rfl) rfl rfl
    go_simp
    exact hK _ _ (Below.refl _ _) rfl
  · refine RStep.mk rfl rfl (fun S a wx K Q hR hK => ?_)
    have t27 := hR.eq 3 (by kernel_rfl) rfl rfl
    have t30 := hR.eq 6 (by kernel_rfl) rfl rfl
    go_simp
    exact hK _ _ (Below.refl _ _) rfl
  · refine RStep.mk rfl rfl (fun S a wx K Q hR hK => ?_)
    have t31 := hR.eq 7 (by kernel_rfl) rfl rfl
    go_simp
    exact hK _ _ (Below.refl _ _) rfl
  · refine RStep.mk rfl rfl (fun S a wx K Q hR hK => ?_)
    have t6 : a.tmps[6]? = some (.pointer (some ⟨w.heap.size + 2, 0, none⟩)) := (hR.old 6 (by kernel_rfl)).trans (by kernel_rfl)
    go_simp
    exact hK _ _ (Below.refl _ _) rfl
  · refine RStep.mk rfl rfl (fun S a wx K Q hR hK => ?_)
    have t33 := hR.eq 9 (by kernel_rfl) rfl rfl
    have y0 := (HE.out.below hR.bel).cell (.head _) 1
    go_simp
    exact hK _ _ (Below.refl _ _) rfl
  · refine RStep.mk rfl rfl (fun S a wx K Q hR hK => ?_)
    have t34 := hR.eq 10 (by kernel_rfl) rfl rfl
    go_simp
    exact hK _ _ (Below.refl _ _) rfl
  · refine RStep.mk rfl rfl (fun S a wx K Q hR hK => ?_)
    have t35 := hR.eq 11 (by kernel_rfl) rfl rfl
    have q := HQB.out
    go_simp
    (try go_ints)
    exact hK _ _ (Below.refl _ _) rfl
  · refine RStep.mk rfl rfl (fun S a wx K Q hR hK => ?_)
    have t32 := hR.eq 8 (by kernel_rfl) rfl rfl
    have t36 := hR.eq 12 (by kernel_rfl) rfl rfl
    go_simp
    exact hK _ _ (Below.refl _ _) rfl
  · refine RStep.mk rfl rfl (fun S a wx K Q hR hK => ?_)
    have t37 := hR.eq 13 (by kernel_rfl) rfl rfl
    go_simp
    exact hK _ _ (Below.refl _ _) rfl
  · refine RStep.mk rfl rfl (fun S a wx K Q hR hK => ?_)
    have t3 : a.tmps[3]? = some (.string s) := (hR.old 3 (by kernel_rfl)).trans (by kernel_rfl)
    go_simp
    exact hK _ _ (Below.refl _ _) rfl
  · refine RStep.mk rfl rfl (fun S a wx K Q hR hK => ?_)
    have t39 := hR.eq 15 (by kernel_rfl) rfl rfl
    go_simp
    exact hK _ _ (Below.refl _ _) rfl
  · refine RStep.mk rfl rfl (fun S a wx K Q hR hK => ?_)
    have t40 := hR.eq 16 (by kernel_rfl) rfl rfl
    have q := HQS.out
    go_simp
    (try go_ints)
    exact hK _ _ (Below.refl _ _) rfl
  · refine RStep.mk rfl rfl (fun S a wx K Q hR hK => ?_)
    have t38 := hR.eq 14 (by kernel_rfl) rfl rfl
    have t41 := hR.eq 17 (by kernel_rfl) rfl rfl
    go_simp
    exact hK _ _ (Below.refl _ _) rfl
  intro S1 vs w1 hD
  have HE1 := Lib.hid (HE.out.below hD.bel)
  simp only [putsL, List.foldl_cons, List.foldl_nil]
  clear hD
  go_simp
  go_wp2_with fail
  refine (works5_any _ ((HL.out.below HE1.out.bel).mono HE1.out.bel.size)).mono ?_
  rintro e w2 ⟨rfl, hbl⟩
  have HFIN := Lib.hid (HE1.out.below hbl).bel
  clear hbl
  go_wp2_with fail
  go_ret
  exact ⟨rfl, HFIN.out⟩
theorem recordBack_law (Sr So Sf : Nat → Prop) (ownr owno ownf : Bool) (r o : Rec) (kf : Nat) (b : List UInt8) (s : ByteArray) (v1 v2 vb : Value) (w : World) (hr : RepR w Sr ownr r v1) (ho : RepR w So owno o v2) (hf : RepB w Sf ownf b vb) (hkf : kf < 256) (hL : Lq w.heap.size w) :
    Calls Tryz.prog 5 #[v1, v2, .agg #[.int .u8 kf, vb], .string s] w fun e w' => e = .returned (.bool true) ∧ Below w.heap.size w w' := by
  obtain ⟨m0, m1, m2, m3, m4, m5, m6, m7, rfl, _⟩ := hr.conc
  obtain ⟨q0, q1, q2, q3, q4, q5, q6, q7, rfl, _⟩ := ho.conc
  obtain ⟨_, f8, f9, rfl, _⟩ := hf.shape
  cases h1 : (decide (r.es.length ≤ 60) && decide (r.p.size ≤ 60)) with
  | false => exact recordBack_out0 Sr So Sf ownr owno ownf r o kf b s m0 m1 m2 m3 m4 m5 m6 m7 q0 q1 q2 q3 q4 q5 q6 q7 f8 f9 w hr ho hf hkf hL h1
  | true =>
  cases h2 : (decide (o.es.length ≤ 60) && decide (o.p.size ≤ 60)) with
  | false => exact recordBack_out1 Sr So Sf ownr owno ownf r o kf b s m0 m1 m2 m3 m4 m5 m6 m7 q0 q1 q2 q3 q4 q5 q6 q7 f8 f9 w hr ho hf hkf hL h1 h2
  | true =>
  by_cases h3 : 400 < b.length
  · exact recordBack_out2 Sr So Sf ownr owno ownf r o kf b s m0 m1 m2 m3 m4 m5 m6 m7 q0 q1 q2 q3 q4 q5 q6 q7 f8 f9 w hr ho hf hkf hL h1 h2 h3
  by_cases h4 : 300 < s.size
  · exact recordBack_out3 Sr So Sf ownr owno ownf r o kf b s m0 m1 m2 m3 m4 m5 m6 m7 q0 q1 q2 q3 q4 q5 q6 q7 f8 f9 w hr ho hf hkf hL h1 h2 (by omega) h4
  simp only [Bool.and_eq_true, decide_eq_true_eq] at h1 h2
  exact recordBack_in Sr So Sf ownr owno ownf r o kf b s m0 m1 m2 m3 m4 m5 m6 m7 q0 q1 q2 q3 q4 q5 q6 q7 f8 f9 w hr ho hf hkf hL h1.1 h1.2 h2.1 h2.2 (by omega) (by omega)
end Go.Proofs.YtjedgiiplebofaaGreatDoor
