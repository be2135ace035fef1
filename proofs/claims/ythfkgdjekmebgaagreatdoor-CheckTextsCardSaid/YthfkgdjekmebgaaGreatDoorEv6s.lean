/- The evaluator's operations are the model's: iterators, conversions, calls; all of them. Plain lemmas. -/
import Derived.Test.YthfkgdjekmebgaaGreatDoorEv6r
namespace Go.Ev
open Go
set_option linter.unusedVariables false
set_option linter.unusedSimpArgs false
set_option linter.unusedSectionVars false
variable [Env]
section
variable {P : Program}
theorem range_ok {H : Tr AO} {nx : Nat} {t : TypeId} {x : AV} {u : Ou} (h : evRange P H nx t x = some (.ok u)) : Keep H nx u ∧ ∀ X m w A, Rel m x A → Pre P X m H nx u w → Does P (Instr.range t A >>= fun y => (pure (Next.value y) : Sem Next)) X nx u m w := by
  unfold evRange at h
  split at h
  · rename_i k e hd
    unfold evRangeM at h
    split at h
    · simp only [newO, Option.some.injEq, Rs.ok.injEq] at h
      subst h
      refine ⟨keep_new _ _ _ _ _ (live_0 _), fun X m w A hx hp => ?_⟩
      cases hx
      refine does_new (L := ⟨w.heap.size, 0, 0⟩) (V := .pointer (some ⟨w.heap.size, 0, none⟩)) hp (made_push w (.mapIter none 0 #[] 0)) rfl (fun hext => ⟨rfl, none, ?_, rfl⟩) (fun hext => .p nx 0 ⟨w.heap.size, 0, 0⟩ (upd_self _ _ _)) (run_v ?_)
      · show (w.heap.push _)[w.heap.size]? = _; simp
      · simp [Instr.range, run_und hd]
    · rename_i r
      split at h
      · rename_i es cl hrow
        cases h
        refine ⟨keep_new _ _ _ _ _ (live_bit hrow), fun X m w A hx hp => ?_⟩
        cases hx
        rename_i L hL
        obtain ⟨E, e1, e2⟩ := ent_of (hp.row hrow (bit_self r) hL)
        have hg := run_getObj (P := P) e1 (fun c e f h => by cases h)
        refine does_new (L := ⟨w.heap.size, 0, 0⟩) (V := .pointer (some ⟨w.heap.size, 0, none⟩)) hp (made_push w (.mapIter (some L.block) cl #[] cl)) rfl (fun hext => ⟨rfl, some L.block, ?_, L, hext _ _ hL, rfl⟩) (fun hext => .p nx 0 ⟨w.heap.size, 0, 0⟩ (upd_self _ _ _)) (run_v ?_)
        · show (w.heap.push _)[w.heap.size]? = _; simp
        · simp [Instr.range, run_und hd, hg]
      · cases h
    · cases h
  · cases h
theorem memN_eq (n : Nat) : ∀ l : List Nat, memN n l = l.contains n
  | [] => rfl
  | x :: xs => by
    simp only [memN, List.contains_cons, memN_eq n xs]
    congr 1
    rw [Bool.eq_iff_iff]
    constructor
    · intro h; have := beq_t h; subst this; simp
    · intro h; simp at h; subst h; exact Nat.beq_refl _
theorem filt_rel {m : Mp} {f : AV × AV × Nat → Bool} {g : MapEntry → Bool} : ∀ {es : List (AV × AV × Nat)} {E : List MapEntry}, EntR m es E → (∀ (k v : AV) (b : Nat) (x : MapEntry), x.born = b → f (k, v, b) = g x) → EntR m (es.filter f) (E.filter g)
  | [], E, h, _ => by rw [h.nil_inv]; exact ⟨rfl, fun i k v b x h => by simp at h⟩
  | (k, v, b) :: es, E, h, hfg => by
    obtain ⟨x, E', rfl, h1, h2, h3, h4⟩ := h.cons_inv
    have ih := filt_rel h4 hfg
    simp only [List.filter_cons, hfg k v b x h3]
    cases g x with
    | false => simpa using ih
    | true =>
      simp only [if_true]
      refine ⟨by simp [ih.1], fun i k2 v2 b2 y a1 a2 => ?_⟩
      cases i with
      | zero => simp at a1 a2; obtain ⟨rfl, rfl, rfl⟩ := a1; subst a2; exact ⟨h1, h2, h3⟩
      | succ i => exact ih.2 i k2 v2 b2 y (by simpa using a1) (by simpa using a2)
theorem all_rel {m : Mp} {f : AV × AV × Nat → Bool} {g : MapEntry → Bool} : ∀ {es : List (AV × AV × Nat)} {E : List MapEntry}, EntR m es E → (∀ (k v : AV) (b : Nat) (x : MapEntry), x.born = b → f (k, v, b) = g x) → es.all f = E.all g
  | [], E, h, _ => by rw [h.nil_inv]; rfl
  | (k, v, b) :: es, E, h, hfg => by
    obtain ⟨x, E', rfl, h1, h2, h3, h4⟩ := h.cons_inv
    simp only [List.all_cons, hfg k v b x h3, all_rel h4 hfg]
theorem next_ok {H : Tr AO} {nx : Nat} {str : Bool} {x : AV} {u : Ou} {ty : TypeId} (h : evNext H nx str x = some (.ok u)) : Keep H nx u ∧ ∀ X m w A, Rel m x A → Pre P X m H nx u w → Does P (Instr.next A str ty >>= fun y => (pure (Next.value y) : Sem Next)) X nx u m w := by
  unfold evNext at h
  split at h
  · rename_i r o
    split at h
    · split at h
      · cases h
      · split at h
        · rename_i q since seen last hrow
          split at h
          · cases h
            refine ⟨keep_pure _ _ _ _ (live_bit hrow), fun X m w A hx hp => ?_⟩
            cases hx
            rename_i L hL
            obtain ⟨hb, B, e1, e2⟩ := hp.row hrow (bit_self r) hL
            have e2 : B = none := e2
            subst e2
            have hg := run_getObj (P := P) e1 (fun c e f h => by cases h)
            refine does_pure hp (run_v (V := .tuple #[.bool false]) ?_) (.t_of (.cons (.b _) (.nil m)))
            rw [hb]
            simp [Instr.next, hg]
          · rename_i q
            unfold evNextM at h
            split at h
            · rename_i es cl hmap
              split at h
              · cases h
              · rename_i hun
                have both : ∀ (X : Nat → Prop) m w (L : Loc) (u : Ou), Pre P X m H nx u w → (∀ z, (bit r ||| bit q).testBit z = true → u.R.testBit z = true) → m r = some L → ∃ L2 E, L.base = 0 ∧ m q = some L2 ∧ w.heap[L.block]? = some (.mapIter (some L2.block) since seen.toArray last) ∧ w.heap[L2.block]? = some (.map E cl) ∧ EntR m es E.toList ∧
                    (!seen.toArray.isEmpty && !E.isEmpty && E.all (fun e => decide (e.born ≥ last))) = false := by
                  intro X m w L u hp hR hL
                  obtain ⟨hb, B, e1, L2, e2, e3⟩ := hp.row hrow (hR r (or_l (bit_self r))) hL
                  subst e3
                  obtain ⟨E, e4, e5⟩ := ent_of (hp.row hmap (hR q (or_r (bit_self q))) e2)
                  refine ⟨L2, E, hb, e2, e1, e4, e5, ?_⟩
                  have ha := all_rel (f := fun e => Nat.ble last e.2.2) (g := fun e => decide (e.born ≥ last)) e5 (fun k v b x hx => by
                    show Nat.ble last b = decide (x.born ≥ last)
                    rw [hx, Bool.eq_iff_iff]; simp [Nat.ble_eq])
                  have hl : es.isEmpty = E.isEmpty := by
                    have := e5.1
                    rw [Bool.eq_iff_iff]
                    simp only [List.isEmpty_iff, Array.isEmpty_iff_size_eq_zero]
                    rw [← List.length_eq_zero_iff, this]; simp
                  rw [← hl, ← Array.all_toList, ← ha]
                  simpa using hun
                have filt : ∀ m (E : Array MapEntry), EntR m es E.toList → EntR m (es.filter fun e => !memN e.2.2 seen) (E.filter fun e => !seen.toArray.contains e.born).toList := by
                  intro m E hE
                  rw [Array.toList_filter]
                  exact filt_rel hE fun k v b x hx => by
                    show (!memN b seen) = !seen.toArray.contains x.born
                    rw [memN_eq, hx]; simp
                split at h
                · rename_i hfl
                  cases h
                  refine ⟨keep_pure _ _ _ _ (live_or (live_bit hrow) (live_bit hmap)), fun X m w A hx hp => ?_⟩
                  cases hx
                  rename_i L hL
                  obtain ⟨L2, E, hb, e2, e1, e4, e5, e6⟩ := both X m w L _ hp (fun z hz => hz) hL
                  have hg := run_getObj (P := P) e1 (fun c e f h => by cases h)
                  have hg2 := run_getObj (P := P) e4 (fun c e f h => by cases h)
                  have hf := filt m E e5
                  rw [hfl] at hf
                  have hleft : (E.filter fun e => !seen.toArray.contains e.born) = #[] := Array.toList_inj.1 hf.nil_inv
                  refine does_pure hp (run_v (V := .tuple #[.bool false]) ?_) (.t_of (.cons (.b _) (.nil m)))
                  rw [hb]
                  simp only [Instr.next, Sem.run_bind, hg, hg2, Result.andThen_ok, e6, Bool.false_eq_true, if_false, hleft]
                  simp [Question.forced]
                · rename_i k v b hfl
                  split at h
                  · rename_i hlt
                    have hlt := blt_t hlt
                    cases h
                    have hbr : (bit r ||| bit q).testBit r = true := or_l (bit_self r)
                    refine ⟨keep_set hrow hbr (live_or (live_bit hrow) (live_bit hmap)), fun X m w A hx hp => ?_⟩
                    cases hx
                    rename_i L hL
                    obtain ⟨L2, E, hb, e2, e1, e4, e5, e6⟩ := both X m w L _ hp (fun z hz => hz) hL
                    have hg := run_getObj (P := P) e1 (fun c e f h => by cases h)
                    have hg2 := run_getObj (P := P) e4 (fun c e f h => by cases h)
                    have hf := filt m E e5
                    rw [hfl] at hf
                    obtain ⟨y, l', q1, q2, q3, q4, q5⟩ := hf.cons_inv
                    have := q5.nil_inv
                    subst this
                    have hleft : (E.filter fun e => !seen.toArray.contains e.born) = #[y] := Array.toList_inj.1 q1
                    have hs := run_setObj (P := P) (o' := .mapIter (some L2.block) since (seen ++ [y.born]).toArray cl) e1 (fun c e f h => by cases h)
                    obtain ⟨w1, w2⟩ := wrote_obj (o' := .mapIter (some L2.block) since (seen ++ [y.born]).toArray cl) e1
                    refine does_set (V := .tuple #[.bool true, y.key, y.val]) hp hbr hrow hL w1 ⟨hb, some L2.block, ?_, L2, e2, rfl⟩ (.t_of (.cons (.b _) (.cons q2 (.cons q3 (.nil m))))) (.inl (run_v ?_))
                    · rw [w2]; simp [q4]
                    · rw [hb]
                      have o1 : (#[y].filter fun e => decide (e.born < since)) = #[y] := by simp [q4, hlt]
                      have o2 : (#[y].filter fun e => decide (e.born ≥ since)) = #[] := by simp [q4]; omega
                      simp only [Instr.next, Sem.run_bind, hg, hg2, Result.andThen_ok, e6, Bool.false_eq_true, if_false, hleft, o1, o2]
                      simp [Question.forced, hs]
                  · cases h
                · cases h
            · cases h
        · cases h
    · cases h
  · cases h
theorem lastN_eq : ∀ l : List Nat, lastN l = l.getLast?
  | [] => rfl
  | [x] => rfl
  | x :: y :: l => by simp only [lastN]; rw [lastN_eq (y :: l)]; simp [List.getLast?_cons_cons]
theorem findB_ok {m : Mp} {b : Nat} {k v : AV} : ∀ {es : List (AV × AV × Nat)} {E : List MapEntry}, findB b es = some (k, v) → EntR m es E → ∃ x, E.find? (fun e => e.born == b) = some x ∧ Rel m k x.key ∧ Rel m v x.val
  | [], E, h, _ => by simp [findB] at h
  | (k', v', b') :: es, E, h, hE => by
    obtain ⟨x, E', rfl, h1, h2, h3, h4⟩ := hE.cons_inv
    simp only [findB] at h
    split at h
    · rename_i hb
      have := beq_t hb; subst this
      cases h
      exact ⟨x, by simp [List.find?_cons, h3], h1, h2⟩
    · rename_i hb
      have hne := beq_f hb
      obtain ⟨y, g1, g2⟩ := findB_ok h h4
      have : (x.born == b) = false := by rw [h3]; simp [hne]
      exact ⟨y, by simp [List.find?_cons, this, g1], g2⟩
theorem entryI_ok {H : Tr AO} {nx : Nat} {x : AV} {u : Ou} (h : evEntryI H nx x = some (.ok u)) : Keep H nx u ∧ ∀ X m w A, Rel m x A → Pre P X m H nx u w → Does P (Instr.entry A >>= fun y => (pure (Next.value y) : Sem Next)) X nx u m w := by
  unfold evEntryI at h
  split at h
  · rename_i r
    split at h
    · rename_i q since seen st hrow
      split at h
      · rename_i es cl b hmap hlast
        split at h
        · rename_i k v hcl hfb
          have hcl := beq_t hcl
          subst hcl
          cases h
          refine ⟨keep_pure _ _ _ _ (live_or (live_bit hrow) (live_bit hmap)), fun X m w A hx hp => ?_⟩
          cases hx
          rename_i L hL
          obtain ⟨hb, B, e1, L2, e2, e3⟩ := hp.row hrow (or_l (bit_self r)) hL
          subst e3
          obtain ⟨E, e4, e5⟩ := ent_of (hp.row hmap (or_r (bit_self q)) e2)
          have hg := run_getObj (P := P) e1 (fun c e f h => by cases h)
          have hg2 := run_getObj (P := P) e4 (fun c e f h => by cases h)
          obtain ⟨y, g1, g2, g3⟩ := findB_ok hfb e5
          have hback : seen.toArray.back? = some b := by rw [← hlast, lastN_eq]; simp
          have hfind : E.find? (fun e => e.born == b) = some y := by cases E; simpa using g1
          refine does_pure hp (run_v (V := .tuple #[y.key, y.val]) ?_) (.t_of (.cons g2 (.cons g3 (.nil m))))
          rw [hb]
          simp [Instr.entry, hg, hg2, hback, hfind]
        · cases h
      · cases h
    · cases h
  · cases h
theorem toBytes_ok {m : Mp} : ∀ {xs : List AV} {b : List UInt8} {A : List Value}, toBytes xs = some b → RelL m xs A → ∃ ns : List Int, A = ns.map (Value.int .u8) ∧ ns.map (fun n => UInt8.ofNat n.toNat) = b
  | [], b, A, h, hA => by simp [toBytes] at h; subst h; exact ⟨[], by rw [hA.nil_inv]; rfl, rfl⟩
  | x :: xs, b, A, h, hA => by
    obtain ⟨V, A', rfl, h1, h2⟩ := hA.cons_inv
    unfold toBytes at h
    split at h
    · rename_i e; cases e
    · rename_i n l e
      obtain ⟨rfl, rfl⟩ := List.cons.inj e
      split at h
      · rename_i b' hn hb
        cases h
        cases h1
        obtain ⟨ns, g1, g2⟩ := toBytes_ok hb h2
        exact ⟨(n : Int) :: ns, by rw [g1]; rfl, by rw [← g2]; simp⟩
      · cases h
    · cases h
theorem fold_push : ∀ (ns : List Int) (s : ByteArray), (ns.foldl (fun r n => r.push (UInt8.ofNat n.toNat)) s).data.toList = s.data.toList ++ ns.map fun n => UInt8.ofNat n.toNat
  | [], s => by simp
  | n :: ns, s => by
    simp only [List.foldl_cons, fold_push ns, List.map_cons]
    simp [ByteArray.push]
theorem conv_ok {H : Tr AO} {nx : Nat} {src dst : TypeId} {x : AV} {u : Ou} (h : evConv P H nx src dst x = some (.ok u)) : Keep H nx u ∧ ∀ X m w A, Rel m x A → Pre P X m H nx u w → Does P (convert src dst A >>= fun y => (pure (Next.value y) : Sem Next)) X nx u m w := by
  unfold evConv at h
  split at h
  · rename_i s hs
    split at h
    · rename_i d hd
      unfold evConvD at h
      split at h
      · rename_i k
        unfold evConvI at h
        split at h
        · rename_i q n
          have hu := pure_inv h
          subst hu
          refine ⟨keep_pure _ _ _ _ (live_0 _), fun X m w A hx hp => ?_⟩
          cases hx
          refine does_pure hp (run_v (V := .int k (k.wrap n)) ?_) (.i _ _)
          cases s <;> simp [convert, run_und hs, run_und hd, Conv.intToInt]
        · cases h
      · split at h
        · rename_i e
          unfold evConvB at h
          split at h
          · split at h
            · rename_i he
              have hu := pure_inv h
              subst hu
              refine ⟨keep_pure _ _ _ _ (live_0 _), fun X m w A hx hp => ?_⟩
              cases hx
              refine does_pure hp (run_v (V := .string .empty) ?_) (.s _ _ rfl)
              simp [convert, run_und hs, run_und hd, run_und he, Conv.bytesToString]
            · cases h
          · rename_i r o n c rel
            split at h
            · rename_i he
              split at h
              · rename_i l e' tl hrow
                split at h
                · rename_i xs hc
                  split at h
                  · rename_i b hb
                    cases h
                    refine ⟨keep_pure _ _ _ _ (live_bit hrow), fun X m w A hx hp => ?_⟩
                    have key : ∀ L, m r = some L → ∀ cp, A = .slice (some ⟨L.block, L.base + o, none⟩) n cp → Does P (convert src dst A >>= fun y => (pure (Next.value y) : Sem Next)) X nx ⟨.s b, H, nx, bit r, 0⟩ m w := by
                      intro L hL cp hA
                      subst hA
                      obtain ⟨C, fr, g1, g2, g3, g4⟩ := hp.row hrow (bit_self r) hL
                      obtain ⟨c1, c2⟩ := row_cut g3 hc
                      obtain ⟨ns, n1, n2⟩ := toBytes_ok hb c2
                      have hl := run_loadRow (P := P) g1 c1
                      have hl' : (loadCells ⟨L.block, L.base + o, none⟩ n).run P w = .ok (ns.map (Value.int .u8)).toArray w := by
                        rw [hl]; congr 1; exact Array.toList_inj.1 (by rw [n1])
                      refine does_pure hp (run_v (V := .string (ns.foldl (fun r n => r.push (UInt8.ofNat n.toNat)) ByteArray.empty)) ?_) (.s _ _ (by rw [fold_push, n2]; rfl))
                      have := run_bytesToString w ⟨L.block, L.base + o, none⟩ n cp ns hl'
                      simp [convert, run_und hs, run_und hd, run_und he, this]
                    cases hx
                    · rename_i L hL; exact key L hL _ rfl
                    · rename_i L hL hn; exact key L hL _ rfl
                  · cases h
                · cases h
              · cases h
            · cases h
          · cases h
        · unfold evConvS at h
          split at h
          · rename_i l
            have hu := pure_inv h
            subst hu
            refine ⟨keep_pure _ _ _ _ (live_0 _), fun X m w A hx hp => ?_⟩
            have hx' := hx
            cases hx
            refine does_pure hp (run_v ?_) hx'
            simp [convert, run_und hs, run_und hd]
          · cases h
        · cases h
      · rename_i e
        unfold evConvT at h
        split at h
        · rename_i l
          split at h
          · rename_i he
            split at h
            · rename_i hz
              simp only [newO, Option.some.injEq, Rs.ok.injEq] at h
              subst h
              refine ⟨keep_new _ _ _ _ _ (live_0 _), fun X m w A hx hp => ?_⟩
              cases hx
              rename_i S hS
              have hsz : S.size = l.length := by rw [← hS, Array.length_toList]; rfl
              generalize hcp : grownCap w S.size 0 e = cp
              have hge : S.size ≤ cp := by rw [← hcp]; exact grown_ge _ _ _ _
              generalize hC : ((S.data.map fun b => Value.int .u8 b.toNat) ++ Array.replicate (cp - S.size) (Value.int .u8 0)) = C
              have hCs : C.size = cp := by rw [← hC]; simp; have : S.data.size = S.size := rfl; omega
              have hcells : ∀ (i : Nat) (x : AV), (l.map fun c => AV.i .u8 c.toNat)[i]? = some x → ∃ V, C[0 + i]? = some V ∧ Rel (upd m nx ⟨w.heap.size, 0, cp⟩) x V := by
                intro i x hx
                rw [List.getElem?_map] at hx
                cases hi : l[i]? with
                | none => rw [hi] at hx; cases hx
                | some c =>
                  rw [hi] at hx
                  simp only [Option.map_some, Option.some.injEq] at hx
                  subst hx
                  have hlt := (List.getElem?_eq_some_iff.1 hi).1
                  refine ⟨.int .u8 c.toNat, ?_, .i _ _⟩
                  rw [Nat.zero_add, ← hC, Array.getElem?_append_left (by simp; have : S.data.size = S.size := rfl; omega), Array.getElem?_map, ← Array.getElem?_toList, hS, hi]
                  rfl
              let w' : World := (w.drew.alloc (.cells C e)).freeze { block := w.heap.size, off := C.size } 1
              have hrow : w'.heap[w.heap.size]? = some (.cells C e (C.size, C.size + 1)) := by
                show ((w.heap.push (.cells C e)).modify w.heap.size _)[w.heap.size]? = _
                rw [Array.getElem?_modify]
                simp
              have hold : ∀ b, b < w.heap.size → w'.heap[b]? = w.heap[b]? := by
                intro b hb
                show ((w.heap.push (.cells C e)).modify w.heap.size _)[b]? = _
                rw [Array.getElem?_modify, if_neg (by omega), Array.getElem?_push, if_neg (by omega)]
              have hsize : w'.heap.size = w.heap.size + 1 := by
                show ((w.heap.push (.cells C e)).modify w.heap.size _).size = _
                simp
              refine does_new (L := ⟨w.heap.size, 0, cp⟩) (w' := w') (V := .slice (some ⟨w.heap.size, 0, none⟩) S.size cp) hp ⟨hsize, hold, rfl, rfl, rfl⟩ rfl (fun hext => ⟨C, _, hrow, .inl (Nat.le_refl _), hcells, fun _ => ⟨1, hz, by omega, by rw [hCs]; simp⟩⟩) (fun hext => ?_) (run_v ?_)
              · have := Rel.slr (m := upd m nx ⟨w.heap.size, 0, cp⟩) nx 0 S.size 0 ⟨w.heap.size, 0, cp⟩ (upd_self _ _ _) (by simpa using hge)
                rw [← hsz]
                simpa using this
              · have hcp' : (Question.appendCap S.size 0 e).cut (w.tape w.drawn (.appendCap S.size 0 e)) = cp := hcp
                have hsh : (w.drew.alloc (.cells C e)).shape? w.heap.size = some (e, C.size) := by
                  unfold World.shape?
                  have : (w.drew.alloc (.cells C e)).heap[w.heap.size]? = some (.cells C e (0, 0)) := by
                    show (w.heap.push _)[w.heap.size]? = _; simp
                  rw [this]
                have hconv : (Conv.stringToBytes e S).run P w = .ok (.slice (some ⟨w.heap.size, 0, none⟩) S.size cp) w' := by
                  simp only [Conv.stringToBytes, Sem.run_bind, run_choose, Question.forced, Bool.false_eq_true, if_false, Result.andThen_ok, hcp', hC, newRow, run_newObj, Sem.run_pure, markStringish, run_shape]
                  have hsh' : World.shape? { w with drawn := w.drawn + 1, heap := w.heap.push (.cells C e) } w.heap.size = some (e, C.size) := hsh
                  simp only [hsh', run_freeze, Result.andThen_ok]
                  rfl
                cases s <;> simp [convert, run_und hs, run_und hd, run_und he, hconv]
            · cases h
          · cases h
        · cases h
      · cases h
    · cases h
  · cases h
end
end Go.Ev
