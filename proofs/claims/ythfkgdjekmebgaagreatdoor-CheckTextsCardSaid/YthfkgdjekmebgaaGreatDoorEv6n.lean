/- The evaluator's operations are the model's: append, copy, length. Plain lemmas. -/
import Derived.Test.YthfkgdjekmebgaaGreatDoorEv6m
namespace Go.Ev
open Go
set_option linter.unusedVariables false
set_option linter.unusedSimpArgs false
set_option linter.unusedSectionVars false
variable [Env]
section
variable {P : Program}
theorem str_cells (m : Mp) : ∀ (l : List UInt8), RelL m (l.map fun c => .i .u8 c.toNat) (l.map fun b => Value.int .u8 b.toNat)
  | [] => .nil m
  | c :: l => .cons (.i _ _) (str_cells m l)
theorem str_one : ∀ (l : List UInt8), (l.map fun c => AV.i .u8 c.toNat).all AV.one = true
  | [] => rfl
  | c :: l => by simp [AV.one]
theorem first_ok {H : Tr AO} {z n rx : Nat} {x : AV} {xs : List AV} (h : cellsOf H z x = some (xs, n, rx)) {X : Nat → Prop} {m : Mp} {V : Value} {w : World} (hx : Rel m x V) (hrep : RepOn P X m H.get w) (hR : ∀ r, rx.testBit r = true → X r) :
    (∀ w0 : World, (Builtin.lenOf V).run P w0 = .ok n w0) ∧ xs.length = n * z ∧ ∀ n', n' ≤ n → ∃ A : Array Value, (∀ w0 : World, w0.heap = w.heap → (Builtin.firstCells z n' V).run P w0 = .ok A w0) ∧ RelL m (xs.take (n' * z)) A.toList := by
  unfold cellsOf at h
  split at h
  · cases h; cases hx
    refine ⟨fun _ => rfl, by simp, fun n' hn => ⟨#[], fun w0 _ => rfl, by simpa using RelL.nil m⟩⟩
  · rename_i l
    split at h
    · rename_i hb
      have := beq_t hb; subst this
      cases h; cases hx
      rename_i S hS
      have hsz : S.size = l.length := by rw [← hS, Array.length_toList]; rfl
      refine ⟨fun _ => by rw [← hsz]; rfl, by simp, fun n' hn => ⟨(S.extract 0 n').data.map fun b => .int .u8 b.toNat, fun w0 _ => rfl, ?_⟩⟩
      rw [Nat.mul_one, ← List.map_take]
      have : ((S.extract 0 n').data.map fun b => Value.int .u8 b.toNat).toList = (l.take n').map fun b => Value.int .u8 b.toNat := by
        rw [Array.toList_map, ByteArray.data_extract, ← hS]
        simp [List.extract_eq_take_drop]
      rw [this]
      exact str_cells m _
    · cases h
  · rename_i r o k c rel
    split at h
    · rename_i l e tl hrow
      split at h
      · rename_i ys hc
        cases h
        have key : ∀ L : Loc, m r = some L → ∀ cp, V = .slice (some ⟨L.block, L.base + o, none⟩) n cp → (∀ w0 : World, (Builtin.lenOf V).run P w0 = .ok n w0) ∧ xs.length = n * z ∧ ∀ n', n' ≤ n → ∃ A : Array Value, (∀ w0 : World, w0.heap = w.heap → (Builtin.firstCells z n' V).run P w0 = .ok A w0) ∧ RelL m (xs.take (n' * z)) A.toList := by
          intro L hL cp hV
          subst hV
          obtain ⟨L', e1, e2⟩ := hrep.rep r _ (hR r (bit_self r)) hrow
          rw [hL] at e1; cases e1
          obtain ⟨C, fr, g1, g2, g3, g4⟩ := e2
          obtain ⟨c1, c2⟩ := cut_eq hc
          refine ⟨fun _ => rfl, c2, fun n' hn => ?_⟩
          have hle : n' * z ≤ n * z := Nat.mul_le_mul_right _ hn
          have hc' : cut l o (n' * z) = some (xs.take (n' * z)) := by
            unfold cut
            have : (l.drop o).take (n' * z) = xs.take (n' * z) := by
              rw [c1, List.take_take, Nat.min_eq_left hle]
            simp only [this]
            have hl : (xs.take (n' * z)).length = n' * z := by rw [List.length_take, c2]; omega
            rw [hl, show Nat.beq (n' * z) (n' * z) = true from Nat.beq_refl _]
          obtain ⟨d1, d2⟩ := row_cut g3 hc'
          exact ⟨_, fun w0 hw => by
            simp only [Builtin.firstCells]
            exact run_loadRow (by rw [hw]; exact g1) d1, d2⟩
        cases hx
        · rename_i L hL; exact key L hL _ rfl
        · rename_i L hL hn; exact key L hL _ rfl
      · cases h
    · cases h
  · cases h
theorem cells_live {H : Tr AO} {z n rx : Nat} {x : AV} {xs : List AV} (h : cellsOf H z x = some (xs, n, rx)) : ∀ q, rx.testBit q = true → H.get q ≠ none := by
  unfold cellsOf at h
  split at h
  · cases h; exact live_0 H
  · split at h
    · cases h; exact live_0 H
    · cases h
  · split at h
    · rename_i hrow
      split at h
      · cases h; exact live_bit hrow
      · cases h
    · cases h
  · cases h
theorem src_ok {H : Tr AO} {z n rx : Nat} {x : AV} {xs : List AV} (h : cellsOf H z x = some (xs, n, rx)) {X : Nat → Prop} {m : Mp} {V : Value} {w : World} {tx : TypeId} (hx : Rel m x V) (hrep : RepOn P X m H.get w) (hR : ∀ r, rx.testBit r = true → X r)
    (hk : isSeq (P.underlying tx) = true) (h1 : xs.all AV.one = true) : ∃ news : List Value, Src P z tx V n news w ∧ RelL m xs news := by
  obtain ⟨e1, e2, e3⟩ := first_ok h hx hrep hR
  obtain ⟨A, g1, g2⟩ := e3 n (Nat.le_refl _)
  rw [← e2, List.take_length] at g2
  refine ⟨A.toList, ⟨?_, e1, by simpa using g1 w rfl, by simpa using g1 w.drew rfl, by rw [← g2.1, e2], one_all g2 h1⟩, g2⟩
  unfold isSeq at hk
  split at hk
  · rename_i e hd; exact .inl ⟨e, hd⟩
  · rename_i hd; exact .inr hd
  · cases hk
theorem zeroCells_len (Z : Array Value) (n : Nat) : (Builtin.zeroCells Z n).size = n * Z.size := by simp [Builtin.zeroCells]
theorem grown_ge (w : World) (need old : Nat) (e : TypeId) : need ≤ grownCap w need old e := by
  unfold grownCap Question.cut; exact Nat.le_add_right _ _
/-- The row that an append makes. -/
theorem grow_row {m : Mp} {L : Loc} {l : List AV} {vs : List Value} {Z : Array Value} {e : TypeId} {need cp z : Nat} {w' : World} (hl : RelL m l vs) (hg : w'.heap[L.block]? = some (.cells (vs.toArray ++ Builtin.zeroCells Z (cp - need)) e (0, 0))) (hb : L.base = 0) (hcp : L.cap = cp)
    (hz : szO P e = some z) (hz0 : z ≠ 0) (hZ : Z.size = z) (hlen : vs.length = need * z) (hle : need ≤ cp) : RepO P m L (.c l e true) w' := by
  refine ⟨_, (0, 0), hg, .inr (Nat.le_refl _), fun i x hx => ?_, fun _ => ⟨z, hz, by omega, ?_⟩⟩
  · obtain ⟨V, h1, h2⟩ := hl.get hx
    have hi : i < vs.length := (List.getElem?_eq_some_iff.1 h1).1
    refine ⟨V, ?_, h2⟩
    rw [hb, Nat.zero_add, Array.getElem?_append_left (by simpa using hi)]
    simpa using h1
  · rw [Array.size_append, zeroCells_len, hb, hcp, hZ]
    simp only [List.size_toArray, hlen, Nat.zero_add]
    rw [← Nat.add_mul]; congr 1; omega
/-- A row goes into another one: the old one's number is dead. -/
theorem does_kill {x : Sem Next} {X : Nat → Prop} {H : Tr AO} {nx R r : Nat} {v : AV} {o o' : AO} {m : Mp} {w w' : World} {V : Value} {L L' : Loc} (hp : Pre P X m H nx ⟨v, (H.set r none).set nx (some o'), nx + 1, R, bit r⟩ w)
    (hR : R.testBit r = true) (hr : H.get r = some o) (hL : m r = some L) (hB : L'.block = L.block ∨ w.heap.size ≤ L'.block) (hs : w.heap.size ≤ w'.heap.size) (hold : ∀ b, b < w.heap.size → b ≠ L.block → w'.heap[b]? = w.heap[b]?) (hos : w'.os = w.os) (htp : w'.tape = w.tape) (hou : w'.output = w.output)
    (ho : (∀ q K, m q = some K → upd m nx L' q = some K) → RepO P (upd m nx L') L' o' w') (hv : Rel (upd m nx L') v V) (h : x.run P w = .ok (.value V) w') : Does P x X nx ⟨v, (H.set r none).set nx (some o'), nx + 1, R, bit r⟩ m w := by
  obtain ⟨hm, hX⟩ := hp.fresh nx (Nat.le_refl _) (Nat.lt_succ_self _)
  have hext := upd_ext (L := L') hm
  have hXr : X r := hp.R r hR
  have hrn : r ≠ nx := fun e => hX (e ▸ hXr)
  have hget : ∀ q, q ≠ nx → q ≠ r → ((H.set r none).set nx (some o')).get q = H.get q := fun q h1 h2 => by rw [Tr.get_set, if_neg h1, Tr.get_set, if_neg h2]
  have hgr : ((H.set r none).set nx (some o')).get r = none := by rw [Tr.get_set, if_neg hrn, Tr.get_set, if_pos rfl]
  have old : ∀ q oq, X q → q ≠ r → H.get q = some oq → ∃ K, m q = some K ∧ RepO P (upd m nx L') K oq w' ∧ K.block < w.heap.size ∧ K.block ≠ L.block := fun q oq hq hqr hoq => by
    obtain ⟨K, g1, g2⟩ := hp.rep.rep q oq hq hoq
    have hne := hp.rep.inj q r K L hq hXr (by rw [hoq]; simp) (by rw [hr]; simp) hqr g1 hL
    exact ⟨K, g1, g2.keep P hext (hold _ g2.lt hne), g2.lt, hne⟩
  have hmv : Mv (bit r) nx (nx + 1) m w (upd m nx L') w' := by
    refine ⟨hext, fun q K e => ?_, hs, fun b hb hn => hold b hb fun e => hn r L (bit_self r) hL e.symm, hos, htp, hou⟩
    unfold upd at e
    by_cases hq : q = nx
    · subst hq
      rw [if_pos rfl] at e; cases e
      refine .inr ⟨Nat.le_refl _, Nat.lt_succ_self _, ?_⟩
      rcases hB with hB | hB
      · exact .inr ⟨r, L, bit_self r, hL, hB.symm⟩
      · exact .inl hB
    · rw [if_neg hq] at e; exact .inl e
  refine ⟨upd m nx L', V, w', .inl h, hv, hmv, fun q oq hq hoq => ?_, fun q q' K1 K2 h1 h2 h3 h4 hne e1 e2 => ?_, Env.st hp.rep.env hmv⟩
  · by_cases hqn : q = nx
    · subst hqn
      simp only [Tr.get_set, if_pos] at hoq
      cases hoq
      exact ⟨L', upd_self _ _ _, ho hext⟩
    · have hx : X q := hq.resolve_right fun e => by have := e.1; have := e.2; simp at this; omega
      by_cases hqr : q = r
      · subst hqr; rw [hgr] at hoq; cases hoq
      · rw [hget q hqn hqr] at hoq
        obtain ⟨K, g1, g2, _⟩ := old q oq hx hqr hoq
        exact ⟨K, hext _ _ g1, g2⟩
  · have key : ∀ q K, q ≠ nx → (X q ∨ (nx ≤ q ∧ q < nx + 1)) → ((H.set r none).set nx (some o')).get q ≠ none → upd m nx L' q = some K → X q ∧ H.get q ≠ none ∧ m q = some K ∧ K.block < w.heap.size ∧ K.block ≠ L.block := by
      intro q K hq hx hn e
      have hx : X q := hx.resolve_right fun e => by have := e.1; have := e.2; omega
      have hqr : q ≠ r := fun e => hn (e ▸ hgr)
      rw [hget q hq hqr] at hn
      obtain ⟨oq, hoq⟩ := Option.ne_none_iff_exists'.1 hn
      obtain ⟨K', g1, _, g3, g4⟩ := old q oq hx hqr hoq
      have e' : m q = some K := by unfold upd at e; rw [if_neg hq] at e; exact e
      rw [e'] at g1; cases g1
      exact ⟨hx, hn, e', g3, g4⟩
    by_cases hq : q = nx
    · subst hq
      rw [upd_self] at e1; cases e1
      obtain ⟨_, _, _, g, g'⟩ := key q' K2 (fun e => hne e.symm) h2 h4 e2
      rcases hB with hB | hB <;> omega
    · obtain ⟨a1, a2, a3, a4, a5⟩ := key q K1 hq h1 h3 e1
      by_cases hq' : q' = nx
      · subst hq'
        rw [upd_self] at e2; cases e2
        rcases hB with hB | hB <;> omega
      · obtain ⟨b1, b2, b3, b4, b5⟩ := key q' K2 hq' h2 h4 e2
        exact hp.rep.inj q q' K1 K2 a1 b1 a2 b2 hne a3 b3
theorem keep_kill {H : Tr AO} {nx r : Nat} {v : AV} {o o' : AO} {R : Nat} (hr : H.get r = some o) (hR : R.testBit r = true) (hl : ∀ r, R.testBit r = true → H.get r ≠ none) : Keep H nx ⟨v, (H.set r none).set nx (some o'), nx + 1, R, bit r⟩ :=
  ⟨Nat.le_succ _, hl, fun k h => by rw [bit_tb] at h; have := of_decide_eq_true h; subst this; exact ⟨hR, by rw [hr]; simp⟩,
    fun k h hn => by rw [bit_tb] at h; simp only [Tr.get_set]; rw [if_neg (by simp at hn; omega), if_neg (of_decide_eq_false h)]⟩
/-- What an append does. -/
theorem append_ok {H : Tr AO} {nx : Nat} {tys : Array TypeId} {s x : AV} {u : Ou} (h : evAppend P H nx tys s x = some (.ok u)) :
    Keep H nx u ∧ ∀ X m w (S V : Value) (ty : TypeId), Rel m s S → Rel m x V → Pre P X m H nx u w → Does P (Builtin.append_ tys ty #[S, V] >>= fun y => (pure (Next.value y) : Sem Next)) X nx u m w := by
  unfold evAppend at h
  split at h
  · rename_i ts tx htys
    have htys' : tys = #[ts, tx] := by cases tys; simpa using htys
    subst htys'
    split at h
    · rename_i e hd hk
      split at h
      · rename_i inf ze hi hz
        split at h
        · rename_i xs n rx b1 b2 hc
          have h1 := beq_f b1; have h2 := beq_t b2
          have hsz : szO P e = some inf.size := by simp [szO, hi]
          obtain ⟨Z, hZ⟩ : ∃ Z, inf.zero = some Z ∧ absV Z = some ze := by
            unfold zero at hz; rw [hi] at hz; simp only [] at hz
            split at hz
            · rename_i Z hZ; exact ⟨Z, hZ, hz⟩
            · cases hz
          have hZs : Z.cells.size = inf.size := by
            have := (absV_rel (fun _ => none) hZ.2).cells.1; simp at this; omega
          split at h
          · rename_i h1x
            split at h
            · -- nil
              split at h
              · rename_i b3
                have h3 := beq_t b3
                subst h3
                cases h
                refine ⟨keep_pure _ _ _ _ (cells_live hc), fun X m w S V ty hs hx hp => ?_⟩
                obtain ⟨news, g1, g2⟩ := src_ok hc hx hp.rep hp.R hk h1x
                have hn0 : news = [] := by have := g1.newsLen; simp at this; exact this
                subst hn0
                cases hs
                refine does_pure hp (run_v (V := .slice none 0 0) ?_) .ns
                rcases g1.kind with ⟨e', hk'⟩ | hk' <;> simp [Builtin.append_, run_underlying hd, run_underlying hk', run_size hsz, g1.len, g1.cells]
              · rename_i b3 b4
                have h3 := beq_f b3; have h4 := ble_t b4
                cases h
                refine ⟨keep_new _ _ _ _ _ (cells_live hc), fun X m w S V ty hs hx hp => ?_⟩
                obtain ⟨news, g1, g2⟩ := src_ok hc hx hp.rep hp.R hk h1x
                cases hs
                have hnl : n * 1 ≤ n * (inf.bytes + 1) := Nat.mul_le_mul_left _ (by omega)
                have hnb : n * inf.bytes ≤ n * (inf.bytes + 1) := Nat.mul_le_mul_left _ (by omega)
                unfold lim at h4
                have hrun := run_append_grow_src w ts tx ty e inf Z hd hi hZ.1 none 0 0 [] (run_firstCells_none _ _ _ _ _) V n news g1 (by omega) (by omega) (growslice_fits (by omega) (by rw [Nat.zero_add]; omega))
                simp only [Nat.zero_add, List.nil_append] at hrun
                refine does_new (L := ⟨w.heap.size, 0, grownCap w n 0 e⟩) hp (made_alloc w _) rfl (fun hext => grow_row (g2.mono hext) ?_ rfl rfl hsz h1 hZs g1.newsLen (grown_ge _ _ _ _)) (fun hext => ?_) (run_v hrun)
                · show (w.heap.push _)[w.heap.size]? = _; simp
                · have := Rel.slr (m := upd m nx ⟨w.heap.size, 0, grownCap w n 0 e⟩) nx 0 n 0 ⟨w.heap.size, 0, grownCap w n 0 e⟩ (upd_self _ _ _) (by have := grown_ge w n 0 e; simpa using this)
                  simpa using this
              · cases h
            · rename_i r o k c rel
              split at h
              · rename_i l e' tl hrow
                split at h
                · rename_i old hold b4
                  have h4 := ble_t b4
                  have hnl : (k + n) * 1 ≤ (k + n) * (inf.bytes + 1) := Nat.mul_le_mul_left _ (by omega)
                  have hnb : (k + n) * inf.bytes ≤ (k + n) * (inf.bytes + 1) := Nat.mul_le_mul_left _ (by omega)
                  unfold lim at h4
                  -- the old cells, in a world with the same memory
                  have olds : ∀ (X : Nat → Prop) (m : Mp) (w : World) (L : Loc), RepOn P X m H.get w → X r → m r = some L → ∃ A : Array Value, (∀ cp, (Builtin.firstCells inf.size k (.slice (some ⟨L.block, L.base + o, none⟩) k cp)).run P w.drew = .ok A w.drew) ∧ RelL m old A.toList := by
                    intro X m w L hrep hX hL
                    obtain ⟨L', e1, e2⟩ := hrep.rep r _ hX hrow
                    rw [hL] at e1; cases e1
                    obtain ⟨C, fr, g1, g2, g3, g4⟩ := e2
                    obtain ⟨d1, d2⟩ := row_cut g3 hold
                    exact ⟨_, fun cp => by
                      simp only [Builtin.firstCells]
                      exact run_loadRow (w := w.drew) g1 d1, d2⟩
                  split at h
                  · split at h
                    · rename_i b5
                      have h5 := ble_t b5
                      split at h
                      · rename_i l' hov
                        cases h
                        have hbr : (bit r ||| rx).testBit r = true := or_l (bit_self r)
                        refine ⟨keep_set hrow hbr (live_or (live_bit hrow) (cells_live hc)), fun X m w S V ty hs hx hp => ?_⟩
                        obtain ⟨news, g1, g2⟩ := src_ok hc hx hp.rep (fun q hq => hp.R q (or_r hq)) hk h1x
                        cases hs
                        rename_i L hL
                        obtain ⟨c1, c2, c3, c4, c5⟩ := row_over (hp.row hrow hbr hL) hov g2 h1x
                        have hrun := run_append_room_src w ts tx ty e inf hd hi L.block (L.base + o) k c V n news g1 h5 (fun j hj => by have := c2 j hj; rwa [show L.base + (o + k * inf.size) + j = L.base + o + k * inf.size + j by omega] at this) (fun j hj => by have := c3 j hj; rwa [show L.base + (o + k * inf.size) + j = L.base + o + k * inf.size + j by omega] at this)
                        rw [show L.base + o + k * inf.size = L.base + (o + k * inf.size) by omega] at hrun
                        exact does_set hp hbr hrow hL c4 c5 (.sl _ _ _ _ L hL) (.inl (run_v hrun))
                      · cases h
                    · rename_i b5
                      have h5 := ble_f b5
                      cases h
                      have hbr : (bit r ||| rx).testBit r = true := or_l (bit_self r)
                      refine ⟨keep_new _ _ _ _ _ (live_or (live_bit hrow) (cells_live hc)), fun X m w S V ty hs hx hp => ?_⟩
                      obtain ⟨news, g1, g2⟩ := src_ok hc hx hp.rep (fun q hq => hp.R q (or_r hq)) hk h1x
                      cases hs
                      rename_i L hL
                      obtain ⟨A, a1, a2⟩ := olds X m w L hp.rep (hp.R r hbr) hL
                      have hrun := run_append_grow_src w ts tx ty e inf Z hd hi hZ.1 (some ⟨L.block, L.base + o, none⟩) k c A.toList (by simpa using a1 c) V n news g1 h5 (by omega) (growslice_fits h5 (by omega))
                      refine does_new (L := ⟨w.heap.size, 0, grownCap w (k + n) c e⟩) hp (made_alloc w _) rfl (fun hext => grow_row ((a2.append g2).mono hext) ?_ rfl rfl hsz h1 hZs ?_ (grown_ge _ _ _ _)) (fun hext => ?_) (run_v hrun)
                      · show (w.heap.push _)[w.heap.size]? = _; simp
                      · rw [List.length_append, g1.newsLen, ← a2.1, (cut_eq hold).2, Nat.add_mul]
                      · have := Rel.slr (m := upd m nx ⟨w.heap.size, 0, grownCap w (k + n) c e⟩) nx 0 (k + n) 0 ⟨w.heap.size, 0, grownCap w (k + n) c e⟩ (upd_self _ _ _) (by have := grown_ge w (k + n) c e; simpa using this)
                        simpa using this
                  · split at h
                    · rename_i b5 b6 b7
                      have h5 := beq_t b5
                      subst h5
                      cases h
                      have hbr : (bit r ||| rx).testBit r = true := or_l (bit_self r)
                      refine ⟨keep_pure _ _ _ _ (live_or (live_bit hrow) (cells_live hc)), fun X m w S V ty hs hx hp => ?_⟩
                      obtain ⟨news, g1, g2⟩ := src_ok hc hx hp.rep (fun q hq => hp.R q (or_r hq)) hk h1x
                      have hn0 : news = [] := by have := g1.newsLen; simp at this; exact this
                      subst hn0
                      cases hs
                      rename_i L hL hn
                      have hrun := run_append_room_src w ts tx ty e inf hd hi L.block (L.base + o) k (L.cap - c) V 0 [] g1 (by omega) (fun j hj => by simp at hj) (fun j hj => by simp at hj)
                      exact does_pure hp (run_v hrun) (.slr _ _ _ _ L hL hn)
                    · rename_i b5 b6 b7
                      have h5 := beq_f b5; have h6 := beq_t b6; have h7 := beq_t b7
                      subst h7
                      cases h
                      have hbr : (bit r ||| rx).testBit r = true := or_l (bit_self r)
                      refine ⟨keep_kill hrow hbr (live_or (live_bit hrow) (cells_live hc)), fun X m w S V ty hs hx hp => ?_⟩
                      obtain ⟨news, g1, g2⟩ := src_ok hc hx hp.rep (fun q hq => hp.R q (or_r hq)) hk h1x
                      cases hs
                      rename_i L hL hn
                      obtain ⟨hm, hX⟩ := hp.fresh nx (Nat.le_refl _) (Nat.lt_succ_self _)
                      obtain ⟨A, a1, a2⟩ := olds X m w L hp.rep (hp.R r hbr) hL
                      have hlenA : A.toList.length = k * inf.size := by rw [← a2.1]; exact (cut_eq hold).2
                      obtain ⟨C, fr, r1, r2, r3, r4⟩ := hp.row hrow hbr hL
                      obtain ⟨z, rz1, rz2, rz3⟩ := r4 rfl
                      rw [hsz] at rz1; cases rz1
                      by_cases hroom : k + n ≤ L.cap - c
                      · -- in place
                        have hsz2 : L.base + o + k * inf.size + news.length ≤ C.size := by
                          rw [rz3, g1.newsLen, h6]
                          have : (c + k + n) * inf.size ≤ L.cap * inf.size := Nat.mul_le_mul_right _ (by omega)
                          rw [Nat.add_mul, Nat.add_mul] at this
                          omega
                        have hrun := run_append_room_src w ts tx ty e inf hd hi L.block (L.base + o) k (L.cap - c) V n news g1 hroom (fun j hj => by rw [cell_at r1, Array.getElem?_eq_getElem (by omega)]; rfl) (fun j hj => frozen_not r1 r2 (by omega))
                        obtain ⟨C', d1, d2, d3, d4⟩ := setCells_row news (L.base + o + k * inf.size) w C r1 hsz2
                        refine does_kill (L := L) (L' := ⟨L.block, L.base + o, L.cap - c⟩) hp hbr hrow hL (.inl rfl) (by rw [d4.size]; exact Nat.le_refl _) (fun b _ hb => d4.old b hb) d4.os d4.tape d4.output (fun hext => ?_) ?_ (run_v hrun)
                        · refine ⟨C', fr, d1, by rw [d2]; exact r2, fun i y hy => ?_, fun _ => ⟨inf.size, hsz, by omega, ?_⟩⟩
                          · have hlo : old.length = k * inf.size := (cut_eq hold).2
                            by_cases hik : i < k * inf.size
                            · rw [List.getElem?_append_left (by omega)] at hy
                              obtain ⟨W, w1, w2⟩ := a2.get hy
                              have hy2 := hy
                              rw [(cut_eq hold).1, List.getElem?_take, if_pos hik, List.getElem?_drop] at hy2
                              obtain ⟨W', q1, q2⟩ := r3 _ _ hy2
                              refine ⟨W', ?_, q2.mono hext⟩
                              rw [d3, if_neg (by show ¬ (_ ≤ L.base + o + i ∧ _); omega), show (Loc.mk L.block (L.base + o) (L.cap - c)).base + i = L.base + (o + i) from by show L.base + o + i = _; omega]
                              exact q1
                            · rw [List.getElem?_append_right (by omega)] at hy
                              obtain ⟨W, w1, w2⟩ := g2.get hy
                              have hlt := (List.getElem?_eq_some_iff.1 w1).1
                              refine ⟨W, ?_, w2.mono hext⟩
                              rw [d3, if_pos (by show (_ ≤ L.base + o + i ∧ L.base + o + i < _); omega)]
                              rw [show (Loc.mk L.block (L.base + o) (L.cap - c)).base + i - (L.base + o + k * inf.size) = i - old.length from by show L.base + o + i - _ = _; omega]
                              exact w1
                          · rw [d2, rz3]
                            show _ = L.base + o + (L.cap - c) * inf.size
                            rw [h6, Nat.sub_mul]
                            have : c * inf.size ≤ L.cap * inf.size := Nat.mul_le_mul_right _ (by omega)
                            omega
                        · have := Rel.slr (m := upd m nx ⟨L.block, L.base + o, L.cap - c⟩) nx 0 (k + n) 0 ⟨L.block, L.base + o, L.cap - c⟩ (upd_self _ _ _) (by simpa using hroom)
                          simpa using this
                      · -- a new row
                        have hrun := run_append_grow_src w ts tx ty e inf Z hd hi hZ.1 (some ⟨L.block, L.base + o, none⟩) k (L.cap - c) A.toList (by simpa using a1 _) V n news g1 (by omega) (by omega) (growslice_fits (by omega) (by omega))
                        refine does_kill (L := L) (L' := ⟨w.heap.size, 0, grownCap w (k + n) (L.cap - c) e⟩) hp hbr hrow hL (.inr (Nat.le_refl _)) (by have := (made_alloc w (.cells ((A.toList ++ news).toArray ++ Builtin.zeroCells Z.cells (grownCap w (k + n) (L.cap - c) e - (k + n))) e)).size; omega)
                          (fun b hb _ => (made_alloc w _).old b hb) rfl rfl rfl (fun hext => grow_row ((a2.append g2).mono hext) ?_ rfl rfl hsz h1 hZs ?_ (grown_ge _ _ _ _)) ?_ (run_v hrun)
                        · show (w.heap.push _)[w.heap.size]? = _; simp
                        · rw [List.length_append, g1.newsLen, hlenA, Nat.add_mul]
                        · have := Rel.slr (m := upd m nx ⟨w.heap.size, 0, grownCap w (k + n) (L.cap - c) e⟩) nx 0 (k + n) 0 ⟨w.heap.size, 0, grownCap w (k + n) (L.cap - c) e⟩ (upd_self _ _ _) (by have := grown_ge w (k + n) (L.cap - c) e; simpa using this)
                          simpa using this
                    · cases h
                · cases h
              · cases h
            · cases h
          · cases h
        · cases h
      · cases h
    · cases h
  · cases h
end
end Go.Ev
