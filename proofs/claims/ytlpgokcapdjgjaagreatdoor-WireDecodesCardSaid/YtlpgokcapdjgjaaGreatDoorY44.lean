/- Walks. -/
import Derived.Test.YtlpgokcapdjgjaaGreatDoorY63
set_option maxHeartbeats 4000000
set_option maxRecDepth 100000
namespace Go.Proofs.YtlpgokcapdjgjaaGreatDoor
open Go.RowKit Go
set_option linter.unusedVariables false
set_option linter.unusedSimpArgs false
def Tk (w : World) (tb rb : Nat) (n : Int) : Prop := w.1[tb]? = some (.cells #[.pointer (some ⟨rb, 0, none⟩), .int .i64 n] 340 (0, 0))
theorem Tk.lt {w : World} {tb rb : Nat} {n : Int} (h : Tk w tb rb n) : tb < w.1.size := (ak h).1
theorem Tk.cells {w : World} {tb rb : Nat} {n : Int} (h : Tk w tb rb n) : w.cell? ⟨tb, 0, none⟩ = some (.pointer (some ⟨rb, 0, none⟩)) ∧ w.cell? ⟨tb, 1, none⟩ = some (.int .i64 n) ∧ (∀ o, w.frozen? ⟨tb, o, none⟩ = false) :=
 ⟨by rw [ax w _ 0 _ _ _ h]; rfl, by rw [ax w _ 1 _ _ _ h]; rfl, fun o => by rw [aA w _ o _ _ h]⟩
def VAt (l : List UInt8) (o : Option (List UInt8)) (a : Nat) (e : Int) : Prop := (e ≠ 0 ∧ o = none) ∨ (e = 0 ∧ o = some (l.drop a))
def Hg (rb : Nat) (l : List UInt8) (sv : Value) (o : Option (List UInt8)) (w : World) (r : Ending) (w' : World) : Prop :=
 ∃ (A a' : Nat) (e' : Int), r = .returned (.int .u64 (A : Nat)) ∧ A = iT o ∧ Vr w' rb a' e' l sv ∧ VAt l (dV o) a' e' ∧ Rg rb w w'
theorem kw (rb a : Nat) (e : Int) (l : List UInt8) (sv : Value) (o : Option (List UInt8)) (w : World) (h : Vr w rb a e l sv) (hs : VAt l o a e) :
  Calls Tryz.prog 70 #[.pointer (some ⟨rb, 0, none⟩)] w (Hg rb l sv o w) := by
 rcases hs with ⟨he, rfl⟩ | ⟨rfl, rfl⟩
 ·exact (ow rb a e l sv w h he).mono fun r w' ⟨h1, h2⟩ => by subst h2; exact ⟨0, a, e, h1, rfl, h, Or.inl ⟨he, rfl⟩, Rg.refl _ _⟩
 ·refine (kv rb a l sv w h).mono ?_
  rintro r w' ⟨v, a', e', h1, _, h3, h4, _, h6, h7⟩;by_cases he : e' = 0
  ·have hg := h6 he
   exact ⟨v, a', e', h1, by unfold iT; simp [hg], h3, Or.inr ⟨he, by unfold dV; simp [hg]⟩, h4⟩
  ·obtain ⟨rfl, rfl, hn, _⟩ := h7 he
   exact ⟨0, a', e', h1, by unfold iT; simp [hn], h3, Or.inl ⟨he, by unfold dV; simp [hn]⟩, h4⟩
def eB (tb rb : Nat) (l : List UInt8) (sv : Value) (n : Nat) (o : Option (Ex × List UInt8)) (w : World) (r : Ending) (w' : World) : Prop :=
 ∃ (t : Ex) (v : Value) (a' : Nat) (e' n' : Int) (ok : Bool), r = .returned (.tuple #[v, .bool ok]) ∧ aT w' (fun b => w.1.size ≤ b) true t v ∧ Vr w' rb a' e' l sv ∧ Tk w' tb rb n' ∧ Rk (fun b => b = rb ∨ b = tb) w w' ∧
  (ok = true → e' = 0 ∧ o = some (t, l.drop a') ∧ t.size ≤ n ∧ n' = (n : Int) - (t.size : Int)) ∧ (ok = false → ∀ e r, o = some (e, r) → n < e.size)
structure Tg (w W : World) (tb rb kb a : Nat) (e : Int) (l : List UInt8) (sv : Value) (n : Int) (pc kc : Array Value) : Prop where
 vr : Vr W rb a e l sv
 tk : Tk W tb rb n
 box : W.1[w.1.size]? = some (.cells pc 70 (0, 0))
 kind : W.1[kb]? = some (.cells kc 279 (0, 0))
 fr : Rk (fun b => b = rb ∨ b = tb) w W
 lt : rb < tb ∧ tb < w.1.size ∧ w.1.size < kb
theorem Tk.keep {w w' : World} {tb rb : Nat} {n : Int} (h : Tk w tb rb n) (hk : w'.1[tb]? = w.1[tb]?) : Tk w' tb rb n := hk.trans h
theorem Tg.below {w W W' : World} {tb rb kb a : Nat} {e : Int} {l : List UInt8} {sv : Value} {n : Int} {pc kc : Array Value} (h : Tg w W tb rb kb a e l sv n pc kc) (hb : Below W.1.size W W') : Tg w W' tb rb kb a e l sv n pc kc :=
 ⟨h.vr.below hb, h.tk.keep (hb.block _ h.tk.lt), (hb.block _ (ak h.box).1).trans h.box, (hb.block _ (ak h.kind).1).trans h.kind, h.fr.trans (Rk.of_below hb), h.lt⟩
theorem Tg.rg {w W W' : World} {tb rb kb a a' : Nat} {e e' : Int} {l : List UInt8} {sv : Value} {n : Int} {pc kc : Array Value} (h : Tg w W tb rb kb a e l sv n pc kc) (hv : Vr W' rb a' e' l sv) (hg : Rg rb W W') : Tg w W' tb rb kb a' e' l sv n pc kc := by
 have h1 := (ak h.box).1;have h2 := (ak h.kind).1;have h3 := h.lt;have h4 := h.tk.lt;exact ⟨hv, h.tk.keep (hg.keep _ h4 (by omega)), (hg.keep _ h1 (by omega)).trans h.box, (hg.keep _ h2 (by omega)).trans h.kind, h.fr.trans ⟨hg.os, hg.tape, hg.output, hg.size, fun b hb hn => hg.keep b hb (fun e => hn (Or.inl e))⟩, h.lt⟩
theorem Tg.put {w W : World} {tb rb kb a : Nat} {e : Int} {l : List UInt8} {sv : Value} {n : Int} {pc pc' kc : Array Value} (h : Tg w W tb rb kb a e l sv n pc kc) (o : Nat) (v : Value) (hpc : pc' = pc.setIfInBounds o v) : Tg w (W.setCell ⟨w.1.size, o, none⟩ v) tb rb kb a e l sv n pc' kc := by
 have h3 := h.lt;exact ⟨h.vr.keep (fun b hb => ay _ _ _ _ (by simp; omega)), h.tk.keep (ay _ _ _ _ (by simp; omega)), aM h.box hpc, (ay _ _ _ _ (by simp; omega)).trans h.kind, h.fr.setCell _ (Or.inl nl) _ _, h.lt⟩
theorem Tg.cells {w W : World} {tb rb kb a : Nat} {e : Int} {l : List UInt8} {sv : Value} {n : Int} {pc kc : Array Value} (h : Tg w W tb rb kb a e l sv n pc kc) :
  (∀ o, W.cell? ⟨w.1.size, o, none⟩ = pc[o]?) ∧ (∀ o, W.frozen? ⟨w.1.size, o, none⟩ = false) ∧ (∀ o, W.cell? ⟨kb, o, none⟩ = kc[o]?) ∧ W.cell? ⟨tb, 0, none⟩ = some (.pointer (some ⟨rb, 0, none⟩)) ∧ W.cell? ⟨tb, 1, none⟩ = some (.int .i64 n) :=
 ⟨fun o => ax W _ o _ _ _ h.box, fun o => by rw [aA W _ o _ _ h.box], fun o => ax W _ o _ _ _ h.kind, h.tk.cells.1, h.tk.cells.2.1⟩
theorem Tg.lts {w W : World} {tb rb kb a : Nat} {e : Int} {l : List UInt8} {sv : Value} {n : Int} {pc kc : Array Value} (h : Tg w W tb rb kb a e l sv n pc kc) : rb < W.1.size ∧ tb < W.1.size ∧ w.1.size < W.1.size ∧ kb < W.1.size :=
 ⟨h.vr.lt, h.tk.lt, (ak h.box).1, (ak h.kind).1⟩
def TSt (d : Nat) (l : List UInt8) (o : Option (List UInt8)) (m n j : Nat) (es : List Ex) (a : Nat) (e n' : Int) (ok : Bool) : Prop :=
 (ok = true ∧ e = 0 ∧ o.bind (bi (tkE d) j) = some (es, l.drop a) ∧ Ex.sizes es + 1 ≤ n ∧ n' = (n : Int) - 1 - (Ex.sizes es : Int)) ∨
 (ok = true ∧ e ≠ 0 ∧ o = none ∧ j = 0) ∨
 (ok = false ∧ ∀ es r, o.bind (bi (tkE d) m) = some (es, r) → n < Ex.sizes es + 1)
theorem TSt.start {d m n : Nat} {l : List UInt8} {o : Option (List UInt8)} {a : Nat} {e : Int} (h : VAt l o a e) (hn : 1 ≤ n) : TSt d l o m n 0 [] a e ((n : Int) - 1) true := by
 rcases h with ⟨h1, h2⟩ | ⟨h1, h2⟩
 ·exact Or.inr (Or.inl ⟨rfl, h1, h2, rfl⟩)
 ·exact Or.inl ⟨rfl, h1, by rw [h2]; rfl, by simpa [Ex.sizes] using hn, by simp [Ex.sizes]⟩
theorem uH (tk : List UInt8 → Option (Ex × List UInt8)) : ∀ (k j : Nat) (s : List UInt8) (es : List Ex) (r : List UInt8), bi tk (j + k) s = some (es, r) → ∃ es' r', bi tk j s = some (es', r') ∧ Ex.sizes es' ≤ Ex.sizes es := by
 intro k
 induction k with
 | zero => intro j s es r h; exact ⟨es, r, h, Nat.le_refl _⟩
 | succ k ih =>
  intro j s es r h;rw [← Nat.add_assoc, jk] at h;cases h2 : bi tk (j + k) s with
  | none => rw [h2] at h; cases h
  | some x =>
   obtain ⟨es1, r1⟩ := x;rw [h2] at h;simp only [Option.map_eq_some_iff] at h;obtain ⟨⟨t, q⟩, h3, h4⟩ := h;injection h4 with h4 _
   subst h4;obtain ⟨es', r', h5, h6⟩ := ih j s es1 r1 h2;refine ⟨es', r', h5, ?_⟩;rw [Ex.sizes_append]; omega
theorem TSt.step {d m n j a a' : Nat} {l : List UInt8} {o : Option (List UInt8)} {es : List Ex} {t : Ex} {e' n' : Int} {ok : Bool} (hj : j < m) (h : o.bind (bi (tkE d) j) = some (es, l.drop a)) (hs : Ex.sizes es + 1 ≤ n)
  (h1 : ok = true → e' = 0 ∧ tkE d (l.drop a) = some (t, l.drop a') ∧ t.size ≤ n - 1 - Ex.sizes es ∧ n' = ((n - 1 - Ex.sizes es : Nat) : Int) - (t.size : Int)) (h2 : ok = false → ∀ e r, tkE d (l.drop a) = some (e, r) → n - 1 - Ex.sizes es < e.size) :
  TSt d l o m n (j + 1) (es ++ [t]) a' e' n' ok := by
 cases o with
 | none => cases h
 | some r0 =>
  simp only [ai] at h;have hsn := jk (tkE d) j r0;rw [h] at hsn;cases ok with
  | true =>
   obtain ⟨h3, h4, h5, h6⟩ := h1 rfl;refine Or.inl ⟨rfl, h3, ?_, ?_, ?_⟩
   ·simp only [ai, hsn, h4]; rfl
   ·rw [Ex.sizes_append]; simp [Ex.sizes]; omega
   ·rw [Ex.sizes_append]; simp [Ex.sizes]; omega
  | false =>
   refine Or.inr (Or.inr ⟨rfl, fun es2 r2 hh => ?_⟩);simp only [ai] at hh;obtain ⟨es', r', h5, h6⟩ := uH (tkE d) (m - (j + 1)) (j + 1) r0 es2 r2 (by rw [show j + 1 + (m - (j + 1)) = m from by omega]; exact hh);rw [hsn] at h5;simp only [Option.map_eq_some_iff] at h5;obtain ⟨⟨e, q⟩, h7, h8⟩ := h5;injection h8 with h8 _
   subst h8;have h9 := h2 rfl e q h7;rw [Ex.sizes_append] at h6;simp [Ex.sizes] at h6;omega
theorem TSt.ends {d m n j a : Nat} {l : List UInt8} {o : Option (List UInt8)} {es : List Ex} {e n' : Int} {ok : Bool} (h : TSt d l o m n j es a e n' ok) (hj : j ≤ m) (hend : j = m ∨ ok = false ∨ e ≠ 0) (k A B : Nat) :
  (ok = true ∧ e = 0 ∧ ((o.bind (bi (tkE d) m)).map fun x => ((.mk k A B x.1, x.2) : Ex × List UInt8)) = some (.mk k A B es, l.drop a) ∧ (Ex.mk k A B es).size ≤ n ∧ n' = (n : Int) - ((Ex.mk k A B es).size : Int)) ∨
  ((ok = false ∨ e ≠ 0) ∧ ∀ x r, ((o.bind (bi (tkE d) m)).map fun x => ((.mk k A B x.1, x.2) : Ex × List UInt8)) = some (x, r) → n < x.size) := by
 rcases h with ⟨h1, h2, h3, h4, h5⟩ | ⟨h1, h2, h3, _⟩ | ⟨h1, h2⟩
 ·have : j = m := by
   rcases hend with h | h | h
   ·exact h
   ·rw [h1] at h; cases h
   ·exact absurd h2 h
  subst this;exact Or.inl ⟨h1, h2, by rw [h3]; rfl, by simp [Ex.size]; omega, by simp [Ex.size]; omega⟩
 ·exact Or.inr ⟨Or.inr h2, fun x r hx => by rw [h3] at hx; cases hx⟩
 ·refine Or.inr ⟨Or.inl h1, fun x r hx => ?_⟩
  obtain ⟨⟨es2, r2⟩, h3, h4⟩ := aa hx;injection h4 with h4 _
  subst h4;have := h2 es2 r2 h3;simpa [Ex.size] using this
theorem BM {w W w2 : World} {tb rb kb a base lo gg gcap sc : Nat} {e : Int} {l : List UInt8} {sv : Value} {n : Int} {k : Value} {kc : Array Value} {sa : Option Addr} {es : List Ex} {t : Ex} {ys : List Value} {q0 : Int} {q1 q2 : Nat} {q3 : Option Addr} {q4 q5 : Nat} {z : Obj}
  (hg : Tg w W tb rb kb a e l sv n #[k, .int .u64 0, .int .u64 0, .slice sa es.length sc] kc) (hb1 : w.1.size < base) (hb2 : kb < base) (hb3 : base ≤ lo) (hb4 : base ≤ W.1.size)
  (hown : W.ownsRow base 70 4 (.slice sa es.length sc) es.length ys) (hey : aX W (fun b => base ≤ b ∧ (Value.slice sa es.length sc).ownBlock ≠ some b) true es ys) (hlo : ∀ k, (Value.slice sa es.length sc).ownBlock = some k → k < lo)
  (hv : aT W (fun b => lo ≤ b) true t (.agg #[.int .i64 q0, .int .u64 q1, .int .u64 q2, .slice q3 q4 q5]))
  (hown2 : w2.ownsRow base 70 4 (.slice (some ⟨gg, 0, none⟩) (es.length + 1) gcap) (es.length + 1) (ys ++ [.int .i64 0, .int .u64 0, .int .u64 0, .slice none 0 0])) (hgrow : ((W.alloc z).drew).grownBy w2 (Value.slice sa es.length sc).ownBlock)
  (hat : (Value.slice sa es.length sc).ownBlock = some gg ∨ gg = W.1.size + 1) (F : World)
  (hF : F = (kM w2 gg (es.length * 4) (.int .i64 q0) (.int .u64 q1) (.int .u64 q2) (.slice q3 q4 q5)).setCell ⟨w.1.size, 3, none⟩ (.slice (some ⟨gg, 0, none⟩) (es.length + 1) gcap) ∨
   F = kM (w2.setCell ⟨w.1.size, 3, none⟩ (.slice (some ⟨gg, 0, none⟩) (es.length + 1) gcap)) gg (es.length * 4) (.int .i64 q0) (.int .u64 q1) (.int .u64 q2) (.slice q3 q4 q5)) :
  Tg w F tb rb kb a e l sv n #[k, .int .u64 0, .int .u64 0, .slice (some ⟨gg, 0, none⟩) (es.length + 1) gcap] kc ∧ W.1.size ≤ F.1.size ∧ Making F base 70 (.slice (some ⟨gg, 0, none⟩) (es.length + 1) gcap) (es ++ [t]) := by
 have hX : Below W.1.size W ((W.alloc z).drew) := (br.alloc nl _).drew;have hXs : ((W.alloc z).drew).1.size = W.1.size + 1 := by show (W.alloc z).1.size = _; simp
 have hlt := hown.lt;have hgg : gg ≠ w.1.size := by
  rcases hat with h | h
  ·have := (hlt _ h).1; omega
  ·omega
 have hbase2 : base ≤ gg := by
  rcases hat with h | h
  ·exact (hlt _ h).1
  ·omega
 have hy : ys.length = es.length * 4 := hown.1;have hpw : w2.1[w.1.size]? = some (.cells #[k, .int .u64 0, .int .u64 0, .slice sa es.length sc] 70 (0, 0)) := by
  rw [hgrow.block _ (by omega) (fun e => by have := (hlt _ e.symm).1; omega), hX.block _ (by omega)]; exact hg.box
 have hF0 : F.os = w2.os ∧ F.tape = w2.tape ∧ F.output = w2.output ∧ F.1.size = w2.1.size := by
  have hp : ∀ (W' : World) (a b c d : Value), Below 0 w2 W' → Below 0 w2 (kM W' gg (es.length * 4) a b c d) := fun W' a b c d h => (((h.setCell (Nat.zero_le _) _).setCell (Nat.zero_le _) _).setCell (Nat.zero_le _) _).setCell (Nat.zero_le _) _
  rcases hF with h | h
  ·have hb : Below 0 w2 F := by rw [h]; exact (hp _ _ _ _ _ (Below.refl 0 w2)).setCell (Nat.zero_le _) _
   exact ⟨hb.os, hb.tape, hb.output, by rw [h]; simp [kM]⟩
  ·have hb : Below 0 w2 F := by rw [h]; exact hp _ _ _ _ _ ((Below.refl 0 w2).setCell (Nat.zero_le _) _)
   exact ⟨hb.os, hb.tape, hb.output, by rw [h]; simp [kM]⟩
 have hF1 : F.ownsRow base 70 4 (.slice (some ⟨gg, 0, none⟩) (es.length + 1) gcap) (es.length + 1) (ys ++ [.int .i64 q0, .int .u64 q1, .int .u64 q2, .slice q3 q4 q5]) := by
  rcases hF with h | h <;> subst h
  ·exact ownsRow_setCell_below (qf hown2 hy) (by simpa using hb1) _
  ·exact qf (ownsRow_setCell_below hown2 (by simpa using hb1) _) hy
 have hF2 : ∀ b, b ≠ gg → b ≠ w.1.size → F.1[b]? = w2.1[b]? := by
  intro b h1 h2;rcases hF with h | h <;> subst h
  ·rw [ay _ _ _ _ (by simpa using h2), jl h1]
  ·rw [jl h1, ay _ _ _ _ (by simpa using h2)]
 have hF3 : F.1[w.1.size]? = some (.cells #[k, .int .u64 0, .int .u64 0, .slice (some ⟨gg, 0, none⟩) (es.length + 1) gcap] 70 (0, 0)) := by
  rcases hF with h | h <;> subst h
  ·exact aM ((jl (Ne.symm hgg)).trans hpw) (by simp)
  ·rw [jl (Ne.symm hgg)]; exact aM hpw (by simp)
 obtain ⟨h1, h2, h3, h4⟩ := Cb (pb := w.1.size) hown hey hb3 hb1 hlo hv hX hXs hgrow hat hF0 hF1 hF2;have h4' := h4 (by omega);have hl := hg.lt;refine ⟨⟨hg.vr.keep (fun b hb => h2 b (by omega) (by omega) (by omega)), hg.tk.keep (h2 _ (by omega) (by omega) (by omega)), hF3, (h2 _ hb2 (by omega) (by omega)).trans hg.kind, ?_, hl⟩, h3, h1⟩;exact hg.fr.trans' (Q := fun b => w.1.size ≤ b) ⟨h4'.os, h4'.tape, h4'.output, h4'.size, fun b hb hn => h4'.block b (by omega)⟩ (fun i hi h => by omega)
theorem jd {d : Nat} {l : List UInt8} {a : Nat} (ha : a < l.length) (h1 : 1 ≤ at8 l a) (h7 : at8 l a ≤ 7) :
  tkE (d + 1) (l.drop a) = (iU (tkE d) (bK (at8 l a) (l.drop (a + 1)))).map fun x => (.mk (at8 l a : Nat) (bK (at8 l a) (l.drop (a + 1))).1 (bK (at8 l a) (l.drop (a + 1))).2.1 x.1, x.2) := by
 have e : l.drop a = l[a] :: l.drop (a + 1) := List.drop_eq_getElem_cons ha;rw [dB l a ha] at h1 h7;rw [e, tkE, if_pos ⟨h1, h7⟩, dB l a ha]
def fD (w : World) (g : Nat) (c0 c1 c2 c3 : Value) : World := ((((w.setCell ⟨g, 0, none⟩ c0).setCell ⟨g, 1, none⟩ c1).setCell ⟨g, 2, none⟩ c2).setCell ⟨g, 3, none⟩ c3).drew
theorem gG {w wr : World} {tb rb kb a : Nat} {e : Int} {l : List UInt8} {sv : Value} {n : Int} {c0 c1 c2 c3 : Value} {kc : Array Value} (hg : Tg w wr tb rb kb a e l sv n #[c0, c1, c2, c3] kc) :
  Vr (fD wr w.1.size c0 c1 c2 c3) rb a e l sv ∧ Tk (fD wr w.1.size c0 c1 c2 c3) tb rb n ∧ Rk (fun b => b = rb ∨ b = tb) w (fD wr w.1.size c0 c1 c2 c3) ∧
  (fD wr w.1.size c0 c1 c2 c3).1[w.1.size]? = some (.cells #[c0, c1, c2, c3] 70 (0, 0)) ∧ (∀ i : Nat, (fD wr w.1.size c0 c1 c2 c3).1[i]? = wr.1[i]?) := by
 have h1 : (fD wr w.1.size c0 c1 c2 c3).1[w.1.size]? = some (.cells #[c0, c1, c2, c3] 70 (0, 0)) :=
  aM (aM (aM (aM hg.box rfl) rfl) rfl) rfl
 have h2 : ∀ i : Nat, (fD wr w.1.size c0 c1 c2 c3).1[i]? = wr.1[i]? := by
  intro i;by_cases hi : i = w.1.size
  ·subst hi; rw [h1, hg.box]
  ·show ((((wr.setCell _ _).setCell _ _).setCell _ _).setCell _ _).1[i]? = _
   rw [ay _ _ _ _ (by simpa using hi), ay _ _ _ _ (by simpa using hi), ay _ _ _ _ (by simpa using hi), ay _ _ _ _ (by simpa using hi)]
 have h3 : Below 0 wr (fD wr w.1.size c0 c1 c2 c3) := ((((Below.refl 0 wr).setCell (Nat.zero_le _) _).setCell (Nat.zero_le _) _).setCell (Nat.zero_le _) _).setCell (Nat.zero_le _) _ |>.drew
 refine ⟨hg.vr.keep (fun b _ => h2 b), hg.tk.keep (h2 _), hg.fr.trans ⟨h3.os, h3.tape, h3.output, h3.size, fun b _ _ => h2 b⟩, h1, h2⟩
theorem eP {w wr : World} {tb rb kb a n : Nat} {e n' : Int} {l : List UInt8} {sv v : Value} {c0 c1 c2 c3 : Value} {kc : Array Value} {t : Ex} {o : Option (Ex × List UInt8)} {b : Bool} (hg : Tg w wr tb rb kb a e l sv n' #[c0, c1, c2, c3] kc)
  (hr : aT wr (fun b => w.1.size ≤ b) true t v) (h1 : b = true → e = 0 ∧ o = some (t, l.drop a) ∧ t.size ≤ n ∧ n' = (n : Int) - (t.size : Int)) (h2 : b = false → ∀ e r, o = some (e, r) → n < e.size) :
  eB tb rb l sv n o w (.returned (.tuple #[v, .bool b])) (fD wr w.1.size c0 c1 c2 c3) := by
 obtain ⟨f1, f2, f3, f4, f5⟩ := gG hg;exact ⟨t, v, a, e, n', b, rfl, aT.keep (fun b _ _ => f5 b) (fun _ _ h => h) hr, f1, f2, f3, h1, h2⟩
theorem Hl (d : Nat) (hd : d ≤ 100) (IH : Hid (∀ (tb rb a n : Nat) (l : List UInt8) (sv : Value) (w : World), rb < tb → n ≤ 32 → Vr w rb a 0 l sv → Tk w tb rb n → Calls Tryz.prog 249 #[.pointer (some ⟨tb, 0, none⟩), .int .i64 d] w (eB tb rb l sv n (tkE d (l.drop a)) w))) (tb rb a n : Nat) (l : List UInt8) (sv : Value) (w : World) (hrt : rb < tb) (hn : n ≤ 32) (hv : Vr w rb a 0 l sv) (ht : Tk w tb rb n) (hn1 : 1 ≤ n) (ha : a < l.length) (hk1 : 6 ≤ at8 l a) (hk2 : at8 l a ≤ 7) :
  Calls Tryz.prog 249 #[.pointer (some ⟨tb, 0, none⟩), .int .i64 ((d : Int) + 1)] w (eB tb rb l sv n (tkE (d + 1) (l.drop a)) w) := by
 obtain ⟨i0, hi0, hz0, hz01, hz02⟩ := info_parts kN;obtain ⟨k, hk⟩ : ∃ k, k = at8 l a := ⟨_, rfl⟩;rw [← hk] at hk1 hk2;have hlt := ht.lt;have hba : Below w.1.size w (w.alloc (.cells #[.int .i64 0, .int .u64 0, .int .u64 0, .slice none 0 0] 70)) := br.alloc nl _;have HV := hid (hv.below hba);have HT := hid (ht.keep (hba.block _ hlt));obtain ⟨c0, c1, f⟩ := (ht.keep (hba.block _ hlt)).cells;have HB := hid hba;have HK := hid hk;have t0 : (((d : Int) + 1) == 0) = false := by simp; omega
 clear hv ht hba f hk
 go_enter Tryz.func249, Tryz.ntmps249
 go_wp2_with fail;refine (fO rb a 1 l sv _ HV.out (by omega)).mono ?_;rintro r w1 ⟨v, pp, a', e', rfl, hv1, hg1, hown1, hyes, _⟩;obtain ⟨rfl, hpp, rfl⟩ := hyes (by omega);obtain ⟨bb, bo, bcap, rfl, g, hbb⟩ : ∃ bb bo cap, v = .slice (some ⟨bb, bo, none⟩) 1 cap ∧ w1.cell? ⟨bb, bo, none⟩ = some (.int .u8 (k : Nat)) ∧ w.1.size + 1 ≤ bb := by
  have hp1 : pp = [l[a]] := by rw [hpp, List.drop_eq_getElem_cons ha]; rfl
  subst hp1;have hrb := aO.of_owns hown1;obtain ⟨_, ad, cap, rfl, _⟩ := hrb.shape;obtain ⟨bl, off, rfl, ⟨_, h4⟩, h3⟩ := aO.at8 (j := 0) hrb (by simp);refine ⟨bl, off, cap, rfl, ?_, by simpa using h4⟩;rw [show off = off + 0 from rfl, h3, HK.out, dB l a ha]; rfl
 have hlta : tb < (w.alloc (.cells #[.int .i64 0, .int .u64 0, .int .u64 0, .slice none 0 0] 70)).1.size := by simp; omega
 have hz1 := hg1.size;simp only [aD] at hz1;have ht1 := HT.out.keep (hg1.keep tb hlta (by omega));have hbx1 : w1.1[w.1.size]? = some (.cells #[.int .i64 0, .int .u64 0, .int .u64 0, .slice none 0 0] 70 (0, 0)) := (hg1.keep _ (by simp) (by have := HV.out.lt; omega)).trans (aK _ _ _ rfl);have hr1 : Rk (fun b => b = rb ∨ b = tb) w w1 := (Rk.of_below HB.out).trans' ⟨hg1.os, hg1.tape, hg1.output, hg1.size, fun b hb hn => hg1.keep b hb hn⟩ (fun i _ h => Or.inl h);clear c0 c1;obtain ⟨c0, c1, f⟩ := ht1.cells;have f1 := f 1;have hl1 : tb < w1.1.size := ht1.lt;have hbl := aG w1 _ g;have hnb : ¬ bb = tb := by omega
 have hnb' : ¬ tb = bb := by omega
 have H1 := hid (au ht1 (au hv1 (au hbx1 (au hr1 hbl))));clear ht1 hv1 hbx1 hr1 hg1 f hown1 hyes hpp;have t1 : decide ((n : Int) - 1 < 0) = false := by simp; omega
 go_wp2_with fail;have hv2 : Vr (w1.setCell ⟨tb, 1, none⟩ (.int .i64 ((n : Int) - 1))) rb (a + 1) 0 l sv := H1.out.2.1.keep (fun b hb => ay _ _ _ _ (by simp; omega));have ht2 : Tk (w1.setCell ⟨tb, 1, none⟩ (.int .i64 ((n : Int) - 1))) tb rb ((n : Int) - 1) := aM H1.out.1 (by simp);have hbx2 : (w1.setCell ⟨tb, 1, none⟩ (.int .i64 ((n : Int) - 1))).1[w.1.size]? = some (.cells #[.int .i64 0, .int .u64 0, .int .u64 0, .slice none 0 0] 70 (0, 0)) := (ay _ _ _ _ (by simp; omega)).trans H1.out.2.2.1;have hr2 : Rk (fun b => b = rb ∨ b = tb) w (w1.setCell ⟨tb, 1, none⟩ (.int .i64 ((n : Int) - 1))) := H1.out.2.2.2.1.setCell tb (Or.inr (Or.inr rfl)) _ _;have g2 : (w1.setCell ⟨tb, 1, none⟩ (.int .i64 ((n : Int) - 1))).cell? ⟨bb, bo, none⟩ = some (.int .u8 (k : Nat)) := by rw [aF _ _ _ _ (fun e => hnb' (congrArg Addr.block e))]; exact g
 have hz2 : (w1.setCell ⟨tb, 1, none⟩ (.int .i64 ((n : Int) - 1))).1.size = w1.1.size := by simp
 generalize w1.setCell ⟨tb, 1, none⟩ (.int .i64 ((n : Int) - 1)) = W2 at hv2 ht2 hbx2 hr2 g2 hz2 ⊢;refine (fF (k : Nat) _ (by omega) (by omega)).mono ?_;rintro e2 w3 ⟨hin, hout, hb3⟩;obtain ⟨blk, hblk, hheap, rfl⟩ := hin (by omega);clear hin hout hheap;obtain ⟨fn, caps, hfn⟩ := dY (k : Int) blk;rw [hfn, show dA (k : Int) = 0 from by unfold dA; rw [if_neg (by omega), if_neg (by omega), if_neg (by omega)], show df (k : Int) = 0 from by unfold df; rw [if_neg (by omega)], show dN (k : Int) = 32 from by
  have h67 : (k : Int) = 6 ∨ (k : Int) = 7 := by omega
  rcases h67 with h | h <;> rw [h] <;> rfl]
 have hz3 := hb3.size;have hbl3 : bb < w3.1.size := by omega
 have hpl3 : w.1.size < w3.1.size := by omega
 have H3 := hid (au (hv2.below hb3) (au (ht2.keep (hb3.block _ ht2.lt)) (au ((hb3.block w.1.size (by omega)).trans hbx2) (hr2.trans (Rk.of_below hb3)))));have c3 : ∀ o, w3.cell? ⟨w.1.size, o, none⟩ = (#[.int .i64 0, .int .u64 0, .int .u64 0, .slice none 0 0] : Array Value)[o]? := fun o => ax w3 _ o _ _ _ ((hb3.block _ (by omega)).trans hbx2)
 have f3 : w3.frozen? ⟨w.1.size, 0, none⟩ = false := by rw [aA w3 _ 0 _ _ ((hb3.block _ (by omega)).trans hbx2)]
 have g3 : w3.cell? ⟨bb, bo, none⟩ = some (.int .u8 (k : Nat)) := (hb3.cell (by show bb < _; omega)).trans g2;have hnp : ¬ bb = w.1.size := by omega
 have hnp' : ¬ w.1.size = bb := by omega
 clear hv2 ht2 hbx2 hr2 g g2 hb3 c0 c1 f1 hfn hblk;go_wp2_with fail;obtain ⟨W4, hW4⟩ : ∃ W4, W4 = ((w3.setCell ⟨w.1.size, 0, none⟩ (.int .i64 (k : Nat))).alloc (.cells #[.int .i64 0, .int .i64 0, .int .i64 32, .func fn #[] caps] 279)).alloc (.cells #[.pointer (some ⟨w.1.size, 1, none⟩), .pointer (some ⟨w.1.size, 2, none⟩)] 154) := ⟨_, rfl⟩;have hg4 : Tg w W4 tb rb w3.1.size (a + 1) 0 l sv ((n : Int) - 1) #[.int .i64 (k : Nat), .int .u64 0, .int .u64 0, .slice none 0 0] #[.int .i64 0, .int .i64 0, .int .i64 32, .func fn #[] caps] := by
  have hs : ∀ b, b < w3.1.size → b ≠ w.1.size → W4.1[b]? = w3.1[b]? := fun b hb hne => by
   rw [hW4, aL _ _ _ (by simp; omega), aL _ _ _ (by simp; omega), ay _ _ _ _ (by simpa using hne)]
  refine ⟨H3.out.1.keep (fun b hb => hs b (by have := H3.out.1.lt; omega) (by omega)), H3.out.2.1.keep (hs _ H3.out.2.1.lt (by omega)), ?_, ?_, ?_, hrt, hlt, hpl3⟩
  ·rw [hW4, aL _ _ _ (by simp; omega), aL _ _ _ (by simp; omega)]; exact aM H3.out.2.2.1 (by simp)
  ·rw [hW4, aL _ _ _ (by simp)]; exact aK _ _ _ (by simp)
  ·rw [hW4]; exact ((H3.out.2.2.2.setCell w.1.size (Or.inl nl) 0 _).trans (Rk.of_below (br.alloc nl _))).trans (Rk.of_below (br.alloc nl _))
 have h4p : W4.1[w3.1.size + 1]? = some (.cells #[.pointer (some ⟨w.1.size, 1, none⟩), .pointer (some ⟨w.1.size, 2, none⟩)] 154 (0, 0)) := by rw [hW4]; exact aK _ _ _ (by simp)
 rw [← hW4];generalize hkb : w3.1.size = kb at hg4 h4p hpl3 ⊢;have HG4 := hid hg4;clear hW4 c3 f3 g3 hg4 H3 hbl3;obtain ⟨x1, x2, x3, x4, x5⟩ := HG4.out.cells;obtain ⟨y1, y2, y3, y4⟩ := HG4.out.lts;refine wp_loop_rounds 1 ?_;rw [rounds_succ];go_wp2_with fail;refine (kw rb (a + 1) 0 l sv (some (l.drop (a + 1))) W4 HG4.out.vr (Or.inr ⟨rfl, rfl⟩)).mono ?_;rintro r w5 ⟨m, a5, e5, rfl, hm, hv5, ho5, hg5⟩;have hm64 : m < 18446744073709551616 := by rw [hm]; exact fV _
 have HG5 := hid (HG4.out.rg hv5 hg5);obtain ⟨o, ho⟩ : ∃ o, o = dV (some (l.drop (a + 1))) := ⟨_, rfl⟩;rw [← ho] at ho5;have HS5 := hid ho5;have HFIN : Hid (tkE (d + 1) (l.drop a) = (o.bind (bi (tkE d) m)).map fun x => (.mk (k : Nat) 0 0 x.1, x.2)) := by
  refine hid ?_;rw [jd ha (by rw [← HK.out]; omega) (by rw [← HK.out]; omega), ← HK.out, ho, hm];unfold bK iU;rw [if_neg (by omega), if_neg (by omega), if_neg (by omega), if_pos (by omega)]
 clear x1 x2 x3 x4 x5 y1 y2 y3 y4 hv5 ho5 hg5 ho hm;have hw5 : w.1.size < w5.1.size := HG5.out.lts.2.2.1;have hkb5 : kb < w5.1.size := HG5.out.lts.2.2.2;go_wp2_with fail
 go_loopw [5, 11] (fun okv i wr => ∃ (j : Nat) (es : List Ex) (svp : Value) (a' : Nat) (e' n' : Int) (ok : Bool), okv = .bool ok ∧ i = .int .u64 j ∧ j ≤ m ∧
   Tg w wr tb rb kb a' e' l sv n' #[.int .i64 (k : Nat), .int .u64 0, .int .u64 0, svp] #[.int .i64 0, .int .i64 0, .int .i64 32, .func fn #[] caps] ∧ w5.1.size ≤ wr.1.size ∧ Making wr w5.1.size 70 svp es ∧ Hid (TSt d l o m n j es a' e' n' ok)) (fun _ i _ => m - (intOf i).toNat)
 case atStart => exact ⟨0, [], _, a5, e5, _, true, rfl, rfl, by omega, HG5.out, Nat.le_refl _, Making.nil _ _ _, hid (TSt.start HS5.out hn1)⟩
 case round =>
  obtain ⟨j, es, svp, a', e', n', ok, rfl, rfl, hjm, hg, hsz, ⟨ys, hown, hey⟩, hst⟩ := hrel;obtain ⟨sa, sc, rfl⟩ := aQ hown;have hob := hown.lt;obtain ⟨x1, x2, x3, x4, x5⟩ := hg.cells;obtain ⟨y1, y2, y3, y4⟩ := hg.lts;have HG := hid hg;have HM := hid (au hown hey);have HEr := hid (dn rb a' e' l sv wr hg.vr);clear hg hown hey;by_cases hc : j < m ∧ ok = true ∧ e' = 0
  ·obtain ⟨hlt2, rfl, rfl⟩ := hc
   go_wp2_with fail;refine HEr.out.mono ?_;rintro r wx ⟨rfl, rfl⟩;go_wp2_with fail;obtain ⟨hbind, hses, hn'⟩ : o.bind (bi (tkE d) j) = some (es, l.drop a') ∧ Ex.sizes es + 1 ≤ n ∧ n' = ((n - 1 - Ex.sizes es : Nat) : Int) := by
    rcases hst.out with ⟨_, _, h3, h4, h5⟩ | ⟨_, h, _⟩ | ⟨h, _⟩
    ·exact ⟨h3, h4, by omega⟩
    ·exact absurd rfl h
    ·cases h
   subst hn';have hel := Ex.length_le_sizes es;have hba : Below wr.1.size wr (wr.alloc (.cells #[.int .i64 0, .int .u64 0, .int .u64 0, .slice none 0 0] 70)) := br.alloc nl _;have HGa := hid (HG.out.below hba);have HBI := hid hbind;have HBA := hid hba;clear hst hbind x1 x2 x3 x4 x5 hba;refine (IH.out tb rb a' (n - 1 - Ex.sizes es) l sv _ hrt (by omega) HGa.out.vr HGa.out.tk).mono ?_;rintro r w1' ⟨t, v, a1, e1, n1, ok1, rfl, hv, hvr1, htk1, hrk1, hy1, hn1'⟩;obtain ⟨q0, q1, q2, q3, q4, q5, rfl⟩ := hv.conc;have hzr := hrk1.size;simp only [aD] at hzr;have hkp : ∀ b, w.1.size ≤ b → b < wr.1.size + 1 → w1'.1[b]? = (wr.alloc (.cells #[.int .i64 0, .int .u64 0, .int .u64 0, .slice none 0 0] 70)).1[b]? := fun b hb hl => hrk1.keep b (by simpa using hl) (by omega)
   have hg1 : Tg w w1' tb rb kb a1 e1 l sv n1 #[.int .i64 (k : Nat), .int .u64 0, .int .u64 0, .slice sa es.length sc] #[.int .i64 0, .int .i64 0, .int .i64 32, .func fn #[] caps] :=
    ⟨hvr1, htk1, (hkp _ nl (by omega)).trans HGa.out.box, (hkp _ (by omega) (by omega)).trans HGa.out.kind, HGa.out.fr.trans hrk1, HG.out.lt⟩
   have hst1 := TSt.step (m := m) hlt2 HBI.out hses hy1 hn1';have hq1 : w1'.1[wr.1.size]? = some (.cells #[.int .i64 0, .int .u64 0, .int .u64 0, .slice none 0 0] 70 (0, 0)) := (hkp _ (by omega) (by omega)).trans (aK _ _ _ rfl);have c1 : ∀ o, w1'.cell? ⟨wr.1.size, o, none⟩ = (#[.int .i64 0, .int .u64 0, .int .u64 0, .slice none 0 0] : Array Value)[o]? := fun o => ax w1' _ o _ _ _ hq1
   have f1 : ∀ o, w1'.frozen? ⟨wr.1.size, o, none⟩ = false := fun o => by rw [aA w1' _ o _ _ hq1]
   have f10 := f1 0;have f11 := f1 1;have f12 := f1 2;have f13 := f1 3;obtain ⟨x1, x2, x3, x4, x5⟩ := hg1.cells;obtain ⟨y1, y2, y3, y4⟩ := hg1.lts;have hl1 : wr.1.size < w1'.1.size := (by omega);have HQ := hid hq1
   go_wp2_with (refine wpList_store_row rfl 70 (.tmp 12) (.tmp 109) rfl rfl wr.1.size rfl _ rfl 70 _ HQ.out (by kernel_rfl) rfl (by simp [Value.oneCell']) ?_)
   obtain ⟨W, hW⟩ : ∃ W, W = w1'.setRow wr.1.size #[.int .i64 q0, .int .u64 q1, .int .u64 q2, .slice q3 q4 q5] := ⟨_, rfl⟩;have hso : ∀ b, b ≠ wr.1.size → W.1[b]? = w1'.1[b]? := fun b hb => by rw [hW]; exact setRow_other _ _ _ _ (by omega)
   have hsW : W.1.size = w1'.1.size := (by rw [hW]; simp [World.setRow]);have hgW : Tg w W tb rb kb a1 e1 l sv n1 #[.int .i64 (k : Nat), .int .u64 0, .int .u64 0, .slice sa es.length sc] #[.int .i64 0, .int .i64 0, .int .i64 32, .func fn #[] caps] :=
    ⟨hg1.vr.keep (fun b hb => hso b (by omega)), hg1.tk.keep (hso _ (by omega)), (hso _ (by omega)).trans hg1.box, (hso _ (by omega)).trans hg1.kind, by rw [hW]; exact hg1.fr.setRow _ (Or.inl (by omega)) _, hg1.lt⟩
   have hqW : W.1[wr.1.size]? = some (.cells #[.int .i64 q0, .int .u64 q1, .int .u64 q2, .slice q3 q4 q5] 70 (0, 0)) := (by rw [hW]; exact aB _ _ _ _ _ _ HQ.out);have hkW : ∀ b, w5.1.size ≤ b → b < wr.1.size → W.1[b]? = wr.1[b]? := fun b hb hl => (hso b (by omega)).trans ((hkp b (by omega) (by omega)).trans (aL _ _ _ hl))
   have hownW := iE HM.out.1 hkW;have hvW : aT W (fun b => wr.1.size + 1 ≤ b) true t (.agg #[.int .i64 q0, .int .u64 q1, .int .u64 q2, .slice q3 q4 q5]) := aT.keep (fun b hb _ => hso b (by simp at hb; omega)) (fun b _ h => by simpa using h) hv;have hpl : wr.1.size < W.1.size := (by omega);have hys : ys.length = es.length * 4 := hownW.1;have HEY : Hid (aX W (fun b => w5.1.size ≤ b ∧ (Value.slice sa es.length sc).ownBlock ≠ some b) true es ys) := hid (aX.keep (fun b hb hl => hkW b hb.1 hl) (fun _ _ h => h) HM.out.2);have HYS := hid hys;have hix : ((es.length : Nat) : Int) < (es.length : Int) + 1 := (by omega);rw [← hW];clear hys;clear hsW;clear hso hW hq1 c1 f1 f10 f11 f12 f13 x1 x2 x3 x4 x5 y1 y2 y3 y4 hkp hrk1 hvr1 htk1 hv HQ hzr hl1;obtain ⟨x1, x2, x3, x4, x5⟩ := hgW.cells;obtain ⟨y1, y2, y3, y4⟩ := hgW.lts;have c1 : ∀ o, W.cell? ⟨wr.1.size, o, none⟩ = (#[.int .i64 q0, .int .u64 q1, .int .u64 q2, .slice q3 q4 q5] : Array Value)[o]? := fun o => ax W _ o _ _ _ hqW
   have x23 := x2 3;have HW := hid (au hgW (au hqW (au hkW (au hownW (au hvW hst1)))));clear hgW hqW hkW hownW hvW hst1 hg1 x2 hy1 hn1';have hX0 : Below W.1.size W ((W.alloc (.cells #[.int .i64 0, .int .u64 0, .int .u64 0, .slice none 0 0] 70)).drew) := (br.alloc nl _).drew
   go_region_law (first
    | (refine step_append_lies _ (by rfl) (.tmp 112) (.tmp 115) 68 (by rfl) w5.1.size 70 i0 _ 4 48 Tryz.underlying68 hi0 hz0 hz01 hz02 rfl (by omega) (.slice sa es.length sc) es.length ys (by rfl) ((HW.out.2.2.2.1.drew).alloc _) ⟨W.1.size, 0, none⟩ 1 1 [.int .i64 0, .int .u64 0, .int .u64 0, .slice none 0 0] (by rfl) (by rfl) (World.news_of_block (cs := #[.int .i64 0, .int .u64 0, .int .u64 0, .slice none 0 0]) (t := 70) (fr := (0, 0)) (heap_alloc_new _ _)) (by simp [Value.oneCell'])
         (by omega) (by unfold maxLen; omega) (by omega) (by simp; omega) (W.1.size + 1) (by simp) ?_; intro gg gcap w2 hown2 hgrow hat hlt3
       obtain ⟨e0, e1', e2, e3, ef⟩ := Gh hown2 HYS.out;have ef0 := ef (es.length * 4);have ef1 := ef (es.length * 4 + 1);have ef2 := ef (es.length * 4 + 2);have ef3 := ef (es.length * 4 + 3);have hgp : ¬ gg = w.1.size := (by rcases hat with h | h; have := (hob _ h).1; omega; omega);have hgp' : ¬ w.1.size = gg := (by omega);have hne : some w.1.size ≠ (Value.slice sa es.length sc).ownBlock := fun e => (by have := hob _ e.symm; omega)
       have c5 : w2.cell? ⟨w.1.size, 3, none⟩ = some (.slice sa es.length sc) := ((hgrow.cell_far _ (by simp; omega) hne).trans ((hX0.cell (p := ⟨w.1.size, 3, none⟩) y3).trans (x1 3)));have f5 : w2.frozen? ⟨w.1.size, 3, none⟩ = false := ((hgrow.frozen_far _ (by simp; omega) hne).trans ((hX0.frozen (p := ⟨w.1.size, 3, none⟩) y3).trans x23));have HP := hid (au hown2 (au hgrow hat)); clear hown2 hgrow hat ef hne))
   all_goals
    have HPF := hid (BM HW.out.1 (base := w5.1.size) (lo := wr.1.size + 1) hw5 hkb5 (by omega) (by omega) HW.out.2.2.2.1 HEY.out (fun k hk => by have := (hob k hk).2; omega) HW.out.2.2.2.2.1 HP.out.1 HP.out.2.1 HP.out.2.2);have HP1 : Hid (∀ F, F = ((((w2.setCell ⟨gg, es.length * 4, none⟩ (.int .i64 q0)).setCell ⟨gg, es.length * 4 + 1, none⟩ (.int .u64 q1)).setCell ⟨gg, es.length * 4 + 2, none⟩ (.int .u64 q2)).setCell ⟨gg, es.length * 4 + 3, none⟩ (.slice q3 q4 q5)).setCell ⟨w.1.size, 3, none⟩ (.slice (some ⟨gg, 0, none⟩) (es.length + 1) gcap) → Tg w F tb rb kb a1 e1 l sv n1 #[.int .i64 (k : Nat), .int .u64 0, .int .u64 0, .slice (some ⟨gg, 0, none⟩) (es.length + 1) gcap] #[.int .i64 0, .int .i64 0, .int .i64 32, .func fn #[] caps] ∧ w5.1.size ≤ F.1.size ∧ Making F w5.1.size 70 (.slice (some ⟨gg, 0, none⟩) (es.length + 1) gcap) (es ++ [t])) := hid (fun F hF => (fun h => ⟨h.1, Nat.le_trans (by omega) h.2.1, h.2.2⟩) (HPF.out F (Or.inl hF)));have HP2 : Hid (∀ F, F = (((((w2.setCell ⟨w.1.size, 3, none⟩ (.slice (some ⟨gg, 0, none⟩) (es.length + 1) gcap)).setCell ⟨gg, es.length * 4, none⟩ (.int .i64 q0)).setCell ⟨gg, es.length * 4 + 1, none⟩ (.int .u64 q1)).setCell ⟨gg, es.length * 4 + 2, none⟩ (.int .u64 q2)).setCell ⟨gg, es.length * 4 + 3, none⟩ (.slice q3 q4 q5)) → Tg w F tb rb kb a1 e1 l sv n1 #[.int .i64 (k : Nat), .int .u64 0, .int .u64 0, .slice (some ⟨gg, 0, none⟩) (es.length + 1) gcap] #[.int .i64 0, .int .i64 0, .int .i64 32, .func fn #[] caps] ∧ w5.1.size ≤ F.1.size ∧ Making F w5.1.size 70 (.slice (some ⟨gg, 0, none⟩) (es.length + 1) gcap) (es ++ [t])) := hid (fun F hF => (fun h => ⟨h.1, Nat.le_trans (by omega) h.2.1, h.2.2⟩) (HPF.out F (Or.inr hF)));clear e0 e1' e2 e3 ef0 ef1 ef2 ef3 c5 f5 hX0 c1 x1 x3 x4 x5 x23 HPF;go_wp2_with fail;go_roundw
    case rel =>
     refine ⟨j + 1, es ++ [t], .slice (some ⟨gg, 0, none⟩) (es.length + 1) gcap, a1, e1, n1, ok1, rfl, by go_num, by omega, ?_, ?_, ?_, hid HW.out.2.2.2.2.2⟩
     ·first | with_reducible exact (HP1.out _ rfl).1 | with_reducible exact (HP2.out _ rfl).1
     ·first | with_reducible exact (HP1.out _ rfl).2.1 | with_reducible exact (HP2.out _ rfl).2.1
     ·first | with_reducible exact (HP1.out _ rfl).2.2 | with_reducible exact (HP2.out _ rfl).2.2
    case measure => simp [intOf]; omega
  ·have hend : j = m ∨ ok = false ∨ e' ≠ 0 := by
    by_cases h1 : j < m
    ·cases ok with
     | false => exact Or.inr (Or.inl rfl)
     | true => exact Or.inr (Or.inr (fun h => hc ⟨h1, rfl, h⟩))
    ·exact Or.inl (by omega)
   have HE := hid (TSt.ends hst.out hjm hend k 0 0);have HREP := hid (fZ (S := fun b => w.1.size + 1 ≤ b) (k := (k : Nat)) (A := 0) (B := 0) ⟨ys, HM.out.1, HM.out.2⟩ (fun _ _ _ => rfl) (fun b h => by omega) (by omega) (by omega) (by omega) (by omega));have x20 := x2 0;have x21 := x2 1;have x22 := x2 2;have x23 := x2 3;have hvd : Vr wr.drew rb a' e' l sv := HG.out.vr.below br.drew;have HVD := hid hvd;have hjt : ok = true → e' = 0 → ¬ j < m := fun h1 h2 h3 => hc ⟨h3, h1, h2⟩
   clear hst hend x2 hc hvd;cases ok with
   | false =>
    clear hjt;go_wp2_with fail
    all_goals
     go_region
     go_wp2_with fail;refine aC (v := .tuple #[.agg #[.int .i64 (k : Nat), .int .u64 0, .int .u64 0, .slice sa es.length sc], .bool false]) (aN rfl _ _ w.1.size 70 _ _ _ _ rfl (gG HG.out).2.2.2.1 Tryz.underlying70 rfl (by kernel_rfl) rfl) rfl ?_;exact eP HG.out (HREP.out.wider (fun b _ h => Nat.le_of_succ_le h)) (fun h => by cases h) (fun _ => by rw [HFIN.out]; rcases HE.out with h | h; exact absurd h.1 (by simp); exact h.2)
   | true =>
    by_cases he0 : e' = 0
    ·subst he0
     have hjt2 := hjt rfl rfl;clear hjt;go_wp2_with fail
     go_region_with (first | (go_at_call 71; go_fit (dn rb a' 0 l sv _ HVD.out); rintro r wx ⟨rfl, rfl⟩))
     all_goals
      go_wp2_with fail;refine aC (v := .tuple #[.agg #[.int .i64 (k : Nat), .int .u64 0, .int .u64 0, .slice sa es.length sc], .bool true]) (aN rfl _ _ w.1.size 70 _ _ _ _ rfl (gG HG.out).2.2.2.1 Tryz.underlying70 rfl (by kernel_rfl) rfl) rfl ?_;exact eP HG.out (HREP.out.wider (fun b _ h => Nat.le_of_succ_le h)) (fun _ => by rw [HFIN.out]; rcases HE.out with h | h; exact ⟨rfl, h.2.2.1, h.2.2.2.1, h.2.2.2.2⟩; rcases h.1 with h | h; cases h; exact absurd rfl h) (fun h => by cases h)
    ·have t2 : (e' == 0) = false := by simpa using he0
     have HE0 := hid he0;clear hjt he0;by_cases hjm2 : j < m
     ·go_wp2_with fail
      refine HEr.out.mono ?_;rintro r wx ⟨rfl, rfl⟩;go_wp2_with fail
      go_region_with (first | (go_at_call 71; go_fit (dn rb a' e' l sv _ HVD.out); rintro r wx ⟨rfl, rfl⟩))
      all_goals
       go_wp2_with fail;refine aC (v := .tuple #[.agg #[.int .i64 (k : Nat), .int .u64 0, .int .u64 0, .slice sa es.length sc], .bool false]) (aN rfl _ _ w.1.size 70 _ _ _ _ rfl (gG HG.out).2.2.2.1 Tryz.underlying70 rfl (by kernel_rfl) rfl) rfl ?_;exact eP HG.out (HREP.out.wider (fun b _ h => Nat.le_of_succ_le h)) (fun h => by cases h) (fun _ => by rw [HFIN.out]; rcases HE.out with h | h; exact absurd h.2.1 HE0.out; exact h.2)
     ·go_wp2_with fail
      go_region_with (first | (go_at_call 71; go_fit (dn rb a' e' l sv _ HVD.out); rintro r wx ⟨rfl, rfl⟩))
      all_goals
       go_wp2_with fail;refine aC (v := .tuple #[.agg #[.int .i64 (k : Nat), .int .u64 0, .int .u64 0, .slice sa es.length sc], .bool false]) (aN rfl _ _ w.1.size 70 _ _ _ _ rfl (gG HG.out).2.2.2.1 Tryz.underlying70 rfl (by kernel_rfl) rfl) rfl ?_;exact eP HG.out (HREP.out.wider (fun b _ h => Nat.le_of_succ_le h)) (fun h => by cases h) (fun _ => by rw [HFIN.out]; rcases HE.out with h | h; exact absurd h.2.1 HE0.out; exact h.2)
end Go.Proofs.YtlpgokcapdjgjaaGreatDoor
