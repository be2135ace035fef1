/- A region that draws its order and holds calls that write old memory one behind the other, and allocs that may stand anywhere. -/
import Derived.Test.YtlpgokcapdjgjaaGreatDoorY1
namespace Go.Proofs.YtlpgokcapdjgjaaGreatDoor
open Go.RowKit Go
set_option linter.unusedVariables false
set_option linter.unusedSimpArgs false
theorem mem_ready {md : Region.Mode} {ops : Array Oper} {listed : Array Bool} {i : Nat} (h : i ∈ Region.ready md ops listed) :
  i < ops.size ∧ listed.getD i true = false ∧ ∀ o, ops[i]? = some o → ∀ e ∈ o.after, Region.binds md e = true → listed.getD e.on false = true := by
 unfold Region.ready at h;simp only [List.mem_filter, List.mem_range, aH, Bool.not_eq_true'] at h;obtain ⟨h1, h2, h3⟩ := h;refine ⟨h1, h2, fun o ho e he hb => ?_⟩;rw [ho] at h3;simp only [Option.map_some, Option.getD_some, Array.all_eq_true', Bool.or_eq_true, Bool.not_eq_true'] at h3;rcases h3 e he with h | h
 ·rw [hb] at h; cases h
 ·exact h
theorem Cs {md : Region.Mode} {ops : Array Oper} {listed : Array Bool} {i : Nat} (h1 : i < ops.size) (h2 : listed.getD i true = false)
  (h3 : ∀ o, ops[i]? = some o → ∀ e ∈ o.after, Region.binds md e = true → listed.getD e.on false = true) : i ∈ Region.ready md ops listed := by
 unfold Region.ready;simp only [List.mem_filter, List.mem_range, aH, Bool.not_eq_true'];refine ⟨h1, h2, ?_⟩;have ho : ops[i]? = some ops[i] := ag h1;rw [ho];simp only [Option.map_some, Option.getD_some, Array.all_eq_true', Bool.or_eq_true, Bool.not_eq_true'];intro e he;cases hb : Region.binds md e with
 | false => exact Or.inl rfl
 | true => exact Or.inr (h3 _ ho e he hb)
theorem rQ {md : Region.Mode} {ops : Array Oper} {listed : Array Bool} (hs : listed.size = ops.size) (hdag : ∀ i o, ops[i]? = some o → ∀ e ∈ o.after, Region.binds md e = true → e.on < i)
  (hr : Region.ready md ops listed = []) : ∀ i, i < ops.size → listed.getD i false = true := by
 intro i
 induction i using Nat.strongRecOn with
 | _ i ih =>
  intro hi;cases h : listed.getD i true with
  | true =>
   rw [Array.getD_eq_getD_getElem?, ag (by omega)] at h ⊢;simpa using h
  | false =>
   have hm : i ∈ Region.ready md ops listed := Cs hi h (fun o ho e he hb => by
    have hlt := hdag i o ho e he hb;exact ih _ hlt (by omega))
   rw [hr] at hm; cases hm
def unl (listed : Array Bool) (n : Nat) : Nat := ((List.range n).filter fun j => !listed.getD j true).length
theorem Bw {listed : Array Bool} {n i : Nat} (hs : listed.size = n) (hi : i < n) (h : listed.getD i true = false) : unl (listed.setIfInBounds i true) n < unl listed n := by
 unfold unl;have hsub : ((List.range n).filter fun j => !(listed.setIfInBounds i true).getD j true) = ((List.range n).filter fun j => !listed.getD j true).filter (fun j => j != i) := by
  rw [List.filter_filter];apply List.filter_congr;intro j hj;by_cases hji : j = i
  ·subst hji
   rw [Array.getD_eq_getD_getElem?, Array.getElem?_setIfInBounds_self_of_lt (by omega)];simp
  ·rw [Array.getD_eq_getD_getElem?, Array.getElem?_setIfInBounds_ne (fun e => hji e.symm), ← Array.getD_eq_getD_getElem?]
   simp [hji]
 rw [hsub];have hm : i ∈ (List.range n).filter fun j => !listed.getD j true := by
  simp only [List.mem_filter, List.mem_range, Bool.not_eq_true'];exact ⟨hi, h⟩
 exact List.length_filter_lt_length_iff_exists.2 ⟨i, hm, by simp⟩
theorem vB {P : Program} {md : Region.Mode} {ops : Array Oper} {Q : Exit → Act → World → Prop} (Inv : (Nat → Bool) → Act → World → Prop)
  (hstep : ∀ (l : Nat → Bool) (a : Act) (w : World) (i : Nat), Inv l a w → i < ops.size → l i = false → (∀ o, ops[i]? = some o → ∀ e ∈ o.after, Region.binds md e = true → l e.on = true) → wpOp P ops Q i (fun a' w' => Inv (fun j => j == i || l j) a' w') a w)
  (hdone : ∀ (l : Nat → Bool) (a : Act) (w : World), (∀ i, i < ops.size → l i = true) → Inv l a w → Q .normal a w)
  (hdag : ∀ i o, ops[i]? = some o → ∀ e ∈ o.after, Region.binds md e = true → e.on < i) :
  ∀ (fuel : Nat) (listed : Array Bool) (a : Act) (w : World), listed.size = ops.size → unl listed ops.size ≤ fuel → Inv (fun j => listed.getD j false) a w → wpAny P md ops Q fuel listed a w := by
 intro fuel
 induction fuel with
 | zero =>
  intro listed a w hs hf hinv;have hr : Region.ready md ops listed = [] := by
   cases h : Region.ready md ops listed with
   | nil => rfl
   | cons i t =>
    have hm := mem_ready (md := md) (ops := ops) (listed := listed) (i := i) (by rw [h]; simp);have := Bw hs hm.1 hm.2.1;omega
  exact ⟨hr, hdone _ a w (rQ hs hdag hr) hinv⟩
 | succ fuel ih =>
  intro listed a w hs hf hinv;refine ⟨fun hr => hdone _ a w (rQ hs hdag hr) hinv, fun i hi => ?_⟩;obtain ⟨h1, h2, h3⟩ := mem_ready hi;have h2' : listed.getD i false = false := by
   rw [Array.getD_eq_getD_getElem?, ag (by omega)] at h2 ⊢;simpa using h2
  refine wpOp_mono (fun a' w' h => ih (listed.setIfInBounds i true) a' w' (by simpa using hs) (by have := Bw hs h1 h2; omega) ?_) (hstep _ a w i hinv h1 h2' h3);have he : (fun j => (listed.setIfInBounds i true).getD j false) = fun j => j == i || listed.getD j false := by
   funext j
   by_cases hji : j = i
   ·subst hji
    rw [Array.getD_eq_getD_getElem?, Array.getElem?_setIfInBounds_self_of_lt (by omega)];simp
   ·rw [Array.getD_eq_getD_getElem?, Array.getElem?_setIfInBounds_ne (fun e => hji e.symm), ← Array.getD_eq_getD_getElem?]
    simp [hji]
  rw [he];exact h
theorem gY {P : Program} {id : Nat} {ops : Array Oper} {Q : Exit → Act → World → Prop} {a : Act} {w : World} (hm : P.follows .mixedOrders = true) (Inv : (Nat → Bool) → Act → World → Prop)
  (hdag : ∀ i o, ops[i]? = some o → ∀ e ∈ o.after, Region.binds .any e = true → e.on < i)
  (h0 : Inv (fun _ => false) a w.drew)
  (hstep : ∀ (l : Nat → Bool) (a : Act) (w : World) (i : Nat), Inv l a w → i < ops.size → l i = false → (∀ o, ops[i]? = some o → ∀ e ∈ o.after, Region.binds .any e = true → l e.on = true) → wpOp P ops Q i (fun a' w' => Inv (fun j => j == i || l j) a' w') a w)
  (hdone : ∀ (l : Nat → Bool) (a : Act) (w : World), (∀ i, i < ops.size → l i = true) → Inv l a w → Q .normal a w) : (Code.region id ops true).wp P Q a w := by
 refine wp_region_any hm (vB Inv hstep hdone hdag ops.size _ a _ (by simp) ?_ ?_)
 ·unfold unl
  exact Nat.le_trans (List.length_filter_le _ _) (by simp)
 ·have he : (fun j => (Array.replicate ops.size false).getD j false) = fun _ => false := by
   funext j
   rw [Array.getD_eq_getD_getElem?, Array.getElem?_replicate];split <;> rfl
  rw [he]; exact h0
structure Fr (ws : List Nat) (a0 a : Act) : Prop where
 size : a.tmps.size = a0.tmps.size
 defers : a.defers = a0.defers
 rest : ∀ s, s ∉ ws → a.tmps[s]? = a0.tmps[s]?
theorem Fr.refl (ws : List Nat) (a : Act) : Fr ws a a := ⟨rfl, rfl, fun _ _ => rfl⟩
theorem Fr.put {ws : List Nat} {a0 a : Act} (h : Fr ws a0 a) (s : Nat) (hs : s ∈ ws) (v : Value) : Fr ws a0 (a.put (some s) v) :=
 ⟨by simp [Act.put, h.size], by simp [Act.put, h.defers], fun t ht => by
  simp only [Act.put];have hne : s ≠ t := by intro e; subst e; exact ht hs
  rw [Array.getElem?_setIfInBounds_ne hne]; exact h.rest t ht⟩
def bS (a0 : Act) (vs : List (Nat × Value)) : Act := vs.foldl (fun a x => a.put (some x.1) x.2) a0
theorem yt (ws : List Nat) : ∀ (vs : List (Nat × Value)) (a0 a : Act), (∀ x ∈ vs, x.1 ∈ ws) → Fr ws a0 a → Fr ws a0 (bS a vs)
 | [], _, _, _, h => h
 | x :: vs, a0, a, hw, h => yt ws vs a0 _ (fun y hy => hw y (by simp [hy])) (h.put x.1 (hw x (by simp)) x.2)
theorem vC : ∀ (vs : List (Nat × Value)) (a : Act), (∀ x ∈ vs, x.1 < a.tmps.size) → (vs.map (·.1)).Nodup → ∀ x ∈ vs, (bS a vs).tmps[x.1]? = some x.2
 | [], _, _, _, x, hx => by cases hx
 | y :: vs, a, hs, hn, x, hx => by
  simp only [List.map_cons, List.nodup_cons] at hn;have key : ∀ (vs : List (Nat × Value)) (a : Act) (s : Nat), s ∉ vs.map (·.1) → (bS a vs).tmps[s]? = a.tmps[s]? := by
   intro vs
   induction vs with
   | nil => intro a s _; rfl
   | cons z vs ih =>
    intro a s hs;simp only [List.map_cons, List.mem_cons, not_or] at hs;have := ih (a.put (some z.1) z.2) s hs.2;show (bS (a.put (some z.1) z.2) vs).tmps[s]? = _;rw [this];simp only [Act.put];rw [Array.getElem?_setIfInBounds_ne (fun e => hs.1 e.symm)]
  show (bS (a.put (some y.1) y.2) vs).tmps[x.1]? = _;rcases List.mem_cons.1 hx with h | h
  ·subst h
   rw [key _ _ _ hn.1];simp only [Act.put];rw [Array.getElem?_setIfInBounds_self_of_lt (hs x (by simp))]
  ·exact vC vs _ (fun z hz => by simpa [Act.put] using hs z (by simp [hz])) hn.2 x h
theorem kV {a0 a : Act} (vs : List (Nat × Value)) (h : Fr (vs.map (·.1)) a0 a) (hn : (vs.map (·.1)).Nodup) (hs : ∀ x ∈ vs, x.1 < a0.tmps.size) (hv : ∀ x ∈ vs, a.eval (.tmp x.1) = x.2) : a = bS a0 vs := by
 have h2 := yt (vs.map (·.1)) vs a0 a0 (fun x hx => List.mem_map_of_mem hx) (Fr.refl _ _);have h3 := vC vs a0 hs hn;obtain ⟨ta, da⟩ := a;have e1 : ta = (bS a0 vs).tmps := by
  apply Array.ext_getElem?;intro s;by_cases hm : s ∈ vs.map (·.1)
  ·obtain ⟨x, hx, rfl⟩ := List.mem_map.1 hm
   have hlt : x.1 < ta.size := (by have := h.size; have := hs x hx; simp only at *; omega);have h4 := hv x hx;simp only [Act.eval, Array.getD_eq_getD_getElem?] at h4;rw [h3 x hx, ag hlt];rw [ag hlt] at h4;simpa using h4
  ·exact (h.rest s hm).trans (h2.rest s hm).symm
 have e2 : da = (bS a0 vs).defers := h.defers.trans h2.defers.symm;rw [e1, e2]
def atB (b : Nat) : Value := .pointer (some ⟨b, 0, none⟩)
section
variable {T : TypeId} {w0 : World} {pp qq : Array Value} {et eb : Ex} {l : Nat → Bool} {x y v0 v1 v2 v3 v4 v5 : Value} {w w' : World}
theorem jY {a b : Nat} (h : atB a = atB b) : a = b := by simpa [atB] using h
end
inductive Pr where
 | skip
 | eq (v : Value)
 | of (p : (Nat → Prop) → Value → World → Prop)
 | box (T : TypeId) (z : Array Value)
 | sto (al vl : Nat)
 | tail
def Pr.holds (S : Nat → Prop) (w : World) (v : Value) : Pr → Prop
 | .skip => v = undef
 | .eq v0 => v = v0
 | .of p => p S v w
 | _ => True
def Pr.plain : Pr → Bool
 | .skip | .eq _ | .of _ => true
 | _ => false
def kW (p : (Nat → Prop) → Value → World → Prop) : Prop := ∀ (S S' : Nat → Prop) (v : Value) (w w' : World), cz S w w' → w.1.size ≤ w'.1.size → (∀ b, b < w.1.size → S b → S' b) → p S v w → p S' v w'
def Pr.mono : Pr → Prop
 | .of p => kW p
 | _ => True
theorem Pr.keep {p : Pr} (hp : p.mono) {S S' : Nat → Prop} {v : Value} {w w' : World} (hk : cz S w w') (hs : w.1.size ≤ w'.1.size) (hS : ∀ b, b < w.1.size → S b → S' b) (h : p.holds S w v) : p.holds S' w' v := by
 cases p with
 | skip => exact h
 | eq v0 => exact h
 | of p => exact hp S S' v w w' hk hs hS h
 | box T z => trivial
 | sto al vl => trivial
 | tail => trivial
def aP (ops : Array Oper) (i : Nat) : Option Tmp := (ops[i]?).bind (·.dst)
def bH (ops : Array Oper) (i j : Nat) : Bool := match ops[i]? with
 | some o => o.after.any fun e => e.on == j && Region.binds .any e
 | none => false
def SB (ops : Array Oper) (G : List Pr) (B : Nat) (l : Nat → Bool) (a : Act) (b : Nat) : Prop :=
 B ≤ b ∧ ∀ i T z d, G[i]? = some (.box T z) → l i = true → aP ops i = some d → a.tmps[d]? ≠ some (atB b)
structure RInv (ops : Array Oper) (G : List Pr) (ws : List Nat) (a0 : Act) (w0 : World) (l : Nat → Bool) (a : Act) (w : World) : Prop where
 fr : Fr ws a0 a
 bel : Below w0.1.size w0 w
 vals : ∀ i p d, G[i]? = some p → p.plain = true → l i = true → aP ops i = some d → ∃ v, a.tmps[d]? = some v ∧ p.holds (SB ops G w0.1.size l a) w v
 boxes : ∀ i T z d, G[i]? = some (.box T z) → l i = true → aP ops i = some d → ∃ g cs, a.tmps[d]? = some (atB g) ∧ w0.1.size ≤ g ∧ g < w.1.size ∧ w.1[g]? = some (.cells cs T (0, 0)) ∧ cs.size = z.size ∧
  ∀ k vl dv, G[k]? = some (.sto i vl) → l k = true → aP ops vl = some dv → a.tmps[dv]? = some (.agg cs)
 apart : ∀ i j T z T' z' d d' g, G[i]? = some (.box T z) → G[j]? = some (.box T' z') → i ≠ j → l i = true → l j = true → aP ops i = some d → aP ops j = some d' → a.tmps[d]? = some (atB g) → a.tmps[d']? ≠ some (atB g)
 done : ∀ k i vl, G[k]? = some (.sto i vl) → l k = true → l i = true ∧ l vl = true
structure RS (ops : Array Oper) (G : List Pr) (ws : List Nat) (a0 : Act) (w0 : World) (i : Nat) (S : Nat → Prop) (a : Act) (w : World) : Prop where
 bel : Below w0.1.size w0 w
 low : ∀ b, S b → w0.1.size ≤ b
 new : ∀ b, w.1.size ≤ b → S b
 old : ∀ s, ws.contains s = false → a.tmps[s]? = a0.tmps[s]?
 dep : ∀ j p d, bH ops i j = true → G[j]? = some p → p.plain = true → aP ops j = some d → ∃ v, a.tmps[d]? = some v ∧ p.holds S w v
theorem RS.eq {ops : Array Oper} {G : List Pr} {ws : List Nat} {a0 : Act} {w0 : World} {i : Nat} {S : Nat → Prop} {a : Act} {w : World} (h : RS ops G ws a0 w0 i S a w) (j : Nat) {v : Value} {d : Tmp} (h1 : bH ops i j = true) (h2 : G[j]? = some (.eq v)) (h3 : aP ops j = some d) : a.tmps[d]? = some v := by
 obtain ⟨v', e1, e2⟩ := h.dep j _ d h1 h2 rfl h3;have : v' = v := e2;rw [e1, this]
theorem RS.of {ops : Array Oper} {G : List Pr} {ws : List Nat} {a0 : Act} {w0 : World} {i : Nat} {S : Nat → Prop} {a : Act} {w : World} (h : RS ops G ws a0 w0 i S a w) (j : Nat) {p : (Nat → Prop) → Value → World → Prop} {d : Tmp} (h1 : bH ops i j = true) (h2 : G[j]? = some (.of p)) (h3 : aP ops j = some d) : ∃ v, a.tmps[d]? = some v ∧ p S v w := h.dep j _ d h1 h2 rfl h3
def mE (P : Program) (ops : Array Oper) (G : List Pr) (ws : List Nat) (a0 : Act) (w0 : World) (i : Nat) : Prop :=
 ∀ (o : Oper) (p : Pr) (S : Nat → Prop) (a : Act) (w : World) (K : Act → World → Prop) (Q : Exit → Act → World → Prop), ops[i]? = some o → G[i]? = some p → RS ops G ws a0 w0 i S a w →
  (∀ v w', Below w.1.size w w' → p.holds S w' v → K (a.put o.dst v) w') → Oper.wp P o a w K Q
def runs (ops : Array Oper) (G : List Pr) (i : Nat) : Bool := match (ops[i]?).bind (·.guard) with
 | none => true
 | some (j, b) => match G[j]? with
  | some (.eq (.bool c)) => c == b
  | _ => false
def cK (P : Program) (ops : Array Oper) (G : List Pr) (ws : List Nat) (a0 : Act) (w0 : World) : Nat → List Pr → Prop
 | _, [] => True
 | i, .eq _ :: ps => mE P ops G ws a0 w0 i ∧ cK P ops G ws a0 w0 (i + 1) ps
 | i, .of p :: ps => kW p ∧ mE P ops G ws a0 w0 i ∧ cK P ops G ws a0 w0 (i + 1) ps
 | i, .skip :: ps => cK P ops G ws a0 w0 (i + 1) ps
 | i, .box T z :: ps => (∀ w : World, (Instr.alloc T true (.tuple #[])).run P w = .ok (.pointer (some ⟨w.1.size, 0, none⟩)) (w.alloc (.cells z T))) ∧ cK P ops G ws a0 w0 (i + 1) ps
 | i, .sto al vl :: ps => (∀ T z S v w, G[al]? = some (.box T z) → (∀ p, G[vl]? = some p → p.holds S w v) → (P.info? T).map (·.size) = some z.size ∧ ∃ cs, v = .agg cs ∧ cs.size = z.size ∧ ∀ x ∈ cs.toList, x.oneCell' = true) ∧ cK P ops G ws a0 w0 (i + 1) ps
 | i, .tail :: ps => cK P ops G ws a0 w0 (i + 1) ps
def Fu (ops : Array Oper) (G : List Pr) (ws : List Nat) (n : Nat) (i : Nat) : Bool := match ops[i]?, G[i]? with
 | some o, some p =>
  (o.after.all fun e => !Region.binds .any e || decide (e.on < i)) &&
  (match o.guard with
   | none => true
   | some (j, _) => bH ops i j && (match G[j]? with | some (.eq (.bool _)) => true | some .skip => true | _ => false)) &&
  (match p with
   | .skip => !runs ops G i && (match o.dst with | some d => ws.contains d && decide (d < n) | none => false)
   | .eq _ | .of _ => runs ops G i && (match o.dst with | some d => ws.contains d && decide (d < n) | none => false)
   | .box T _ => o.guard.isNone && (match o.dst with | some d => ws.contains d && decide (d < n) | none => false) && (match o.op with | .alloc T' => T == T' | _ => false)
   | .sto al vl => o.guard.isNone && o.dst.isNone && bH ops i al && bH ops i vl && (match G[vl]? with | some q => q.plain | none => false) &&
     (match G[al]? with
      | some (.box T _) => (match o.op, aP ops al, aP ops vl with
        | .store T' (.tmp x) (.tmp y), some d, some dv => T == T' && x == d && y == dv
        | _, _, _ => false)
      | _ => false)
   | .tail => o.guard.isNone && (match o.dst with | some d => ws.contains d && decide (d < n) | none => true))
 | none, none => true
 | _, _ => false
def DT (ops : Array Oper) : Bool := (List.range ops.size).all fun i => (List.range ops.size).all fun j => i == j || (match aP ops i, aP ops j with | some d, some d' => d != d' | _, _ => true)
def GX (G : List Pr) : Bool := (List.range G.length).all fun i => (List.range G.length).all fun j => i == j || (match G[i]?, G[j]? with | some (.sto a _), some (.sto b _) => a != b | _, _ => true)
def okR (ops : Array Oper) (G : List Pr) (ws : List Nat) (n : Nat) : Bool := (G.length == ops.size) && ((List.range ops.size).all fun i => Fu ops G ws n i) && DT ops && GX G
section
variable {P : Program} {ops : Array Oper} {Q : Exit → Act → World → Prop} {G : List Pr} {ws : List Nat} {a0 : Act} {w0 : World}
theorem gM {n : Nat} (h : okR ops G ws n = true) {i : Nat} (hi : i < ops.size) : Fu ops G ws n i = true := by
 unfold okR at h;simp only [aH] at h;exact List.all_eq_true.1 h.1.1.2 i (by simpa using hi)
theorem qM {n : Nat} (h : okR ops G ws n = true) : G.length = ops.size := by
 unfold okR at h;simp only [aH] at h;simpa using h.1.1.1
theorem wO {n : Nat} (h : okR ops G ws n = true) {i j : Nat} {d : Tmp} (hne : i ≠ j) (h1 : aP ops i = some d) : aP ops j ≠ some d := by
 unfold okR at h;simp only [aH] at h;intro h2;have lt : ∀ k, aP ops k = some d → k < ops.size := fun k hk => by
  unfold aP at hk;cases hc : ops[k]? with
  | none => rw [hc] at hk; cases hk
  | some o => exact (ak hc).1
 have h3 := List.all_eq_true.1 (List.all_eq_true.1 h.1.2 i (by simpa using lt i h1)) j (by simpa using lt j h2);rw [h1, h2] at h3;simp at h3;exact hne h3
theorem Fv {n : Nat} (h : okR ops G ws n = true) {i j al vl vl' : Nat} (h1 : G[i]? = some (.sto al vl)) (h2 : G[j]? = some (.sto al vl')) : i = j := by
 unfold okR at h;simp only [aH] at h;have h3 := List.all_eq_true.1 (List.all_eq_true.1 h.2 i (by simpa using (List.getElem?_eq_some_iff.1 h1).1)) j (by simpa using (List.getElem?_eq_some_iff.1 h2).1);rw [h1, h2] at h3;simpa using h3
theorem bU {a : Act} {s : Nat} {v : Value} (hs : s < a.tmps.size) : (a.put (some s) v).tmps[s]? = some v := by
 simp only [Act.put];rw [Array.getElem?_setIfInBounds_self_of_lt hs]
theorem cu {a : Act} {s t : Nat} {v : Value} (h : s ≠ t) : (a.put (some s) v).tmps[t]? = a.tmps[t]? := by
 simp only [Act.put];rw [Array.getElem?_setIfInBounds_ne h]
theorem fG {i : Nat} {d : Tmp} (h : aP ops i = some d) : i < ops.size := by
 unfold aP at h;cases hc : ops[i]? with
 | none => rw [hc] at h; cases h
 | some o => exact (ak hc).1
theorem cK.mono : ∀ {ps : List Pr} {k : Nat}, cK P ops G ws a0 w0 k ps → ∀ p ∈ ps, p.mono
 | [], _, _, p, hp => by cases hp
 | .skip :: ps, k, h, p, hp => (List.mem_cons.1 hp).elim (fun e => e ▸ trivial) fun m => cK.mono (k := k + 1) h p m
 | .eq v :: ps, k, h, p, hp => (List.mem_cons.1 hp).elim (fun e => e ▸ trivial) fun m => cK.mono (k := k + 1) h.2 p m
 | .of q :: ps, k, h, p, hp => (List.mem_cons.1 hp).elim (fun e => e ▸ h.1) fun m => cK.mono (k := k + 1) h.2.2 p m
 | .box T z :: ps, k, h, p, hp => (List.mem_cons.1 hp).elim (fun e => e ▸ trivial) fun m => cK.mono (k := k + 1) h.2 p m
 | .sto al vl :: ps, k, h, p, hp => (List.mem_cons.1 hp).elim (fun e => e ▸ trivial) fun m => cK.mono (k := k + 1) h.2 p m
 | .tail :: ps, k, h, p, hp => (List.mem_cons.1 hp).elim (fun e => e ▸ trivial) fun m => cK.mono (k := k + 1) h p m
theorem cK.step : ∀ {ps : List Pr} {k : Nat}, cK P ops G ws a0 w0 k ps → ∀ i, (∀ v, ps[i]? = some (.eq v) → mE P ops G ws a0 w0 (k + i)) ∧ (∀ p, ps[i]? = some (.of p) → mE P ops G ws a0 w0 (k + i)) ∧
  (∀ T z, ps[i]? = some (.box T z) → ∀ w : World, (Instr.alloc T true (.tuple #[])).run P w = .ok (.pointer (some ⟨w.1.size, 0, none⟩)) (w.alloc (.cells z T))) ∧
  (∀ al vl, ps[i]? = some (.sto al vl) → ∀ T z S v w, G[al]? = some (.box T z) → (∀ p, G[vl]? = some p → p.holds S w v) → (P.info? T).map (·.size) = some z.size ∧ ∃ cs, v = .agg cs ∧ cs.size = z.size ∧ ∀ x ∈ cs.toList, x.oneCell' = true)
 | [], _, _, i => by simp
 | q :: ps, k, h, 0 => by
  cases q with
  | skip => simp
  | tail => simp
  | eq v => exact ⟨fun _ _ => h.1, fun _ e => by simp at e, fun _ _ e => by simp at e, fun _ _ e => by simp at e⟩
  | of q => exact ⟨fun _ e => by simp at e, fun _ _ => h.2.1, fun _ _ e => by simp at e, fun _ _ e => by simp at e⟩
  | box T z =>
   refine ⟨fun _ e => by simp at e, fun _ e => by simp at e, fun T' z' e => ?_, fun _ _ e => by simp at e⟩;simp only [List.getElem?_cons_zero, Option.some.injEq, Pr.box.injEq] at e;obtain ⟨rfl, rfl⟩ := e;exact h.1
  | sto al vl =>
   refine ⟨fun _ e => by simp at e, fun _ e => by simp at e, fun _ _ e => by simp at e, fun al' vl' e => ?_⟩;simp only [List.getElem?_cons_zero, Option.some.injEq, Pr.sto.injEq] at e;obtain ⟨rfl, rfl⟩ := e;exact h.1
 | q :: ps, k, h, i + 1 => by
  have hk : k + (i + 1) = k + 1 + i := by omega
  rw [hk];simp only [List.getElem?_cons_succ];cases q with
  | skip => exact cK.step (k := k + 1) h i
  | eq v => exact cK.step (k := k + 1) h.2 i
  | of q => exact cK.step (k := k + 1) h.2.2 i
  | box T z => exact cK.step (k := k + 1) h.2 i
  | sto al vl => exact cK.step (k := k + 1) h.2 i
  | tail => exact cK.step (k := k + 1) h i
theorem dW {l : Nat → Bool} {i j : Nat} (h : l j = true) : (j == i || l j) = true := by simp [h]
theorem dm {l : Nat → Bool} {i j : Nat} (h : (j == i || l j) = true) (hne : j ≠ i) : l j = true := by
 simp only [Bool.or_eq_true, beq_iff_eq] at h;rcases h with h | h
 ·exact absurd h hne
 ·exact h
theorem RInv.put {n : Nat} (hok : okR ops G ws n = true) (hmono : ∀ p ∈ G, p.mono) {l : Nat → Bool} {a : Act} {w w' : World} {i : Nat} {p : Pr} {d : Tmp} {v : Value} (h : RInv ops G ws a0 w0 l a w) (hl : l i = false) (hp : G[i]? = some p) (hpl : p.plain = true) (hd : aP ops i = some d) (hws : d ∈ ws) (hdn : d < a.tmps.size)
  (hb : Below w.1.size w w') (hv : p.holds (SB ops G w0.1.size l a) w' v) : RInv ops G ws a0 w0 (fun j => j == i || l j) (a.put (some d) v) w' := by
 have hnb : ∀ T z, G[i]? ≠ some (.box T z) := fun T z e => by
  rw [hp] at e;cases e
  cases hpl
 have hns : ∀ al vl, G[i]? ≠ some (.sto al vl) := fun T z e => by
  rw [hp] at e;cases e
  cases hpl
 have hoth : ∀ j dj, j ≠ i → aP ops j = some dj → (a.put (some d) v).tmps[dj]? = a.tmps[dj]? := fun j dj hne hj => cu (fun e => wO hok (i := i) (j := j) (fun e => hne e.symm) hd (e ▸ hj))
 have hSB : ∀ b, SB ops G w0.1.size l a b → SB ops G w0.1.size (fun j => j == i || l j) (a.put (some d) v) b := by
  rintro b ⟨h1, h2⟩;refine ⟨h1, fun j T z dj hj hlj hdj => ?_⟩;have hne : j ≠ i := fun e => hnb T z (e ▸ hj)
  rw [hoth j dj hne hdj];exact h2 j T z dj hj (dm hlj hne) hdj
 refine ⟨h.fr.put d hws v, h.bel.trans (hb.mono h.bel.size), fun j q dj hj hq hlj hdj => ?_, fun j T z dj hj hlj hdj => ?_, fun j j' T z T' z' dj dj' g hj hj' hne hlj hlj' hdj hdj' hg => ?_, fun k al vl hk hlk => ?_⟩
 ·by_cases hji : j = i
  ·subst hji
   rw [hp] at hj;cases hj
   rw [hd] at hdj;cases hdj
   exact ⟨v, bU hdn, Pr.keep (hmono _ (List.mem_of_getElem? hp)) (fun _ _ _ => rfl) nl (fun b _ hb => hSB b hb) hv⟩
  ·obtain ⟨u, hu1, hu2⟩ := h.vals j q dj hj hq (dm hlj hji) hdj
   exact ⟨u, (hoth j dj hji hdj).trans hu1, Pr.keep (hmono q (List.mem_of_getElem? hj)) (Below.keeps hb nl _) hb.size (fun b _ hb => hSB b hb) hu2⟩
 ·have hne : j ≠ i := fun e => hnb T z (e ▸ hj)
  obtain ⟨g, cs, h1, h2, h3, h4, h5, h6⟩ := h.boxes j T z dj hj (dm hlj hne) hdj;refine ⟨g, cs, (hoth j dj hne hdj).trans h1, h2, Nat.lt_of_lt_of_le h3 hb.size, (hb.block g h3).trans h4, h5, fun k vl dv hk hlk hdv => ?_⟩;have hki : k ≠ i := fun e => hns _ _ (e ▸ hk)
  have hlk' := dm hlk hki;have hvi : vl ≠ i := fun e => by
   have := (h.done k j vl hk hlk').2;rw [e, hl] at this;cases this
  rw [hoth vl dv hvi hdv];exact h6 k vl dv hk hlk' hdv
 ·have hn1 : j ≠ i := fun e => hnb T z (e ▸ hj)
  have hn2 : j' ≠ i := fun e => hnb T' z' (e ▸ hj')
  rw [hoth j dj hn1 hdj] at hg;rw [hoth j' dj' hn2 hdj'];exact h.apart j j' T z T' z' dj dj' g hj hj' hne (dm hlj hn1) (dm hlj' hn2) hdj hdj' hg
 ·have hki : k ≠ i := fun e => hns _ _ (e ▸ hk)
  obtain ⟨h1, h2⟩ := h.done k al vl hk (dm hlk hki);exact ⟨dW h1, dW h2⟩
theorem RInv.newBox {n : Nat} (hok : okR ops G ws n = true) (hmono : ∀ p ∈ G, p.mono) {l : Nat → Bool} {a : Act} {w : World} {i : Nat} {T : TypeId} {z : Array Value} {d : Tmp} (h : RInv ops G ws a0 w0 l a w) (hl : l i = false) (hp : G[i]? = some (.box T z)) (hd : aP ops i = some d) (hws : d ∈ ws) (hdn : d < a.tmps.size) :
  RInv ops G ws a0 w0 (fun j => j == i || l j) (a.put (some d) (atB w.1.size)) (w.alloc (.cells z T)) := by
 have hb : Below w.1.size w (w.alloc (.cells z T)) := br.alloc nl _;have hnp : ∀ q, G[i]? = some q → q.plain = false := fun q e => by
  rw [hp] at e;cases e
  rfl
 have hns : ∀ al vl, G[i]? ≠ some (.sto al vl) := fun _ _ e => by
  rw [hp] at e;cases e
 have hoth : ∀ j dj, j ≠ i → aP ops j = some dj → (a.put (some d) (atB w.1.size)).tmps[dj]? = a.tmps[dj]? := fun j dj hne hj => cu (fun e => wO hok (i := i) (j := j) (fun e => hne e.symm) hd (e ▸ hj))
 have hSB : ∀ b, b < w.1.size → SB ops G w0.1.size l a b → SB ops G w0.1.size (fun j => j == i || l j) (a.put (some d) (atB w.1.size)) b := by
  rintro b hbl ⟨h1, h2⟩;refine ⟨h1, fun j T z dj hj hlj hdj => ?_⟩;by_cases hne : j = i
  ·subst hne
   rw [hd] at hdj;cases hdj
   rw [bU hdn];intro e;have := jY (Option.some.inj e);omega
  ·rw [hoth j dj hne hdj]
   exact h2 j T z dj hj (dm hlj hne) hdj
 have hz : (w.alloc (.cells z T)).1.size = w.1.size + 1 := by simp
 refine ⟨h.fr.put d hws _, h.bel.trans (hb.mono h.bel.size), fun j q dj hj hq hlj hdj => ?_, fun j T' z' dj hj hlj hdj => ?_, fun j j' T' z' T'' z'' dj dj' g hj hj' hne hlj hlj' hdj hdj' hg => ?_, fun k al vl hk hlk => ?_⟩
 ·have hji : j ≠ i := fun e => by
   have := hnp q (e ▸ hj);rw [hq] at this;cases this
  obtain ⟨u, hu1, hu2⟩ := h.vals j q dj hj hq (dm hlj hji) hdj;exact ⟨u, (hoth j dj hji hdj).trans hu1, Pr.keep (hmono q (List.mem_of_getElem? hj)) (Below.keeps hb nl _) hb.size hSB hu2⟩
 ·by_cases hji : j = i
  ·subst hji
   rw [hp] at hj;cases hj
   rw [hd] at hdj;cases hdj
   refine ⟨w.1.size, z, bU hdn, h.bel.size, by omega, heap_alloc_new w _, rfl, fun k vl dv hk hlk hdv => ?_⟩;have hki : k ≠ j := fun e => hns _ _ (e ▸ hk)
   have := (h.done k j vl hk (dm hlk hki)).1;rw [hl] at this;cases this
  ·obtain ⟨g, cs, h1, h2, h3, h4, h5, h6⟩ := h.boxes j T' z' dj hj (dm hlj hji) hdj
   refine ⟨g, cs, (hoth j dj hji hdj).trans h1, h2, by omega, (hb.block g h3).trans h4, h5, fun k vl dv hk hlk hdv => ?_⟩;have hki : k ≠ i := fun e => hns _ _ (e ▸ hk)
   have hlk' := dm hlk hki;have hvi : vl ≠ i := fun e => by
    have := (h.done k j vl hk hlk').2;rw [e, hl] at this;cases this
   rw [hoth vl dv hvi hdv];exact h6 k vl dv hk hlk' hdv
 ·by_cases hji : j = i
  ·subst hji
   have hn2 : j' ≠ j := fun e => hne e.symm
   rw [hd] at hdj;cases hdj
   rw [bU hdn] at hg;have hg' := jY (Option.some.inj hg);rw [hoth j' dj' hn2 hdj'];obtain ⟨g2, cs, h1, h2, h3, _⟩ := h.boxes j' T'' z'' dj' hj' (dm hlj' hn2) hdj';rw [h1];intro e;have := jY (Option.some.inj e);omega
  ·by_cases hji' : j' = i
   ·subst hji'
    rw [hd] at hdj';cases hdj'
    rw [hoth j dj hji hdj] at hg;obtain ⟨g2, cs, h1, h2, h3, _⟩ := h.boxes j T' z' dj hj (dm hlj hji) hdj;rw [h1] at hg;have h7 := jY (Option.some.inj hg);rw [bU hdn];intro e;have := jY (Option.some.inj e);omega
   ·rw [hoth j dj hji hdj] at hg
    rw [hoth j' dj' hji' hdj'];exact h.apart j j' T' z' T'' z'' dj dj' g hj hj' hne (dm hlj hji) (dm hlj' hji') hdj hdj' hg
 ·have hki : k ≠ i := fun e => hns _ _ (e ▸ hk)
  obtain ⟨h1, h2⟩ := h.done k al vl hk (dm hlk hki);exact ⟨dW h1, dW h2⟩
theorem RInv.stored {n : Nat} (hok : okR ops G ws n = true) (hmono : ∀ p ∈ G, p.mono) {l : Nat → Bool} {a : Act} {w : World} {i al vl : Nat} {T : TypeId} {z cs cs0 : Array Value} {d dv : Tmp} {g : Nat} (h : RInv ops G ws a0 w0 l a w) (hp : G[i]? = some (.sto al vl)) (ha : G[al]? = some (.box T z)) (hla : l al = true) (hlv : l vl = true)
  (hd : aP ops al = some d) (hdv : aP ops vl = some dv) (hg : a.tmps[d]? = some (atB g)) (hh : w.1[g]? = some (.cells cs0 T (0, 0))) (hB : w0.1.size ≤ g) (hv : a.tmps[dv]? = some (.agg cs)) (hcs : cs.size = z.size) :
  RInv ops G ws a0 w0 (fun j => j == i || l j) a (w.setRow g cs) := by
 have hz : (w.setRow g cs).1.size = w.1.size := by simp [World.setRow]
 have hnp : ∀ q, G[i]? = some q → q.plain = false := fun q e => by
  rw [hp] at e;cases e
  rfl
 have hnb : ∀ T z, G[i]? ≠ some (.box T z) := fun T z e => by
  rw [hp] at e;cases e
 have hSB : ∀ b, SB ops G w0.1.size l a b → SB ops G w0.1.size (fun j => j == i || l j) a b := by
  rintro b ⟨h1, h2⟩;exact ⟨h1, fun j T z dj hj hlj hdj => h2 j T z dj hj (dm hlj (fun e => hnb T z (e ▸ hj))) hdj⟩
 have hk : cz (SB ops G w0.1.size l a) w (w.setRow g cs) := fun b hb _ => setRow_other _ _ _ _ (fun e => hb.2 al T z d ha hla hd (by rw [hg]; exact congrArg (fun x => some (atB x)) (by first | exact e | exact e.symm)))
 refine ⟨h.fr, below_setRow h.bel g cs hB, fun j q dj hj hq hlj hdj => ?_, fun j T' z' dj hj hlj hdj => ?_, fun j j' T' z' T'' z'' dj dj' g hj hj' hne hlj hlj' hdj hdj' hg => ?_, fun k al' vl' hk' hlk => ?_⟩
 ·have hji : j ≠ i := fun e => by
   have := hnp q (e ▸ hj);rw [hq] at this;cases this
  obtain ⟨u, hu1, hu2⟩ := h.vals j q dj hj hq (dm hlj hji) hdj;exact ⟨u, hu1, Pr.keep (hmono q (List.mem_of_getElem? hj)) hk (by omega) (fun b _ hb => hSB b hb) hu2⟩
 ·have hji : j ≠ i := fun e => hnb T' z' (e ▸ hj)
  by_cases hja : j = al
  ·subst hja
   rw [ha] at hj;cases hj
   rw [hd] at hdj;cases hdj
   obtain ⟨g2, cs2, h1, h2, h3, h4, h5, h6⟩ := h.boxes j T z d ha hla hd;rw [hg] at h1;have e := jY (Option.some.inj h1);subst e;refine ⟨g, cs, hg, h2, by omega, aB w g cs0 cs T _ hh, hcs, fun k vl' dv' hk2 hlk hdv' => ?_⟩;have hki := Fv hok hk2 hp;subst hki;rw [hp] at hk2;cases hk2
   rw [hdv] at hdv';cases hdv'
   exact hv
  ·obtain ⟨g2, cs2, h1, h2, h3, h4, h5, h6⟩ := h.boxes j T' z' dj hj (dm hlj hji) hdj
   have hne : g2 ≠ g := fun e => h.apart j al T' z' T z dj d g2 hj ha hja (dm hlj hji) hla hdj hd h1 (by rw [hg, e])
   refine ⟨g2, cs2, h1, h2, by omega, (setRow_other _ _ _ _ (by first | exact hne | exact hne.symm)).trans h4, h5, fun k vl' dv' hk2 hlk hdv' => ?_⟩;have hki : k ≠ i := fun e => by
    rw [e, hp] at hk2;cases hk2
    exact hja rfl
   exact h6 k vl' dv' hk2 (dm hlk hki) hdv'
 ·exact h.apart j j' T' z' T'' z'' dj dj' g hj hj' hne (dm hlj (fun e => hnb T' z' (e ▸ hj))) (dm hlj' (fun e => hnb T'' z'' (e ▸ hj'))) hdj hdj' hg
 ·by_cases hki : k = i
  ·subst hki
   rw [hp] at hk';cases hk'
   exact ⟨dW hla, dW hlv⟩
  ·obtain ⟨h1, h2⟩ := h.done k al' vl' hk' (dm hlk hki)
   exact ⟨dW h1, dW h2⟩
theorem RInv.start : RInv ops G ws a0 w0 (fun _ => false) a0 w0.drew where
 fr := Fr.refl _ _
 bel := br.drew
 vals := fun _ _ _ _ _ h => by cases h
 boxes := fun _ _ _ _ _ h => by cases h
 apart := fun _ _ _ _ _ _ _ _ _ _ _ _ h => by cases h
 done := fun _ _ _ _ h => by cases h
theorem RInv.rs {l : Nat → Bool} {a : Act} {w : World} {i : Nat} (h : RInv ops G ws a0 w0 l a w) (ha : ∀ o, ops[i]? = some o → ∀ e ∈ o.after, Region.binds .any e = true → l e.on = true) : RS ops G ws a0 w0 i (SB ops G w0.1.size l a) a w where
 bel := h.bel
 low := fun b hb => hb.1
 new := fun b hb => ⟨Nat.le_trans h.bel.size hb, fun j T z d hj hl hd e => by
  obtain ⟨g, cs, h1, h2, h3, _⟩ := h.boxes j T z d hj hl hd;rw [h1] at e;have := jY (Option.some.inj e);omega⟩
 old := fun s hs => h.fr.rest s (by simpa using hs)
 dep := fun j p d hj hp hpl hd => h.vals j p d hp hpl (by
  unfold bH at hj;cases hc : ops[i]? with
  | none => rw [hc] at hj; cases hj
  | some o =>
   rw [hc] at hj;obtain ⟨e, he, h2⟩ := Array.any_eq_true'.1 hj;simp only [aH, beq_iff_eq] at h2;rw [← h2.1];exact ha o hc e he h2.2) hd
theorem ja {i j : Nat} {l : Nat → Bool} (ha : ∀ o, ops[i]? = some o → ∀ e ∈ o.after, Region.binds .any e = true → l e.on = true) (hj : bH ops i j = true) : l j = true := by
 unfold bH at hj;cases hc : ops[i]? with
 | none => rw [hc] at hj; cases hj
 | some o =>
  rw [hc] at hj;obtain ⟨e, he, h2⟩ := Array.any_eq_true'.1 hj;simp only [aH, beq_iff_eq] at h2;rw [← h2.1];exact ha o hc e he h2.2
theorem bX {n i : Nat} {o : Oper} {p : Pr} (h : Fu ops G ws n i = true) (ho : ops[i]? = some o) (hp : G[i]? = some p) :
  (∀ e ∈ o.after, Region.binds .any e = true → e.on < i) ∧ (∀ j b, o.guard = some (j, b) → bH ops i j = true ∧ ((∃ c, G[j]? = some (.eq (.bool c))) ∨ G[j]? = some .skip)) ∧
  (match p with
   | .skip => runs ops G i = false ∧ ∃ d, o.dst = some d ∧ d ∈ ws ∧ d < n
   | .eq _ | .of _ => runs ops G i = true ∧ ∃ d, o.dst = some d ∧ d ∈ ws ∧ d < n
   | .box T _ => o.guard = none ∧ (∃ d, o.dst = some d ∧ d ∈ ws ∧ d < n) ∧ o.op = .alloc T
   | .sto al vl => o.guard = none ∧ o.dst = none ∧ bH ops i al = true ∧ bH ops i vl = true ∧ (∃ q, G[vl]? = some q ∧ q.plain = true) ∧ ∃ T z d dv, G[al]? = some (.box T z) ∧ o.op = .store T (.tmp d) (.tmp dv) ∧ aP ops al = some d ∧ aP ops vl = some dv
   | .tail => o.guard = none ∧ ∀ d, o.dst = some d → d ∈ ws ∧ d < n) := by
 have hdst : (match o.dst with | some d => ws.contains d && decide (d < n) | none => false) = true → ∃ d, o.dst = some d ∧ d ∈ ws ∧ d < n := fun h => by
  cases hd : o.dst with
  | none => rw [hd] at h; cases h
  | some d =>
   rw [hd] at h;simp only [aH, decide_eq_true_eq] at h;exact ⟨d, rfl, by simpa using h.1, h.2⟩
 unfold Fu at h;rw [ho, hp] at h;simp only [aH] at h;obtain ⟨⟨h1, h2⟩, h3⟩ := h;refine ⟨fun e he hb => ?_, fun j b hg => ?_, ?_⟩
 ·have := (Array.all_eq_true'.1 h1) e he
  rw [hb] at this;simpa using this
 ·rw [hg] at h2
  simp only [aH] at h2;refine ⟨h2.1, ?_⟩;have h4 := h2.2;split at h4
  ·rename_i c hc; exact .inl ⟨c, hc⟩
  ·rename_i hc; exact .inr hc
  ·cases h4
 ·cases p with
  | skip =>
   simp only [aH, Bool.not_eq_true'] at h3;exact ⟨h3.1, hdst h3.2⟩
  | eq v =>
   simp only [aH] at h3;exact ⟨h3.1, hdst h3.2⟩
  | of p =>
   simp only [aH] at h3;exact ⟨h3.1, hdst h3.2⟩
  | box T z =>
   simp only [aH, Option.isNone_iff_eq_none] at h3;refine ⟨h3.1.1, hdst h3.1.2, ?_⟩;have h4 := h3.2;split at h4
   ·rename_i T' hT
    have : T = T' := (by simpa using h4);rw [hT, this]
   ·cases h4
  | sto al vl =>
   simp only [aH, Option.isNone_iff_eq_none] at h3;obtain ⟨⟨⟨⟨⟨g1, g2⟩, g3⟩, g4⟩, g5⟩, g6⟩ := h3;refine ⟨g1, g2, g3, g4, ?_, ?_⟩
   ·split at g5
    ·rename_i q hq; exact ⟨q, hq, g5⟩
    ·cases g5
   ·split at g6
    ·rename_i T z hT
     split at g6
     ·rename_i T' x y d dv e1 e2 e3
      simp only [aH, beq_iff_eq] at g6;obtain ⟨⟨rfl, rfl⟩, rfl⟩ := g6;exact ⟨_, z, _, _, hT, e1, e2, e3⟩
     ·cases g6
    ·cases g6
  | tail =>
   simp only [aH, Option.isNone_iff_eq_none] at h3;refine ⟨h3.1, fun d hd => ?_⟩;have h4 := h3.2;rw [hd] at h4;simp only [aH, decide_eq_true_eq] at h4;exact ⟨by simpa using h4.1, h4.2⟩
def yv : Value → Option Bool
 | .bool b => some b
 | _ => none
theorem Bz {n : Nat} (hn : n = a0.tmps.size) (hok : okR ops G ws n = true) (hsteps : cK P ops G ws a0 w0 0 G) {l : Nat → Bool} {a : Act} {w : World} {i : Nat} (hI : RInv ops G ws a0 w0 l a w) (hi : i < ops.size) (hl : l i = false)
  (ha : ∀ o, ops[i]? = some o → ∀ e ∈ o.after, Region.binds .any e = true → l e.on = true) (hnt : G[i]? ≠ some .tail) : wpOp P ops Q i (fun a' w' => RInv ops G ws a0 w0 (fun j => j == i || l j) a' w') a w := by
  subst hn;have hmono := hsteps.mono;have hlen := qM hok;have ho : ops[i]? = some ops[i] := ag hi;have hp : G[i]? = some G[i] := af (by omega);rw [hp] at hnt;have hz : a.tmps.size = a0.tmps.size := hI.fr.size;generalize ops[i] = o at ho;generalize G[i] = p at hp hnt;obtain ⟨k1, k2, k3⟩ := bX (gM hok hi) ho hp;have hdo : ∀ d, o.dst = some d → aP ops i = some d := fun d hd => by unfold aP; rw [ho]; exact hd
  have hst := hsteps.step i;rw [Nat.zero_add] at hst;have hyield : ∀ j b, o.guard = some (j, b) → Region.wanted o (yielded ops a.tmps) = (match G[j]? with | some (.eq (.bool c)) => c == b | _ => false) := fun j b hg => by
   obtain ⟨hdep, hc⟩ := k2 j b hg;have hjv : ∀ q, G[j]? = some q → q.plain = true → (∀ al vl, q ≠ .sto al vl) → ∃ v, q.holds (SB ops G w0.1.size l a) w v ∧ yielded ops a.tmps j = yv v := fun q hq hqp hqs => by
    have hj : j < ops.size := (by have := (List.getElem?_eq_some_iff.1 hq).1; omega);have hoj : ops[j]? = some ops[j] := ag hj;have hk := (bX (gM hok hj) hoj hq).2.2;have : ∃ dj, ops[j].dst = some dj := by
     cases q with
     | skip => exact ⟨_, hk.2.choose_spec.1⟩
     | eq v => exact ⟨_, hk.2.choose_spec.1⟩
     | of p => exact ⟨_, hk.2.choose_spec.1⟩
     | box T z => cases hqp
     | sto al vl => cases hqp
     | tail => cases hqp
    obtain ⟨dj, hdj⟩ := this;have hdj' : aP ops j = some dj := (by unfold aP; rw [hoj]; exact hdj);obtain ⟨v, hv1, hv2⟩ := hI.vals j q dj hq hqp (ja ha hdep) hdj';refine ⟨v, hv2, ?_⟩;unfold yielded;have : (ops[j]?).bind (·.dst) = some dj := hdj';rw [this];simp only [ai, hv1];cases v <;> rfl
   rcases hc with ⟨c, hc⟩ | hc
   ·obtain ⟨v, hv, hy⟩ := hjv _ hc rfl nofun
    have hv3 : v = .bool c := hv;subst hv3;simp only [Region.wanted, hg, hy, hc];cases c <;> cases b <;> rfl
   ·obtain ⟨v, hv, hy⟩ := hjv _ hc rfl nofun
    have hv3 : v = undef := hv;subst hv3;simp only [Region.wanted, hg, hy, hc];cases b <;> rfl
  have hwant : ∀ b, runs ops G i = b → Region.wanted o (yielded ops a.tmps) = b := fun b hb => by
   unfold runs at hb;rw [ho] at hb;simp only [ai] at hb;cases hg : o.guard with
   | none =>
    rw [hg] at hb;simp only [Region.wanted, hg];exact hb
   | some jb =>
    obtain ⟨j, b'⟩ := jb;rw [hg] at hb;rw [hyield j b' hg]; exact hb
  have hplain : p.plain = true → ∀ d, o.dst = some d → d ∈ ws → d < a0.tmps.size → mE P ops G ws a0 w0 i → runs ops G i = true → wpOp P ops Q i (fun a' w' => RInv ops G ws a0 w0 (fun j => j == i || l j) a' w') a w := fun hpl d hd hws hdn hS hr => by
   refine wpOp_step ho (fun K hK => ?_);rw [if_pos (hwant true hr)];refine hS o p _ a w K Q ho hp (hI.rs ha) (fun v w' hb hv => hK _ _ ?_);rw [hd];exact RInv.put hok hmono hI hl hp hpl (hdo d hd) hws (by rw [hz]; exact hdn) hb hv
  cases p with
  | skip =>
   obtain ⟨hr, d, hd, hws, hdn⟩ := k3;refine wpOp_step ho (fun K hK => ?_);rw [if_neg (by rw [hwant false hr]; simp)];refine hK _ _ ?_;rw [hd];exact RInv.put hok hmono hI hl hp rfl (hdo d hd) hws (by rw [hz]; exact hdn) br rfl
  | eq v =>
   obtain ⟨hr, d, hd, hws, hdn⟩ := k3;exact hplain rfl d hd hws hdn (hst.1 v hp) hr
  | of q =>
   obtain ⟨hr, d, hd, hws, hdn⟩ := k3;exact hplain rfl d hd hws hdn (hst.2.1 q hp) hr
  | box T z =>
   obtain ⟨hg, ⟨d, hd, hws, hdn⟩, hop⟩ := k3;refine wpOp_step ho (fun K hK => ?_);rw [if_pos (by simp only [Region.wanted, hg])];have hrun := hst.2.2.1 T z hp w;unfold Oper.wp execOp;simp only [hop, Sem.run_bind, hrun, Result.andThen_ok, Sem.run_pure];show K (a.put o.dst _) _;rw [hd];exact hK _ _ (RInv.newBox hok hmono hI hl hp (hdo d hd) hws (by rw [hz]; exact hdn))
  | sto al vl =>
   obtain ⟨hg, hdn, hda, hdv, ⟨q, hq, hqp⟩, T, z, d, dv, hal, hop, hd1, hd2⟩ := k3;have la := ja ha hda;have lv := ja ha hdv;obtain ⟨g, cs0, b1, b2, b3, b4, b5, _⟩ := hI.boxes al T z d hal la hd1;obtain ⟨v, v1, v2⟩ := hI.vals vl q dv hq hqp lv hd2;obtain ⟨hinf, cs, rfl, hcs, hone⟩ := hst.2.2.2 al vl hp T z _ v w hal (fun q' hq' => by rw [hq] at hq'; cases hq'; exact v2);refine wpOp_step ho (fun K hK => ?_);rw [if_pos (by simp only [Region.wanted, hg])];have e1 : a.eval (.tmp d) = .pointer (some ⟨g, 0, none⟩) := (by simp only [Act.eval, Array.getD_eq_getD_getElem?, b1]; rfl);have e2 : a.eval (.tmp dv) = .agg cs := (by simp only [Act.eval, Array.getD_eq_getD_getElem?, v1]; rfl);unfold Oper.wp execOp;simp only [hop, e1, e2, Instr.storeAt, Instr.sureAddr, Sem.run_bind, Sem.run_pure, Result.andThen_ok, run_storeVar_row w g T T cs0 cs b4 (by rw [hinf, hcs]) (by omega) hone];show K (a.put o.dst undef) _;rw [hdn];exact hK _ _ (RInv.stored hok hmono hI hp hal la lv hd1 hd2 b1 b4 b2 v1 hcs)
  | tail => exact absurd rfl hnt
theorem wP {id : Nat} (hm : P.follows .mixedOrders = true) (G : List Pr) (ws : List Nat) (hok : okR ops G ws a0.tmps.size = true) (hnt : ∀ i : Nat, G[i]? ≠ some Pr.tail) (hsteps : cK P ops G ws a0 w0 0 G)
  (hdone : ∀ (a : Act) (w : World) (l : Nat → Bool), (∀ i, i < ops.size → l i = true) → RInv ops G ws a0 w0 l a w → Q .normal a w) : (Code.region id ops true).wp P Q a0 w0 := by
 have hlen := qM hok;refine gY hm (fun l a w => RInv ops G ws a0 w0 l a w) (fun i o ho e he hb => ?_) RInv.start (fun l a w i hI hi hl ha => Bz rfl hok hsteps hI hi hl ha (hnt i)) (fun l a w hl h => hdone a w l hl h);have hi := (ak ho).1;have hp : G[i]? = some G[i] := af (by omega);exact (bX (gM hok hi) ho hp).1 e he hb
def Pr.isTail : Pr → Bool
 | .tail => true
 | _ => false
theorem Fw {G : List Pr} (h : G.any Pr.isTail = false) : ∀ i : Nat, G[i]? ≠ some Pr.tail := fun i e => by
 have := List.any_eq_false.1 h .tail (List.mem_of_getElem? e);exact this rfl
theorem mE.mk {i : Nat} {o : Oper} {p : Pr} (ho : ops[i]? = some o) (hp : G[i]? = some p)
  (h : ∀ (S : Nat → Prop) (a : Act) (w : World) (K : Act → World → Prop) (Q : Exit → Act → World → Prop), RS ops G ws a0 w0 i S a w → (∀ v w', Below w.1.size w w' → p.holds S w' v → K (a.put o.dst v) w') → Oper.wp P o a w K Q) : mE P ops G ws a0 w0 i := by
 intro o' p' S a w K Q ho' hp' hR hK;rw [ho] at ho';rw [hp] at hp';cases ho'
 cases hp'
 exact h S a w K Q hR hK
def Pr.val : Pr → Value → Value
 | .eq v, _ => v
 | .skip, _ => undef
 | _, u => u
def uB (vs : Nat → Value) : Nat → List Oper → List Pr → List (Nat × Value)
 | i, o :: os, p :: ps => match o.dst with
  | some d => (d, p.val (vs i)) :: uB vs (i + 1) os ps
  | none => uB vs (i + 1) os ps
 | _, _, _ => []
def fe (os : List Oper) : List Nat := os.filterMap (·.dst)
theorem rR (vs : Nat → Value) : ∀ (os : List Oper) (ps : List Pr) (i : Nat), os.length = ps.length → (uB vs i os ps).map (·.1) = fe os
 | [], [], _, _ => rfl
 | [], _ :: _, _, h => by simp at h
 | _ :: _, [], _, h => by simp at h
 | o :: os, p :: ps, i, h => by
  have ih := rR vs os ps (i + 1) (by simpa using h);unfold uB fe;cases hd : o.dst with
  | none => simp only [List.filterMap_cons, hd]; exact ih
  | some d => simp only [List.filterMap_cons, hd, List.map_cons]; rw [ih]; rfl
theorem kX (vs : Nat → Value) : ∀ (os : List Oper) (ps : List Pr) (i : Nat), os.length = ps.length → ∀ x ∈ uB vs i os ps, ∃ (j : Nat) (o : Oper) (p : Pr), os[j]? = some o ∧ ps[j]? = some p ∧ o.dst = some x.1 ∧ x.2 = p.val (vs (i + j))
 | [], _, _, _, x, hx => by simp [uB] at hx
 | _ :: _, [], _, h, x, hx => by simp at h
 | o :: os, p :: ps, i, h, x, hx => by
  have ih := kX vs os ps (i + 1) (by simpa using h);have key : x ∈ uB vs (i + 1) os ps → ∃ (j : Nat) (o' : Oper) (p' : Pr), (o :: os)[j]? = some o' ∧ (p :: ps)[j]? = some p' ∧ o'.dst = some x.1 ∧ x.2 = p'.val (vs (i + j)) := fun hm => by
   obtain ⟨j, o', p', h1, h2, h3, h4⟩ := ih x hm;exact ⟨j + 1, o', p', by simpa using h1, by simpa using h2, h3, by rw [h4]; congr 2; omega⟩
  unfold uB at hx;cases hd : o.dst with
  | none => rw [hd] at hx; exact key hx
  | some d =>
   rw [hd] at hx;rcases List.mem_cons.1 hx with rfl | hm
   ·exact ⟨0, o, p, rfl, rfl, hd, rfl⟩
   ·exact key hm
structure GY (ops : Array Oper) (G : List Pr) (w0 : World) (S : Nat → Prop) (vs : Nat → Value) (w : World) : Prop where
 bel : Below w0.1.size w0 w
 low : ∀ b, S b → w0.1.size ≤ b
 ofs : ∀ (i : Nat) (p : (Nat → Prop) → Value → World → Prop), G[i]? = some (.of p) → p S (vs i) w
 eqs : ∀ (i : Nat) (v : Value), G[i]? = some (.eq v) → vs i = v
 box : ∀ (k al vl : Nat) (T : TypeId) (z : Array Value), G[k]? = some (.sto al vl) → G[al]? = some (.box T z) → ∃ (g : Nat) (cs : Array Value), vs al = atB g ∧ w0.1.size ≤ g ∧ g < w.1.size ∧ w.1[g]? = some (.cells cs T (0, 0)) ∧ vs vl = .agg cs ∧ ¬ S g
 apart : ∀ (i j : Nat) (T : TypeId) (z : Array Value) (T' : TypeId) (z' : Array Value) (g : Nat), G[i]? = some (.box T z) → G[j]? = some (.box T' z') → i ≠ j → vs i = atB g → vs j ≠ atB g
theorem dK {id : Nat} (hm : P.follows .mixedOrders = true) (G : List Pr) (hok : (okR ops G (fe ops.toList) a0.tmps.size && decide (fe ops.toList).Nodup && !G.any Pr.isTail) = true) (hsteps : cK P ops G (fe ops.toList) a0 w0 0 G)
  (L : (Nat → Value) → List (Nat × Value)) (hL : ∀ vs, uB vs 0 ops.toList G = L vs)
  (hdone : ∀ (S : Nat → Prop) (vs : Nat → Value) (w : World), GY ops G w0 S vs w → Q .normal (bS a0 (L vs)) w) : (Code.region id ops true).wp P Q a0 w0 := by
 simp only [aH, decide_eq_true_eq, Bool.not_eq_true'] at hok;obtain ⟨⟨hok, hnd⟩, hnta⟩ := hok;have hnt := Fw hnta;have hlen := qM hok;refine wP hm G _ hok hnt hsteps ?_;intro a w l hl hI;have hv : ∀ i p, G[i]? = some p → ∀ d, aP ops i = some d → ∃ u, a.tmps[d]? = some u ∧ u = p.val u ∧ p.holds (SB ops G w0.1.size l a) w u := fun i p hp d hd => by
  have hli := hl i (by have := (List.getElem?_eq_some_iff.1 hp).1; omega);cases p with
  | skip =>
   obtain ⟨u, h1, h2⟩ := hI.vals i _ d hp rfl hli hd;exact ⟨u, h1, h2, h2⟩
  | eq v =>
   obtain ⟨u, h1, h2⟩ := hI.vals i _ d hp rfl hli hd;exact ⟨u, h1, h2, h2⟩
  | of q =>
   obtain ⟨u, h1, h2⟩ := hI.vals i _ d hp rfl hli hd;exact ⟨u, h1, rfl, h2⟩
  | box T z =>
   obtain ⟨g, cs, h1, _⟩ := hI.boxes i T z d hp hli hd;exact ⟨_, h1, rfl, trivial⟩
  | sto al vl =>
   have hi : i < ops.size := fG hd;obtain ⟨_, _, _, hdn, _⟩ := bX (gM hok hi) (ag hi) hp;unfold aP at hd;rw [ag hi] at hd;rw [show (some ops[i]).bind (·.dst) = ops[i].dst from rfl, hdn] at hd;cases hd
  | tail => exact absurd hp (hnt i)
 have hsome : ∀ i p, G[i]? = some p → (∀ al vl, p ≠ .sto al vl) → ∃ d, aP ops i = some d := fun i p hp hns => by
  have hi : i < ops.size := by have := (List.getElem?_eq_some_iff.1 hp).1; omega
  have hk := (bX (gM hok hi) (ag hi) hp).2.2;have hd : ∀ d, ops[i].dst = some d → aP ops i = some d := fun d hd => by unfold aP; rw [ag hi]; exact hd
  cases p with
  | skip => exact ⟨_, hd _ hk.2.choose_spec.1⟩
  | eq v => exact ⟨_, hd _ hk.2.choose_spec.1⟩
  | of q => exact ⟨_, hd _ hk.2.choose_spec.1⟩
  | box T z => exact ⟨_, hd _ hk.2.1.choose_spec.1⟩
  | sto al vl => exact absurd rfl (hns al vl)
  | tail => exact absurd hp (hnt i)
 obtain ⟨vs, hvs⟩ : ∃ vs : Nat → Value, ∀ i d, aP ops i = some d → vs i = (a.tmps[d]?).getD undef := ⟨fun i => (((aP ops i).bind fun d => a.tmps[d]?).getD undef), fun i d hd => by show (((aP ops i).bind fun d => a.tmps[d]?).getD undef) = _; rw [hd]; rfl⟩;have hvu : ∀ i d u, aP ops i = some d → a.tmps[d]? = some u → vs i = u := fun i d u h1 h2 => by rw [hvs i d h1, h2]; rfl
 have hfr : a = bS a0 (L vs) := by
  rw [← hL vs];have hfst := rR vs ops.toList G 0 (by simpa using hlen.symm);refine kV _ (by rw [hfst]; exact hI.fr) (by rw [hfst]; exact hnd) (fun x hx => ?_) (fun x hx => ?_)
  ·obtain ⟨j, o, p, h1, h2, h3, h4⟩ := kX vs ops.toList G 0 (by simpa using hlen.symm) x hx
   have h1' : ops[j]? = some o := (by simpa using h1);have hj : j < ops.size := (ak h1').1;have hk := (bX (gM hok hj) h1' h2).2.2;have : ∃ d, o.dst = some d ∧ d < a0.tmps.size := by
    cases p with
    | skip => exact ⟨_, hk.2.choose_spec.1, hk.2.choose_spec.2.2⟩
    | eq v => exact ⟨_, hk.2.choose_spec.1, hk.2.choose_spec.2.2⟩
    | of q => exact ⟨_, hk.2.choose_spec.1, hk.2.choose_spec.2.2⟩
    | box T z => exact ⟨_, hk.2.1.choose_spec.1, hk.2.1.choose_spec.2.2⟩
    | sto al vl => rw [hk.2.1] at h3; cases h3
    | tail => exact absurd h2 (hnt j)
   obtain ⟨d, e1, e2⟩ := this;rw [h3] at e1;cases e1
   exact e2
  ·obtain ⟨j, o, p, h1, h2, h3, h4⟩ := kX vs ops.toList G 0 (by simpa using hlen.symm) x hx
   have hd : aP ops j = some x.1 := by
    unfold aP;have h1' : ops[j]? = some o := (by simpa using h1);rw [h1']; exact h3
   obtain ⟨u, u1, u2, _⟩ := hv j p h2 x.1 hd;rw [Nat.zero_add, hvu j x.1 u hd u1] at h4;rw [h4, ← u2];simp only [Act.eval, Array.getD_eq_getD_getElem?, u1];rfl
 rw [hfr] at hI ⊢;rw [← hfr] at hI;refine hdone (SB ops G w0.1.size l a) vs w ⟨hI.bel, fun b hb => hb.1, fun i p hp => ?_, fun i v hp => ?_, fun k al vl T z hk ha => ?_, fun i j T z T' z' g hi hj hne h1 h2 => ?_⟩
 ·obtain ⟨d, hd⟩ := hsome i _ hp nofun
  obtain ⟨u, u1, _, u3⟩ := hv i _ hp d hd;rw [hvu i d u hd u1];exact u3
 ·obtain ⟨d, hd⟩ := hsome i _ hp nofun
  obtain ⟨u, u1, _, u3⟩ := hv i _ hp d hd;rw [hvu i d u hd u1];exact u3
 ·obtain ⟨d, hd⟩ := hsome al _ ha nofun
  have hla := hl al (fG hd);obtain ⟨g, cs, b1, b2, b3, b4, b5, b6⟩ := hI.boxes al T z d ha hla hd;have hki : k < ops.size := by have := (List.getElem?_eq_some_iff.1 hk).1; omega
  obtain ⟨_, _, _, _, ⟨q, hq, hqp⟩, T2, z2, d2, dv, e1, _, e3, e4⟩ := (bX (gM hok hki) (ag hki) hk).2.2;have b7 := b6 k vl dv hk (hl k hki) e4;exact ⟨g, cs, hvu al d _ hd b1, b2, b3, b4, hvu vl dv _ e4 b7, fun hS => hS.2 al T z d ha hla hd b1⟩
 ·obtain ⟨d, hd⟩ := hsome i _ hi nofun
  obtain ⟨d', hd'⟩ := hsome j _ hj nofun;obtain ⟨u, u1, _⟩ := hv i _ hi d hd;obtain ⟨u', u1', _⟩ := hv j _ hj d' hd';rw [hvu i d u hd u1] at h1;rw [hvu j d' u' hd' u1'] at h2;exact hI.apart i j T z T' z' d d' g hi hj hne (hl i (fG hd)) (hl j (fG hd')) hd hd' (by rw [u1, h1]) (by rw [u1', h2])
end
def jZ (ops : Array Oper) (i : Nat) : List Nat := match ops[i]? with
 | some o => (o.after.toList.filter fun e => Region.binds .any e).map (·.on)
 | none => []
theorem mZ {ops : Array Oper} {i j : Nat} : j ∈ jZ ops i ↔ bH ops i j = true := by
 unfold jZ bH;cases h : ops[i]? with
 | none => simp
 | some o =>
  simp only [List.mem_map, List.mem_filter, Array.any_eq_true', aH, beq_iff_eq];constructor
  ·rintro ⟨e, ⟨h1, h2⟩, h3⟩
   exact ⟨e, by simpa using h1, h3, h2⟩
  ·rintro ⟨e, h1, h3, h2⟩
   exact ⟨e, ⟨by simpa using h1, h2⟩, h3⟩
def kY (ops : Array Oper) : Nat → List Nat → List Nat
 | 0, s => s
 | n + 1, s => kY ops n (s ++ s.flatMap (jZ ops)).eraseDups
theorem oW {ops : Array Oper} {l : Nat → Bool} (hc : ∀ k, l k = true → ∀ j, bH ops k j = true → l j = true) : ∀ (n : Nat) (s : List Nat), (∀ i ∈ s, l i = true) → ∀ i ∈ kY ops n s, l i = true
 | 0, s, h, i, hi => h i hi
 | n + 1, s, h, i, hi => oW hc n _ (fun k hk => by
   rw [List.mem_eraseDups, List.mem_append, List.mem_flatMap] at hk;rcases hk with hk | ⟨m, hm, hk⟩
   ·exact h k hk
   ·exact hc m (h m hm) k (mZ.1 hk)) i hi
def upd (vs : Nat → Value) (t : Nat) (v : Value) (i : Nat) : Value := if i = t then v else vs i
@[simp] theorem upd_self (vs : Nat → Value) (t : Nat) (v : Value) : upd vs t v t = v := if_pos rfl
theorem upd_ne (vs : Nat → Value) {t i : Nat} (v : Value) (h : i ≠ t) : upd vs t v i = vs i := if_neg h
def eH (ops : Array Oper) : List Nat → Bool
 | t :: t' :: r => bH ops t' t && decide (t < t') && eH ops (t' :: r)
 | _ => true
def ng (ops : Array Oper) (G : List Pr) (t1 : Nat) (r lates : List Nat) : Bool :=
 eH ops (t1 :: r) && ((List.range ops.size).all fun i => match G[i]?, ops[i]? with
  | some .tail, some o => (t1 :: r).contains i
  | some (.eq _), some o => (kY ops ops.size (jZ ops t1)).contains i || (o.guard.isNone && lates.contains i)
  | some .skip, _ => (kY ops ops.size (jZ ops t1)).contains i
  | some (.of _), _ => (kY ops ops.size (jZ ops t1)).contains i
  | _, _ => false) && ((t1 :: r).all fun i => match G[i]? with | some .tail => true | _ => false)
structure RT (ops : Array Oper) (G : List Pr) (ws : List Nat) (a0 : Act) (i : Nat) (vs : Nat → Value) (a : Act) : Prop where
 old : ∀ s, ws.contains s = false → a.tmps[s]? = a0.tmps[s]?
 dep : ∀ j d, bH ops i j = true → aP ops j = some d → a.tmps[d]? = some (vs j)
 eqs : ∀ (j : Nat) (v : Value), G[j]? = some (.eq v) → vs j = v
def yu (P : Program) (ops : Array Oper) (G : List Pr) (ws : List Nat) (a0 : Act) (Z Z' : (Nat → Value) → World → Prop) (t : Nat) : Prop :=
 ∀ (o : Oper) (vs : Nat → Value) (a : Act) (w : World) (K : Act → World → Prop) (Q : Exit → Act → World → Prop), ops[t]? = some o → RT ops G ws a0 t vs a → Z vs w → (∀ v w', Z' (upd vs t v) w' → K (a.put o.dst v) w') → Oper.wp P o a w K Q
theorem yu.mk {P : Program} {ops : Array Oper} {G : List Pr} {ws : List Nat} {a0 : Act} {Z Z' : (Nat → Value) → World → Prop} {t : Nat} {o : Oper} (ho : ops[t]? = some o)
  (h : ∀ (vs : Nat → Value) (a : Act) (w : World) (K : Act → World → Prop) (Q : Exit → Act → World → Prop), RT ops G ws a0 t vs a → Z vs w → (∀ v w', Z' (upd vs t v) w' → K (a.put o.dst v) w') → Oper.wp P o a w K Q) : yu P ops G ws a0 Z Z' t := by
 intro o' vs a w K Q ho' hR hZ hK;rw [ho] at ho';cases ho'
 exact h vs a w K Q hR hZ hK
def oZ (P : Program) (ops : Array Oper) (G : List Pr) (ws : List Nat) (a0 : Act) : ((Nat → Value) → World → Prop) → List Nat → List ((Nat → Value) → World → Prop) → Prop
 | Z, t :: ts, Z' :: Zs => yu P ops G ws a0 Z Z' t ∧ oZ P ops G ws a0 Z' ts Zs
 | _, [], [] => True
 | _, _, _ => False
structure RP (ops : Array Oper) (G : List Pr) (ws : List Nat) (a0 : Act) (i : Nat) (a : Act) : Prop where
 old : ∀ s, ws.contains s = false → a.tmps[s]? = a0.tmps[s]?
 eq : ∀ (j : Nat) (v : Value) (d : Tmp), bH ops i j = true → G[j]? = some (.eq v) → aP ops j = some d → a.tmps[d]? = some v
def gJ (P : Program) (ops : Array Oper) (G : List Pr) (ws : List Nat) (a0 : Act) (i : Nat) : Prop :=
 ∀ (o : Oper) (v : Value) (a : Act) (w : World) (K : Act → World → Prop) (Q : Exit → Act → World → Prop), ops[i]? = some o → G[i]? = some (.eq v) → RP ops G ws a0 i a → K (a.put o.dst v) w → Oper.wp P o a w K Q
theorem gJ.mk {P : Program} {ops : Array Oper} {G : List Pr} {ws : List Nat} {a0 : Act} {i : Nat} {o : Oper} {v : Value} (ho : ops[i]? = some o) (hp : G[i]? = some (.eq v))
  (h : ∀ (a : Act) (w : World) (K : Act → World → Prop) (Q : Exit → Act → World → Prop), RP ops G ws a0 i a → K (a.put o.dst v) w → Oper.wp P o a w K Q) : gJ P ops G ws a0 i := by
 intro o' v' a w K Q ho' hp' hR hK;rw [ho] at ho';rw [hp] at hp';cases ho'
 cases hp'
 exact h a w K Q hR hK
theorem gJ.step {P : Program} {ops : Array Oper} {G : List Pr} {ws : List Nat} {a0 : Act} {w0 : World} {i : Nat} {v : Value} (hp : G[i]? = some (.eq v)) (h : gJ P ops G ws a0 i) : mE P ops G ws a0 w0 i := by
 intro o p S a w K Q ho hp' hR hK;rw [hp] at hp';cases hp'
 exact h o v a w K Q ho hp ⟨hR.old, fun j v d h1 h2 h3 => hR.eq j h1 h2 h3⟩ (hK _ _ br rfl)
def Z0 (G : List Pr) (w0 : World) (vs : Nat → Value) (w : World) : Prop := Below w0.1.size w0 w ∧ ∃ S : Nat → Prop, (∀ b, S b → w0.1.size ≤ b) ∧ ∀ (i : Nat) (p : (Nat → Prop) → Value → World → Prop), G[i]? = some (.of p) → p S (vs i) w
structure Ib (ops : Array Oper) (G : List Pr) (ws : List Nat) (a0 : Act) (t1 : Nat) (r : List Nat) (Z : (Nat → Value) → World → Prop) (done rest : List Nat) (l : Nat → Bool) (a : Act) (w : World) : Prop where
 split : t1 :: r = done ++ rest
 one : t1 ∈ done
 fr : Fr ws a0 a
 ran : ∀ t ∈ done, l t = true
 come : ∀ t ∈ rest, l t = false
 vals : ∃ vs : Nat → Value, (∀ (i : Nat) (v : Value), G[i]? = some (.eq v) → vs i = v) ∧ (∀ i : Nat, G[i]? = some .skip → vs i = undef) ∧ (∀ i d, l i = true → aP ops i = some d → a.tmps[d]? = some (vs i)) ∧ Z vs w
theorem kg {ops : Array Oper} {t : Nat} {r : List Nat} (h : eH ops (t :: r) = true) : eH ops r = true := by
 cases r with
 | nil => rfl
 | cons t' r =>
  simp only [eH, aH] at h;exact h.2
theorem kZ {ops : Array Oper} : ∀ {d r : List Nat}, eH ops (d ++ r) = true → eH ops r = true
 | [], _, h => h
 | t :: d, r, h => kZ (kg h)
theorem iI {ops : Array Oper} : ∀ {t : Nat} {r : List Nat}, eH ops (t :: r) = true → ∀ i ∈ r, ∃ j ∈ t :: r, bH ops i j = true
 | t, [], _, i, hi => by cases hi
 | t, t' :: r, h, i, hi => by
  have h2 := kg h;simp only [eH, aH] at h;rcases List.mem_cons.1 hi with rfl | hi
  ·exact ⟨t, by simp, h.1.1⟩
  ·obtain ⟨j, hj, hd⟩ := iI h2 i hi
   exact ⟨j, List.mem_cons_of_mem _ hj, hd⟩
def yw : ((Nat → Value) → World → Prop) → List ((Nat → Value) → World → Prop) → (Nat → Value) → World → Prop
 | Z, [] => Z
 | _, Z' :: Zs => yw Z' Zs
def rT (P : Program) (ops : Array Oper) (G : List Pr) (ws : List Nat) (a0 : Act) : List Nat → Prop
 | [] => True
 | i :: r => gJ P ops G ws a0 i ∧ rT P ops G ws a0 r
theorem rT.get {P : Program} {ops : Array Oper} {G : List Pr} {ws : List Nat} {a0 : Act} : ∀ {r : List Nat}, rT P ops G ws a0 r → ∀ i ∈ r, gJ P ops G ws a0 i
 | [], _, i, hi => by cases hi
 | k :: r, h, i, hi => (List.mem_cons.1 hi).elim (fun e => e ▸ h.1) fun m => rT.get h.2 i m
theorem jG {ops : Array Oper} {G : List Pr} {t1 : Nat} {r lates : List Nat} (h : ng ops G t1 r lates = true) {i : Nat} {o : Oper} {p : Pr} (ho : ops[i]? = some o) (hp : G[i]? = some p) :
  (p = .tail ∧ i ∈ t1 :: r) ∨ (i ∈ kY ops ops.size (jZ ops t1) ∧ p ≠ .tail) ∨ (o.guard = none ∧ i ∈ lates ∧ ∃ v, p = .eq v) := by
 unfold ng at h;simp only [aH] at h;have h1 := List.all_eq_true.1 h.1.2 i (by simpa using (ak ho).1);rw [ho, hp] at h1;cases p with
 | tail => exact .inl ⟨rfl, by simpa using h1⟩
 | eq v =>
  simp only [Bool.or_eq_true, aH, Option.isNone_iff_eq_none] at h1;rcases h1 with h1 | ⟨h1, h2⟩
  ·exact .inr (.inl ⟨by simpa using h1, nofun⟩)
  ·exact .inr (.inr ⟨h1, by simpa using h2, v, rfl⟩)
 | skip => exact .inr (.inl ⟨by simpa using h1, nofun⟩)
 | of q => exact .inr (.inl ⟨by simpa using h1, nofun⟩)
 | box T z => cases h1
 | sto a b => cases h1
theorem yx {ops : Array Oper} {G : List Pr} {t1 : Nat} {r lates : List Nat} (h : ng ops G t1 r lates = true) : ∀ i ∈ t1 :: r, G[i]? = some .tail := by
 intro i hi;unfold ng at h;simp only [aH] at h;have h1 := List.all_eq_true.1 h.2 i hi;cases hc : G[i]? with
 | none => rw [hc] at h1; cases h1
 | some p => rw [hc] at h1; cases p <;> first | rfl | cases h1
theorem wQ {ops : Array Oper} {G : List Pr} {t1 : Nat} {r lates : List Nat} (h : ng ops G t1 r lates = true) : eH ops (t1 :: r) = true := by
 unfold ng at h;simp only [aH] at h;exact h.1.1
section
variable {P : Program} {ops : Array Oper} {Q : Exit → Act → World → Prop} {G : List Pr} {a0 : Act} {w0 : World}
theorem pg {n : Nat} {ws : List Nat} (hok : okR ops G ws n = true) {l : Nat → Bool} {a : Act} {vs : Nat → Value} {i : Nat} {o : Oper} {v : Value} (ho : ops[i]? = some o) (hl : l i = false) (hsz : ∀ d, o.dst = some d → d < a.tmps.size)
  (h : ∀ j d, l j = true → aP ops j = some d → a.tmps[d]? = some (vs j)) : ∀ j d, (j == i || l j) = true → aP ops j = some d → (a.put o.dst v).tmps[d]? = some (upd vs i v j) := by
 intro j d hlj hd;have hdi : aP ops i = o.dst := by unfold aP; rw [ho]; rfl
 by_cases hji : j = i
 ·subst hji
  rw [hdi] at hd;rw [hd, upd_self];exact bU (hsz d hd)
 ·rw [upd_ne vs v hji]
  have h1 := h j d (dm hlj hji) hd;cases hdo : o.dst with
  | none => exact h1
  | some d' =>
   rw [cu (fun e => wO hok (i := i) (j := j) (fun e => hji e.symm) (hdi.trans hdo) (by rw [e]; exact hd))];exact h1
theorem rU {id : Nat} (hm : P.follows .mixedOrders = true) (G : List Pr) (t1 : Nat) (r lates : List Nat) (hok : (okR ops G (fe ops.toList) a0.tmps.size && decide (fe ops.toList).Nodup && ng ops G t1 r lates) = true)
  (hsteps : cK P ops G (fe ops.toList) a0 w0 0 G) (hlates : rT P ops G (fe ops.toList) a0 lates) (Zs : List ((Nat → Value) → World → Prop)) (htail : oZ P ops G (fe ops.toList) a0 (Z0 G w0) (t1 :: r) Zs)
  (L : (Nat → Value) → List (Nat × Value)) (hL : ∀ vs, uB vs 0 ops.toList G = L vs)
  (hdone : ∀ (vs : Nat → Value) (w : World), (∀ (i : Nat) (v : Value), G[i]? = some (.eq v) → vs i = v) → yw (Z0 G w0) Zs vs w → Q .normal (bS a0 (L vs)) w) : (Code.region id ops true).wp P Q a0 w0 := by
 simp only [aH, decide_eq_true_eq] at hok;obtain ⟨⟨hok, hnd⟩, hot⟩ := hok;have hlen := qM hok;have hmono := hsteps.mono;have hchain := wQ hot;have htl := yx hot;have hops : ∀ i, i < ops.size → ops[i]? = some ops[i]! ∧ ∃ p, G[i]? = some p := fun i hi => ⟨by rw [getElem!_pos ops i hi]; exact ag hi, _, af (by omega)⟩
 refine gY hm (fun l a w => (∀ k, l k = true → ∀ j, bH ops k j = true → l j = true) ∧
   (((∀ t ∈ t1 :: r, l t = false) ∧ RInv ops G (fe ops.toList) a0 w0 l a w) ∨
    ∃ Z Zs' done rest, Ib ops G (fe ops.toList) a0 t1 r Z done rest l a w ∧ oZ P ops G (fe ops.toList) a0 Z rest Zs' ∧ yw Z Zs' = yw (Z0 G w0) Zs))
  (fun i o ho e he hb => ?_) ⟨(fun k hk => by cases hk), .inl ⟨fun _ _ => rfl, RInv.start⟩⟩ ?_ ?_
 ·have hi := (ak ho).1
  obtain ⟨p, hp⟩ := (hops i hi).2;exact (bX (gM hok hi) ho hp).1 e he hb
 ·rintro l a w i ⟨hcl, hph⟩ hi hl ha
  obtain ⟨ho, p, hp⟩ := hops i hi;generalize ops[i]! = o at ho;have hcl' : ∀ k, (k == i || l k) = true → ∀ j, bH ops k j = true → (j == i || l j) = true := fun k hk j hj => by
   by_cases hki : k = i
   ·subst hki
    exact dW (ja ha hj)
   ·exact dW (hcl k (dm hk hki) j hj)
  have hdst : aP ops i = o.dst := by unfold aP; rw [ho]; rfl
  have hpo := bX (gM hok hi) ho hp;rcases hph with ⟨hnt, hI⟩ | ⟨Z, Zs', done, rest, hT, hTS, hlast⟩
  ·by_cases hpt : p = .tail
   ·subst hpt
    have hmem : i ∈ t1 :: r := by
     rcases jG hot ho hp with h | h | h
     ·exact h.2
     ·exact absurd rfl h.2
     ·obtain ⟨_, _, v, hv⟩ := h; cases hv
    have hi1 : i = t1 := by
     rcases List.mem_cons.1 hmem with h | h
     ·exact h
     ·obtain ⟨j, hj, hd⟩ := iI hchain i h
      have := ja ha hd;rw [hnt j hj] at this;cases this
    subst hi1;obtain ⟨hgd, hdt⟩ := hpo.2.2;obtain ⟨vs, hve, hvo⟩ : ∃ vs : Nat → Value, (∀ (j : Nat) (v : Value), G[j]? = some (.eq v) → vs j = v) ∧ (∀ j d u, (∀ v, G[j]? ≠ some (.eq v)) → aP ops j = some d → a.tmps[d]? = some u → vs j = u) :=
     ⟨fun j => match G[j]? with | some (.eq v) => v | _ => ((aP ops j).bind fun d => a.tmps[d]?).getD undef, fun j v hj => by simp only [hj], fun j d u hne hd hu => by
      show (match G[j]? with | some (.eq v) => v | _ => ((aP ops j).bind fun d => a.tmps[d]?).getD undef) = u;split
      ·rename_i v hv; exact absurd hv (hne v)
      ·rw [hd]; simp only [ai, hu]; rfl⟩
    have hslots : ∀ j d, l j = true → aP ops j = some d → a.tmps[d]? = some (vs j) := fun j d hlj hd => by
     have hj := fG hd;obtain ⟨hoj, q, hq⟩ := hops j hj;rcases jG hot hoj hq with h | h | h
     ·rw [hnt j h.2] at hlj; cases hlj
     ·cases q with
      | eq v =>
       obtain ⟨u, u1, u2⟩ := hI.vals j _ d hq rfl hlj hd;rw [hve j v hq, u1]; exact congrArg some u2
      | skip =>
       obtain ⟨u, u1, u2⟩ := hI.vals j _ d hq rfl hlj hd;rw [hvo j d u (fun v e => by rw [hq] at e; cases e) hd u1, u1]
      | of p =>
       obtain ⟨u, u1, u2⟩ := hI.vals j _ d hq rfl hlj hd;rw [hvo j d u (fun v e => by rw [hq] at e; cases e) hd u1, u1]
      | tail => exact absurd rfl h.2
      | box T z =>
       obtain ⟨g, cs, u1, _⟩ := hI.boxes j _ _ d hq hlj hd;rw [hvo j d _ (fun v e => by rw [hq] at e; cases e) hd u1, u1]
      | sto x y =>
       obtain ⟨_, hdn, _⟩ := (bX (gM hok hj) hoj hq).2.2;unfold aP at hd;rw [hoj] at hd;rw [show (some ops[j]!).bind (·.dst) = ops[j]!.dst from rfl, hdn] at hd;cases hd
     ·obtain ⟨_, _, v, rfl⟩ := h
      obtain ⟨u, u1, u2⟩ := hI.vals j _ d hq rfl hlj hd;rw [hve j v hq, u1]; exact congrArg some u2
    have hanc : ∀ j ∈ kY ops ops.size (jZ ops i), l j = true := oW hcl _ _ (fun j hj => ja ha (mZ.1 hj));have hZ : Z0 G w0 vs w := ⟨hI.bel, SB ops G w0.1.size l a, fun b hb => hb.1, fun j q hq => by
     have hj : j < ops.size := (by have := (List.getElem?_eq_some_iff.1 hq).1; omega);have hlj : l j = true := by
      rcases jG hot (hops j hj).1 hq with h | h | h
      ·cases h.1
      ·exact hanc j h.1
      ·obtain ⟨_, _, v, hv⟩ := h; cases hv
     obtain ⟨_, d, hd, _, _⟩ := (bX (gM hok hj) (hops j hj).1 hq).2.2;have hd' : aP ops j = some d := (by unfold aP; rw [(hops j hj).1]; exact hd);obtain ⟨u, u1, u2⟩ := hI.vals j _ d hq rfl hlj hd';rw [hvo j d u (fun v e => by rw [hq] at e; cases e) hd' u1];exact u2⟩
    cases Zs with
    | nil => exact absurd htail (by simp [oZ])
    | cons Z1 Zs =>
     obtain ⟨hT1, hTr⟩ := htail;refine wpOp_step ho (fun K hK => ?_);rw [if_pos (by simp only [Region.wanted, hgd])];refine hT1 o vs a w K Q ho ⟨fun s hs => hI.fr.rest s (by simpa using hs), fun j d hj hd => hslots j d (ja ha hj) hd, hve⟩ hZ (fun v w' hz => hK _ _ ⟨hcl', .inr ⟨Z1, Zs, [i], r, ⟨rfl, by simp, ?_, ?_, ?_, upd vs i v, ?_, ?_, ?_, hz⟩, hTr, rfl⟩⟩)
     ·cases hdo : o.dst with
      | none => exact hI.fr
      | some d => exact hI.fr.put d (hdt d hdo).1 v
     ·intro t ht
      simp only [List.mem_singleton] at ht;subst ht;simp
     ·intro t ht
      have hne : t ≠ i := fun e => by
       have h1 : ∀ {t : Nat} {r : List Nat}, eH ops (t :: r) = true → ∀ x ∈ r, t < x := by
        intro t r
        induction r generalizing t with
        | nil => intro _ x hx; cases hx
        | cons t' r ih =>
         intro h x hx;have h2 := kg h;simp only [eH, aH, decide_eq_true_eq] at h;rcases List.mem_cons.1 hx with rfl | hx
         ·exact h.1.2
         ·exact Nat.lt_trans h.1.2 (ih h2 x hx)
       have := h1 hchain t ht;omega
      have := hnt t (List.mem_cons_of_mem _ ht);simp only [this, Bool.or_false, beq_eq_false_iff_ne];exact hne
     ·intro j u hj
      rw [upd_ne _ _ (fun e => by rw [e, hp] at hj; cases hj)];exact hve j u hj
     ·intro j hj
      rw [upd_ne _ _ (fun e => by rw [e, hp] at hj; cases hj)];have hjs : j < ops.size := (by have := (List.getElem?_eq_some_iff.1 hj).1; omega);have hlj : l j = true := by
       rcases jG hot (hops j hjs).1 hj with h | h | h
       ·cases h.1
       ·exact hanc j h.1
       ·obtain ⟨_, _, v, hv⟩ := h; cases hv
      obtain ⟨_, d, hd, _, _⟩ := (bX (gM hok hjs) (hops j hjs).1 hj).2.2;have hd' : aP ops j = some d := (by unfold aP; rw [(hops j hjs).1]; exact hd);obtain ⟨u, u1, u2⟩ := hI.vals j _ d hj rfl hlj hd';rw [hvo j d u (fun v e => by rw [hj] at e; cases e) hd' u1];exact u2
     ·exact pg hok ho hl (fun d hd => by rw [hI.fr.size]; exact (hdt d hd).2) hslots
   ·refine wpOp_mono (fun a' w' h => ⟨hcl', .inl ⟨fun t ht => ?_, h⟩⟩) (Bz rfl hok hsteps hI hi hl ha (by rw [hp]; exact fun e => hpt (Option.some.inj e)))
    have h1 := htl t ht;have hne : t ≠ i := fun e => by rw [e, hp] at h1; exact hpt (Option.some.inj h1)
    simp only [hnt t ht, Bool.or_false, beq_eq_false_iff_ne];exact hne
  ·obtain ⟨hsplit, hone, hfr, hran, hcome, vs, hve, hvk, hslots, hz⟩ := hT
   have hlt1 := hran t1 hone;have hanc : ∀ j ∈ kY ops ops.size (jZ ops t1), l j = true := oW hcl _ _ (fun j hj => hcl t1 hlt1 j (mZ.1 hj));rcases jG hot ho hp with h | h | h
   ·obtain ⟨rfl, hmem⟩ := h
    obtain ⟨hgd, hdt⟩ := hpo.2.2;rw [hsplit] at hmem;have hmr : i ∈ rest := by
     rcases List.mem_append.1 hmem with h | h
     ·rw [hran i h] at hl; cases hl
     ·exact h
    cases rest with
    | nil => cases hmr
    | cons t ts =>
     have hch : eH ops (t :: ts) = true := kZ (hsplit ▸ hchain);have hit : i = t := by
      rcases List.mem_cons.1 hmr with h | h
      ·exact h
      ·obtain ⟨j, hj, hd⟩ := iI hch i h
       have := ja ha hd;rw [hcome j hj] at this;cases this
     subst hit;cases Zs' with
     | nil => exact absurd hTS (by simp [oZ])
     | cons Z1 Zs' =>
      obtain ⟨hT1, hTr⟩ := hTS;refine wpOp_step ho (fun K hK => ?_);rw [if_pos (by simp only [Region.wanted, hgd])];refine hT1 o vs a w K Q ho ⟨fun s hs => hfr.rest s (by simpa using hs), fun j d hj hd => hslots j d (ja ha hj) hd, hve⟩ hz (fun v w' hz' => hK _ _ ⟨hcl', .inr ⟨Z1, Zs', done ++ [i], ts, ⟨by rw [hsplit]; simp, by simp [hone], ?_, ?_, ?_, upd vs i v, ?_, ?_, ?_, hz'⟩, hTr, hlast⟩⟩)
      ·cases hdo : o.dst with
       | none => exact hfr
       | some d => exact hfr.put d (hdt d hdo).1 v
      ·intro t ht
       rcases List.mem_append.1 ht with h | h
       ·exact dW (hran t h)
       ·simp only [List.mem_singleton] at h
        subst h;simp
      ·intro t ht
       have hne : t ≠ i := fun e => by
        subst e;obtain ⟨j, hj, hd⟩ := iI hch t ht;have := ja ha hd;rw [hcome j hj] at this;cases this
       simp only [hcome t (List.mem_cons_of_mem _ ht), Bool.or_false, beq_eq_false_iff_ne];exact hne
      ·intro j u hj
       rw [upd_ne _ _ (fun e => by rw [e, hp] at hj; cases hj)];exact hve j u hj
      ·intro j hj
       rw [upd_ne _ _ (fun e => by rw [e, hp] at hj; cases hj)];exact hvk j hj
      ·exact pg hok ho hl (fun d hd => by rw [hfr.size]; exact (hdt d hd).2) hslots
   ·rw [hanc i h.1] at hl; cases hl
   ·obtain ⟨hgd, hla, v, rfl⟩ := h
    obtain ⟨_, d, hd, hws, hdn⟩ := hpo.2.2;refine wpOp_step ho (fun K hK => ?_);rw [if_pos (by simp only [Region.wanted, hgd])];refine hlates.get i hla o v a w K Q ho hp ⟨fun s hs => hfr.rest s (by simpa using hs), fun j u d hj hu hd => by rw [← hve j u hu]; exact hslots j d (ja ha hj) hd⟩ (hK _ _ ⟨hcl', .inr ⟨Z, Zs', done, rest, ⟨hsplit, hone, ?_, fun t ht => dW (hran t ht), ?_, vs, hve, hvk, ?_, hz⟩, hTS, hlast⟩⟩)
    ·rw [hd]; exact hfr.put d hws v
    ·intro t ht
     have hne : t ≠ i := fun e => by
      have := htl t (by rw [hsplit]; exact List.mem_append_right _ ht);rw [e, hp] at this;cases this
     simp only [hcome t ht, Bool.or_false, beq_eq_false_iff_ne];exact hne
    ·intro j d' hlj hd'
     have h2 := pg (v := v) hok ho hl (fun d2 hd2 => by rw [hd] at hd2; cases hd2; rw [hfr.size]; exact hdn) hslots j d' hlj hd';rw [h2];by_cases hji : j = i
     ·subst hji; rw [upd_self, hve j v hp]
     ·rw [upd_ne _ _ hji]
 ·rintro l a w hl ⟨hcl, hph⟩
  rcases hph with ⟨hnt, _⟩ | ⟨Z, Zs', done, rest, hT, hTS, hlast⟩
  ·have := hnt t1 (by simp)
   have hlt : t1 < ops.size := (by have := (List.getElem?_eq_some_iff.1 (htl t1 (by simp))).1; omega);rw [hl t1 hlt] at this;cases this
  ·obtain ⟨hsplit, hone, hfr, hran, hcome, vs, hve, hvk, hslots, hz⟩ := hT
   cases rest with
   | cons t ts =>
    have hmt : t ∈ t1 :: r := (by rw [hsplit]; simp);have hlt : t < ops.size := (by have := (List.getElem?_eq_some_iff.1 (htl t hmt)).1; omega);have := hcome t (by simp);rw [hl t hlt] at this;cases this
   | nil =>
    cases Zs' with
    | cons Z1 Zs' => exact absurd hTS (by simp [oZ])
    | nil =>
     have hz' : yw (Z0 G w0) Zs vs w := (by rw [← hlast]; exact hz);have hfe : a = bS a0 (L vs) := by
      rw [← hL vs];have hfst := rR vs ops.toList G 0 (by simpa using hlen.symm);refine kV _ (by rw [hfst]; exact hfr) (by rw [hfst]; exact hnd) (fun x hx => ?_) (fun x hx => ?_)
      ·obtain ⟨j, o, p, h1, h2, h3, h4⟩ := kX vs ops.toList G 0 (by simpa using hlen.symm) x hx
       have h1' : ops[j]? = some o := (by simpa using h1);have hj : j < ops.size := (ak h1').1;have hk := (bX (gM hok hj) h1' h2).2.2;have : ∃ d, o.dst = some d ∧ d < a0.tmps.size := by
        cases p with
        | skip => exact ⟨_, hk.2.choose_spec.1, hk.2.choose_spec.2.2⟩
        | eq v => exact ⟨_, hk.2.choose_spec.1, hk.2.choose_spec.2.2⟩
        | of q => exact ⟨_, hk.2.choose_spec.1, hk.2.choose_spec.2.2⟩
        | box T z => exact ⟨_, hk.2.1.choose_spec.1, hk.2.1.choose_spec.2.2⟩
        | sto al vl => rw [hk.2.1] at h3; cases h3
        | tail => exact ⟨x.1, h3, (hk.2 x.1 h3).2⟩
       obtain ⟨d, e1, e2⟩ := this;rw [h3] at e1;cases e1
       exact e2
      ·obtain ⟨j, o, p, h1, h2, h3, h4⟩ := kX vs ops.toList G 0 (by simpa using hlen.symm) x hx
       have h1' : ops[j]? = some o := (by simpa using h1);have hj : j < ops.size := (ak h1').1;have hd : aP ops j = some x.1 := (by unfold aP; rw [h1']; exact h3);have hsl := hslots j x.1 (hl j hj) hd;have hval : vs j = p.val (vs j) := by
        cases p with
        | eq v => exact hve j v h2
        | skip => exact hvk j h2
        | of q => rfl
        | box T z => rfl
        | sto x y => rfl
        | tail => rfl
       rw [Nat.zero_add] at h4;rw [h4, ← hval];simp only [Act.eval, Array.getD_eq_getD_getElem?, hsl];rfl
     rw [hfe];exact hdone vs w hve hz'
end
inductive Cv where
 | skip
 | eq (v : Value)
 | fn (c : Nat) (f : Value → Value)
 | wr
 | weq (v : Value)
def Cv.val (vs : Nat → Value) (i : Nat) : Cv → Value
 | .skip => undef
 | .eq v => v
 | .fn c f => f (vs c)
 | .wr => vs i
 | .weq v => v
def Cv.isW : Cv → Bool
 | .wr | .weq _ => true
 | _ => false
def nW (G : List Cv) (i : Nat) : Nat := ((G.take i).filter Cv.isW).length
def dL (ops : Array Oper) : Nat → Nat → Nat → Bool
 | 0, _, _ => false
 | f + 1, i, j => bH ops i j || (match ops[i]? with | some o => o.after.any fun e => Region.binds .any e && dL ops f e.on j | none => false)
theorem iP {ops : Array Oper} {i j : Nat} (h : bH ops i j = true) : ∃ o e, ops[i]? = some o ∧ e ∈ o.after ∧ e.on = j ∧ Region.binds .any e = true := by
 unfold bH at h;split at h
 ·rename_i o ho
  obtain ⟨k, hk, h2⟩ := Array.any_eq_true.1 h;simp only [aH, beq_iff_eq] at h2;exact ⟨o, _, ho, Array.getElem_mem hk, h2.1, h2.2⟩
 ·cases h
theorem dH {ops : Array Oper} {l : Nat → Bool} (hc : ∀ i o, ops[i]? = some o → l i = true → ∀ e ∈ o.after, Region.binds .any e = true → l e.on = true) : ∀ (f i j : Nat), dL ops f i j = true → (∀ o, ops[i]? = some o → ∀ e ∈ o.after, Region.binds .any e = true → l e.on = true) → l j = true
 | 0, i, j, h, _ => by simp [dL] at h
 | f + 1, i, j, h, hi => by
  unfold dL at h;rw [Bool.or_eq_true] at h;rcases h with h | h
  ·obtain ⟨o, e, h1, h2, h3, h4⟩ := iP h
   rw [← h3]; exact hi o h1 e h2 h4
  ·split at h
   ·rename_i o ho
    obtain ⟨k, hk, h2⟩ := Array.any_eq_true.1 h;simp only [aH] at h2;have he := hi o ho _ (Array.getElem_mem hk) h2.1;exact dH hc f _ j h2.2 (fun o' ho' => hc _ o' ho' he)
   ·cases h
structure Ct (ops : Array Oper) (G : List Cv) (ws : List Nat) (a0 : Act) (Z : Nat → (Nat → Value) → World → Prop) (l : Nat → Bool) (a : Act) (w : World) : Prop where
 fr : Fr ws a0 a
 closed : ∀ i o, ops[i]? = some o → l i = true → ∀ e ∈ o.after, Region.binds .any e = true → l e.on = true
 pre : ∀ i d, aP ops i = some d → l i = false → a.tmps[d]? = a0.tmps[d]?
 st : ∃ vs t, t ≤ nW G ops.size ∧ (∀ c g, G[c]? = some g → g.isW = true → l c = decide (nW G c < t)) ∧ Z t vs w ∧ ∀ i g d, G[i]? = some g → l i = true → aP ops i = some d → a.tmps[d]? = some (g.val vs i)
structure CS (ops : Array Oper) (G : List Cv) (ws : List Nat) (a0 : Act) (i t : Nat) (vs : Nat → Value) (a : Act) : Prop where
 old : ∀ s, ws.contains s = false → a.tmps[s]? = a0.tmps[s]?
 dep : ∀ j g d, bH ops i j = true → G[j]? = some g → aP ops j = some d → a.tmps[d]? = some (g.val vs j)
 lo : ∀ c g, G[c]? = some g → g.isW = true → dL ops ops.size i c = true → nW G c < t
 hi : ∀ c g, G[c]? = some g → g.isW = true → dL ops ops.size c i = true → t ≤ nW G c
 pre : ∀ j d, aP ops j = some d → j = i ∨ dL ops ops.size j i = true → a.tmps[d]? = a0.tmps[d]?
def rV (P : Program) (ops : Array Oper) (G : List Cv) (ws : List Nat) (a0 : Act) (Z : Nat → (Nat → Value) → World → Prop) (i : Nat) : Prop :=
 ∀ (o : Oper) (g : Cv) (t : Nat) (vs : Nat → Value) (a : Act) (w : World) (K : Act → World → Prop) (Q : Exit → Act → World → Prop), ops[i]? = some o → G[i]? = some g → CS ops G ws a0 i t vs a → Z t vs w →
  (∀ w', Z t vs w' → K (a.put o.dst (g.val vs i)) w') → Oper.wp P o a w K Q
def lh (P : Program) (ops : Array Oper) (G : List Cv) (ws : List Nat) (a0 : Act) (Z : Nat → (Nat → Value) → World → Prop) (m i : Nat) : Prop :=
 ∀ (o : Oper) (g : Cv) (vs : Nat → Value) (a : Act) (w : World) (K : Act → World → Prop) (Q : Exit → Act → World → Prop), ops[i]? = some o → G[i]? = some g → CS ops G ws a0 i m vs a → Z m vs w →
  (∀ v w', (∀ v', g = .weq v' → v = v') → Z (m + 1) (upd vs i v) w' → K (a.put o.dst v) w') → Oper.wp P o a w K Q
def eU (P : Program) (ops : Array Oper) (G : List Cv) (ws : List Nat) (a0 : Act) (Z : Nat → (Nat → Value) → World → Prop) : Nat → Nat → List Cv → Prop
 | _, _, [] => True
 | i, m, .skip :: ps => eU P ops G ws a0 Z (i + 1) m ps
 | i, m, .eq _ :: ps => rV P ops G ws a0 Z i ∧ eU P ops G ws a0 Z (i + 1) m ps
 | i, m, .fn _ _ :: ps => rV P ops G ws a0 Z i ∧ eU P ops G ws a0 Z (i + 1) m ps
 | i, m, .wr :: ps => lh P ops G ws a0 Z m i ∧ eU P ops G ws a0 Z (i + 1) (m + 1) ps
 | i, m, .weq _ :: ps => lh P ops G ws a0 Z m i ∧ eU P ops G ws a0 Z (i + 1) (m + 1) ps
def nV (ops : Array Oper) (G : List Cv) (i : Nat) : Bool := match (ops[i]?).bind (·.guard) with
 | none => true
 | some (j, b) => match G[j]? with
  | some (.eq (.bool c)) => c == b
  | some (.weq (.bool c)) => c == b
  | _ => false
def BA (ops : Array Oper) (G : List Cv) (ws : List Nat) (n : Nat) (i : Nat) : Bool := match ops[i]?, G[i]? with
 | some o, some g =>
  (o.after.all fun e => !Region.binds .any e || decide (e.on < i)) &&
  (match o.guard with
   | none => true
   | some (j, _) => bH ops i j && (match G[j]? with | some (.eq (.bool _)) => true | some (.weq (.bool _)) => true | some .skip => true | _ => false)) &&
  (match g with
   | .skip => !nV ops G i && o.dst.isSome
   | .fn c _ => nV ops G i && o.dst.isSome && dL ops ops.size i c && (match G[c]? with | some g => g.isW | none => false)
   | .eq _ => nV ops G i && o.dst.isSome
   | .weq _ => nV ops G i && o.dst.isSome
   | .wr => nV ops G i) &&
  (match o.dst with | some d => ws.contains d && decide (d < n) | none => true)
 | none, none => true
 | _, _ => false
def GZ (ops : Array Oper) (G : List Cv) : Bool := (List.range ops.size).all fun i => (List.range ops.size).all fun j =>
 !(match G[i]?, G[j]? with | some g, some g' => g.isW && g'.isW && nW G j == nW G i + 1 | _, _ => false) || dL ops ops.size j i
def okC (ops : Array Oper) (G : List Cv) (ws : List Nat) (n : Nat) : Bool := (G.length == ops.size) && ((List.range ops.size).all fun i => BA ops G ws n i) && DT ops && GZ ops G
section
variable {P : Program} {ops : Array Oper} {Q : Exit → Act → World → Prop} {G : List Cv} {ws : List Nat} {a0 : Act} {w0 : World} {Z : Nat → (Nat → Value) → World → Prop}
theorem ni {n : Nat} (h : okC ops G ws n = true) {i : Nat} (hi : i < ops.size) : BA ops G ws n i = true := by
 unfold okC at h;simp only [aH] at h;exact List.all_eq_true.1 h.1.1.2 i (by simpa using hi)
theorem wR {n : Nat} (h : okC ops G ws n = true) : G.length = ops.size := by
 unfold okC at h;simp only [aH] at h;simpa using h.1.1.1
theorem wS {n : Nat} (h : okC ops G ws n = true) {i j : Nat} {d : Tmp} (hne : i ≠ j) (h1 : aP ops i = some d) : aP ops j ≠ some d := by
 unfold okC at h;simp only [aH] at h;intro h2;have h3 := List.all_eq_true.1 (List.all_eq_true.1 h.1.2 i (by simpa using fG h1)) j (by simpa using fG h2);rw [h1, h2] at h3;simp at h3;exact hne h3
theorem Cu {n : Nat} (h : okC ops G ws n = true) {i j : Nat} {g g' : Cv} (hi : i < ops.size) (hj : j < ops.size) (h1 : G[i]? = some g) (h2 : G[j]? = some g') (w1 : g.isW = true) (w2 : g'.isW = true) (hn : nW G j = nW G i + 1) : dL ops ops.size j i = true := by
 unfold okC at h;simp only [aH] at h;have h3 := List.all_eq_true.1 (List.all_eq_true.1 h.2 i (by simpa using hi)) j (by simpa using hj);rw [h1, h2] at h3;simpa [w1, w2, hn] using h3
theorem Ha {G : List Cv} {i j : Nat} (h : i ≤ j) : nW G i ≤ nW G j := by
 unfold nW;obtain ⟨k, rfl⟩ := Nat.exists_eq_add_of_le h;rw [List.take_add, List.filter_append, aI]; omega
theorem BB {G : List Cv} {i : Nat} {g : Cv} (h : G[i]? = some g) : nW G (i + 1) = nW G i + if g.isW then 1 else 0 := by
 unfold nW;obtain ⟨hl, he⟩ := List.getElem?_eq_some_iff.1 h;rw [List.take_succ_eq_append_getElem hl, List.filter_append, aI, he];cases hw : g.isW <;> simp [List.filter_cons, hw]
theorem DU {G : List Cv} {i j : Nat} {g : Cv} (h : G[i]? = some g) (hw : g.isW = true) (hij : i < j) : nW G i < nW G j := by
 have h1 := BB h;rw [hw] at h1;have h2 := Ha (G := G) (show i + 1 ≤ j by omega);simp at h1; omega
theorem GA {G : List Cv} {i j : Nat} {g g' : Cv} (h : G[i]? = some g) (h' : G[j]? = some g') (hw : g.isW = true) (hw' : g'.isW = true) (hn : nW G i = nW G j) : i = j := by
 rcases Nat.lt_trichotomy i j with h1 | h1 | h1
 ·have := DU h hw h1; omega
 ·exact h1
 ·have := DU h' hw' h1; omega
theorem nY {G : List Cv} : ∀ {j m : Nat}, nW G j = m + 1 → ∃ i g, i < j ∧ G[i]? = some g ∧ g.isW = true ∧ nW G i = m
 | 0, m, h => by simp [nW] at h
 | j + 1, m, h => by
  cases hg : G[j]? with
  | none =>
   have hl : G.length ≤ j := List.getElem?_eq_none_iff.1 hg;have he : nW G (j + 1) = nW G j := (by unfold nW; rw [ah (by omega), ah hl]);rw [he] at h;obtain ⟨i, g, h1, h2⟩ := nY h;exact ⟨i, g, by omega, h2⟩
  | some g =>
   rw [BB hg] at h;cases hw : g.isW with
   | true => rw [hw] at h; exact ⟨j, g, by omega, hg, hw, by simpa using h⟩
   | false =>
    rw [hw] at h;obtain ⟨i, g', h1, h2⟩ := nY (by simpa using h);exact ⟨i, g', by omega, h2⟩
theorem eU.step : ∀ {ps : List Cv} {k m : Nat}, eU P ops G ws a0 Z k m ps → ∀ i g, ps[i]? = some g → (g.isW = true → lh P ops G ws a0 Z (m + nW ps i) (k + i)) ∧ (g.isW = false → g ≠ .skip → rV P ops G ws a0 Z (k + i))
 | [], _, _, _, i, g, h => by simp at h
 | q :: ps, k, m, h, 0, g, hg => by
  simp only [List.getElem?_cons_zero, Option.some.injEq] at hg;subst hg;have h0 : nW (q :: ps) 0 = 0 := by simp [nW]
  rw [h0];cases q with
  | skip => exact ⟨fun e => by simp [Cv.isW] at e, fun _ e => absurd rfl e⟩
  | eq v => exact ⟨fun e => by simp [Cv.isW] at e, fun _ _ => h.1⟩
  | fn c f => exact ⟨fun e => by simp [Cv.isW] at e, fun _ _ => h.1⟩
  | wr => exact ⟨fun _ => h.1, fun e => by simp [Cv.isW] at e⟩
  | weq v => exact ⟨fun _ => h.1, fun e => by simp [Cv.isW] at e⟩
 | q :: ps, k, m, h, i + 1, g, hg => by
  simp only [List.getElem?_cons_succ] at hg;have hk : k + (i + 1) = k + 1 + i := by omega
  have hn : nW (q :: ps) (i + 1) = (if q.isW then 1 else 0) + nW ps i := by
   unfold nW;rw [List.take_succ_cons, List.filter_cons];cases q.isW <;> simp; omega
  rw [hk, hn];cases q with
  | skip => have := eU.step (k := k + 1) (m := m) h i g hg; simpa [Cv.isW] using this
  | eq v => have := eU.step (k := k + 1) (m := m) h.2 i g hg; simpa [Cv.isW] using this
  | fn c f => have := eU.step (k := k + 1) (m := m) h.2 i g hg; simpa [Cv.isW] using this
  | wr => have := eU.step (k := k + 1) (m := m + 1) h.2 i g hg; simpa [Cv.isW, Nat.add_assoc] using this
  | weq v => have := eU.step (k := k + 1) (m := m + 1) h.2 i g hg; simpa [Cv.isW, Nat.add_assoc] using this
theorem ed {n i : Nat} {o : Oper} {g : Cv} (h : BA ops G ws n i = true) (ho : ops[i]? = some o) (hp : G[i]? = some g) :
  (∀ e ∈ o.after, Region.binds .any e = true → e.on < i) ∧
  (∀ j b, o.guard = some (j, b) → bH ops i j = true ∧ ((∃ c, G[j]? = some (.eq (.bool c))) ∨ (∃ c, G[j]? = some (.weq (.bool c))) ∨ G[j]? = some .skip)) ∧
  (nV ops G i = (match g with | .skip => false | _ => true)) ∧ (g ≠ .wr → ∃ d, o.dst = some d) ∧ (∀ d, o.dst = some d → d ∈ ws ∧ d < n) ∧
  (∀ c f, g = .fn c f → dL ops ops.size i c = true ∧ ∃ g', G[c]? = some g' ∧ g'.isW = true) := by
 unfold BA at h;rw [ho, hp] at h;simp only [aH] at h;obtain ⟨⟨⟨h1, h2⟩, h3⟩, h4⟩ := h;refine ⟨fun e he hb => ?_, fun j b hg => ?_, ?_, ?_, fun d hd => ?_, ?_⟩
 ·simp only [Array.all_eq_true'] at h1
  have := h1 e he;rw [hb] at this;simpa using this
 ·rw [hg] at h2
  simp only [aH] at h2;refine ⟨h2.1, ?_⟩;have h5 := h2.2;split at h5
  ·rename_i c hc; exact .inl ⟨c, hc⟩
  ·rename_i c hc; exact .inr (.inl ⟨c, hc⟩)
  ·rename_i hc; exact .inr (.inr hc)
  ·cases h5
 ·cases g <;> simp only [aH, Bool.not_eq_true'] at h3
  ·exact h3.1
  ·exact h3.1
  ·exact h3.1.1.1
  ·exact h3
  ·exact h3.1
 ·cases g <;> simp only [aH, Bool.not_eq_true'] at h3 ⊢
  ·exact fun _ => Option.isSome_iff_exists.1 h3.2
  ·exact fun _ => Option.isSome_iff_exists.1 h3.2
  ·exact fun _ => Option.isSome_iff_exists.1 h3.1.1.2
  ·exact fun h => absurd rfl h
  ·exact fun _ => Option.isSome_iff_exists.1 h3.2
 ·rw [hd] at h4
  simp only [aH, decide_eq_true_eq] at h4;exact ⟨by simpa using h4.1, h4.2⟩
 ·intro c f hg
  subst hg;simp only [aH] at h3;refine ⟨h3.1.2, ?_⟩;have h5 := h3.2;split at h5
  ·rename_i g' hg'; exact ⟨g', hg', h5⟩
  ·cases h5
theorem Fy {g : Cv} {vs : Nat → Value} {i j : Nat} {v : Value} (h1 : g.isW = true → j ≠ i) (h2 : ∀ c f, g = .fn c f → c ≠ i) : g.val (upd vs i v) j = g.val vs j := by
 cases g with
 | skip => rfl
 | eq v => rfl
 | fn c f => simp only [Cv.val]; rw [upd_ne _ _ (h2 c f rfl)]
 | wr => simp only [Cv.val]; rw [upd_ne _ _ (h1 rfl)]
 | weq v => rfl
theorem DV {n : Nat} (hn : n = a0.tmps.size) (hok : okC ops G ws n = true) (hsteps : eU P ops G ws a0 Z 0 0 G) {l : Nat → Bool} {a : Act} {w : World} {i : Nat} (hI : Ct ops G ws a0 Z l a w) (hi : i < ops.size) (hl : l i = false)
  (ha : ∀ o, ops[i]? = some o → ∀ e ∈ o.after, Region.binds .any e = true → l e.on = true) : wpOp P ops Q i (fun a' w' => Ct ops G ws a0 Z (fun j => j == i || l j) a' w') a w := by
 subst hn;have hlen := wR hok;have ho : ops[i]? = some ops[i] := ag hi;have hp : G[i]? = some G[i] := af (by omega);have hz : a.tmps.size = a0.tmps.size := hI.fr.size;generalize ops[i] = o at ho;generalize G[i] = g at hp;obtain ⟨k1, k2, k3, k4, k5, k6⟩ := ed (ni hok hi) ho hp;have hdo : ∀ d, o.dst = some d → aP ops i = some d := fun d hd => by unfold aP; rw [ho]; exact hd
 obtain ⟨vs, t, hle, hst, hZ, hvals⟩ := hI.st;have hclosed' : ∀ (i' : Nat) (o' : Oper), ops[i']? = some o' → (i' == i || l i') = true → ∀ e ∈ o'.after, Region.binds .any e = true → (e.on == i || l e.on) = true := fun i' o' h1 h2 e he hb => by
  by_cases hii : i' = i
  ·subst hii
   rw [ho] at h1; injection h1 with h1; subst h1
   simp [ha o ho e he hb]
  ·have h3 : l i' = true := dm h2 hii
   simp [hI.closed i' o' h1 h3 e he hb]
 have hlo : ∀ c g', G[c]? = some g' → g'.isW = true → dL ops ops.size i c = true → nW G c < t := fun c g' h1 h2 h3 => by
  have h4 := dH hI.closed _ _ _ h3 ha;rw [hst c g' h1 h2] at h4;simpa using h4
 have hhi : ∀ c g', G[c]? = some g' → g'.isW = true → dL ops ops.size c i = true → t ≤ nW G c := fun c g' h1 h2 h3 => by
  have h4 : l c = false := by
   cases h5 : l c with
   | false => rfl
   | true =>
    have h6 := dH hI.closed _ _ _ h3 (fun o' ho' e he hb => hI.closed c o' ho' h5 e he hb);rw [hl] at h6; cases h6
  rw [hst c g' h1 h2] at h4;simpa using h4
 have hCS : CS ops G ws a0 i t vs a := ⟨fun s hs => hI.fr.rest s (by simpa using hs), fun j g' d h1 h2 h3 => by
  obtain ⟨o', e, q1, q2, q3, q4⟩ := iP h1;rw [ho] at q1; injection q1 with q1; subst q1
  have h4 := ha o ho e q2 q4;rw [q3] at h4;exact hvals j g' d h2 h4 h3, hlo, hhi, fun j d h1 h2 => hI.pre j d h1 (by
   rcases h2 with rfl | h2
   ·exact hl
   ·cases h5 : l j with
    | false => rfl
    | true =>
     have h6 := dH hI.closed _ _ _ h2 (fun o' ho' e he hb => hI.closed j o' ho' h5 e he hb);rw [hl] at h6; cases h6)⟩
 have hpre : ∀ v, ∀ i' d', aP ops i' = some d' → (i' == i || l i') = false → (a.put o.dst v).tmps[d']? = a0.tmps[d']? := fun v i' d' h3 h2 => by
  rw [Bool.or_eq_false_iff] at h2;have hii : i' ≠ i := by simpa using h2.1
  cases hd : o.dst with
  | none => exact hI.pre i' d' h3 h2.2
  | some d => rw [cu (by intro e; subst e; exact wS hok (fun e => hii e.symm) (hdo _ hd) h3)]; exact hI.pre i' d' h3 h2.2
 have hyield : ∀ j b, o.guard = some (j, b) → Region.wanted o (yielded ops a.tmps) = (match G[j]? with | some (.eq (.bool c)) => c == b | some (.weq (.bool c)) => c == b | _ => false) := fun j b hg => by
  obtain ⟨hdep, hc⟩ := k2 j b hg;obtain ⟨o', e, q1, q2, q3, q4⟩ := iP hdep;rw [ho] at q1; injection q1 with q1; subst q1
  have hlj := ha o ho e q2 q4;rw [q3] at hlj;have hjv : ∀ q, G[j]? = some q → (∀ v, q.val vs j = v → (v = undef ∨ ∃ c, v = .bool c) → yielded ops a.tmps j = yv v ∨ aP ops j = none) := fun q hq v hv hvv => by
   cases hd : aP ops j with
   | none => exact .inr rfl
   | some dj =>
    left
    have h4 := hvals j q dj hq hlj hd;unfold yielded;have h5 : (ops[j]?).bind (·.dst) = some dj := hd;rw [h5];simp only [ai, h4, hv];rcases hvv with rfl | ⟨c, rfl⟩ <;> rfl
  have hnone : aP ops j = none → yielded ops a.tmps j = none := fun h => by
   unfold yielded;have h5 : (ops[j]?).bind (·.dst) = none := h;rw [h5]; rfl
  have hjlt : j < ops.size := by have := k1 e q2 q4; omega
  have hsome : ∀ q, G[j]? = some q → q ≠ .wr → aP ops j ≠ none := fun q hq hw hd => by
   obtain ⟨d, h5⟩ := (ed (ni hok hjlt) (ag hjlt) hq).2.2.2.1 hw;unfold aP at hd;rw [ag hjlt] at hd;simp only [ai, h5] at hd;cases hd
  rcases hc with ⟨c, hc⟩ | ⟨c, hc⟩ | hc
  ·rcases hjv _ hc _ rfl (.inr ⟨c, rfl⟩) with hy | hd
   ·simp only [Region.wanted, hg, hy, hc]
    cases c <;> cases b <;> rfl
   ·exact absurd hd (hsome _ hc nofun)
  ·rcases hjv _ hc _ rfl (.inr ⟨c, rfl⟩) with hy | hd
   ·simp only [Region.wanted, hg, hy, hc]
    cases c <;> cases b <;> rfl
   ·exact absurd hd (hsome _ hc nofun)
  ·rcases hjv _ hc _ rfl (.inl rfl) with hy | hd
   ·simp only [Region.wanted, hg, hy, hc]
    cases b <;> rfl
   ·exact absurd hd (hsome _ hc nofun)
 have hwant : ∀ b, nV ops G i = b → Region.wanted o (yielded ops a.tmps) = b := fun b hb => by
  unfold nV at hb;rw [ho] at hb;simp only [ai] at hb;cases hg : o.guard with
  | none =>
   rw [hg] at hb;simp only [Region.wanted, hg];exact hb
  | some jb =>
   obtain ⟨j, b'⟩ := jb;rw [hg] at hb;rw [hyield j b' hg]; exact hb
 have hstep := hsteps.step i g hp;simp only [Nat.zero_add] at hstep;have hpure : g.isW = false → ∀ w', Z t vs w' → Ct ops G ws a0 Z (fun j => j == i || l j) (a.put o.dst (g.val vs i)) w' := fun hw w' hZ' => by
  obtain ⟨d, hd⟩ := k4 (fun e => by subst e; cases hw);obtain ⟨hws, hdn⟩ := k5 d hd;refine ⟨by rw [hd]; exact hI.fr.put d hws _, hclosed', hpre _, vs, t, hle, fun c g' h1 h2 => ?_, hZ', fun i' g' d' h1 h2 h3 => ?_⟩
  ·have hci : c ≠ i := fun e => by subst e; rw [hp] at h1; injection h1 with h1; subst h1; rw [hw] at h2; cases h2
   have : (c == i) = false := (by simpa using hci);show (c == i || l c) = _;rw [this, Bool.false_or]; exact hst c g' h1 h2
  ·rw [hd]
   by_cases hii : i' = i
   ·subst hii
    rw [hp] at h1; injection h1 with h1; subst h1
    rw [hdo d hd] at h3; injection h3 with h3; subst h3
    exact bU (by rw [hz]; exact hdn)
   ·rw [cu (by intro e; subst e; exact wS hok (fun e => hii e.symm) (hdo _ hd) h3)]
    exact hvals i' g' d' h1 (dm h2 hii) h3
 have hwrite : g.isW = true → lh P ops G ws a0 Z (nW G i) i → nV ops G i = true → wpOp P ops Q i (fun a' w' => Ct ops G ws a0 Z (fun j => j == i || l j) a' w') a w := fun hw hW hr => by
  have ht : t = nW G i := by
   have h1 : t ≤ nW G i := by
    have := hst i g hp hw;rw [hl] at this;simpa using this.symm
   have h2 : nW G i ≤ t := by
    cases hm : nW G i with
    | zero => omega
    | succ m =>
     obtain ⟨j, g', q1, q2, q3, q4⟩ := nY hm;have := hlo j g' q2 q3 (Cu hok (by omega) hi q2 hp q3 hw (by omega));omega
   omega
  subst ht;refine wpOp_step ho (fun K hK => ?_);rw [if_pos (hwant true hr)];refine hW o g vs a w K Q ho hp hCS hZ (fun v w' hv hZ' => hK _ _ ?_);refine ⟨?_, hclosed', hpre _, upd vs i v, nW G i + 1, DU hp hw hi, fun c g' h1 h2 => ?_, hZ', fun i' g' d' h1 h2 h3 => ?_⟩
  ·cases hd : o.dst with
   | none => exact hI.fr
   | some d => exact hI.fr.put d (k5 d hd).1 _
  ·show (c == i || l c) = _
   by_cases hci : c = i
   ·subst hci
    rw [show (c == c) = true from by simp, Bool.true_or];simp
   ·have : (c == i) = false := by simpa using hci
    rw [this, Bool.false_or, hst c g' h1 h2];have hne : nW G c ≠ nW G i := fun e => hci (GA h1 hp h2 hw e)
    by_cases hlt : nW G c < nW G i
    ·rw [decide_eq_true hlt, decide_eq_true (by omega)]
    ·rw [decide_eq_false hlt, decide_eq_false (by omega)]
  ·by_cases hii : i' = i
   ·subst hii
    rw [hp] at h1; injection h1 with h1; subst h1
    have hd : o.dst = some d' := (by unfold aP at h3; rw [ho] at h3; exact h3);rw [hd, bU (by rw [hz]; exact (k5 d' hd).2)];cases g with
    | wr => simp [Cv.val]
    | weq v' => rw [hv v' rfl]; rfl
    | skip => cases hw
    | eq v => cases hw
    | fn c f => cases hw
   ·have hli : l i' = true := dm h2 hii
    have h4 := hvals i' g' d' h1 hli h3;rw [Fy (fun _ => hii) (fun c f hf => ?_)]
    ·cases hd : o.dst with
     | none => exact h4
     | some d => rw [cu (by intro e; subst e; exact wS hok (fun e => hii e.symm) (hdo _ hd) h3)]; exact h4
    ·intro hci
     subst hci;have hi' := fG h3;obtain ⟨q1, _⟩ := (ed (ni hok hi') (ag hi') h1).2.2.2.2.2 c f hf;have h6 := dH hI.closed _ _ _ q1 (fun o' ho' e he hb => hI.closed i' o' ho' hli e he hb);rw [hl] at h6; cases h6
 cases g with
 | skip =>
  refine wpOp_step ho (fun K hK => ?_);rw [if_neg (by rw [hwant false k3]; simp)];exact hK _ _ (hpure rfl w hZ)
 | eq v =>
  refine wpOp_step ho (fun K hK => ?_);rw [if_pos (hwant true k3)];exact hstep.2 rfl nofun o _ t vs a w K Q ho hp hCS hZ (fun w' hZ' => hK _ _ (hpure rfl w' hZ'))
 | fn c f =>
  refine wpOp_step ho (fun K hK => ?_);rw [if_pos (hwant true k3)];exact hstep.2 rfl nofun o _ t vs a w K Q ho hp hCS hZ (fun w' hZ' => hK _ _ (hpure rfl w' hZ'))
 | wr => exact hwrite rfl (hstep.1 rfl) k3
 | weq v => exact hwrite rfl (hstep.1 rfl) k3
def rW (vs : Nat → Value) : Nat → List Oper → List Cv → List (Nat × Value)
 | i, o :: os, g :: ps => match o.dst with
  | some d => (d, g.val vs i) :: rW vs (i + 1) os ps
  | none => rW vs (i + 1) os ps
 | _, _, _ => []
theorem rX (vs : Nat → Value) : ∀ (os : List Oper) (ps : List Cv) (i : Nat), os.length = ps.length → (rW vs i os ps).map (·.1) = fe os
 | [], [], _, _ => rfl
 | [], _ :: _, _, h => by simp at h
 | _ :: _, [], _, h => by simp at h
 | o :: os, p :: ps, i, h => by
  have ih := rX vs os ps (i + 1) (by simpa using h);unfold rW fe;cases hd : o.dst with
  | none => simp only [List.filterMap_cons, hd]; exact ih
  | some d => simp only [List.filterMap_cons, hd, List.map_cons]; rw [ih]; rfl
theorem ll (vs : Nat → Value) : ∀ (os : List Oper) (ps : List Cv) (i : Nat), os.length = ps.length → ∀ x ∈ rW vs i os ps, ∃ (j : Nat) (o : Oper) (p : Cv), os[j]? = some o ∧ ps[j]? = some p ∧ o.dst = some x.1 ∧ x.2 = p.val vs (i + j)
 | [], _, _, _, x, hx => by simp [rW] at hx
 | _ :: _, [], _, h, x, hx => by simp at h
 | o :: os, p :: ps, i, h, x, hx => by
  have ih := ll vs os ps (i + 1) (by simpa using h);have key : x ∈ rW vs (i + 1) os ps → ∃ (j : Nat) (o' : Oper) (p' : Cv), (o :: os)[j]? = some o' ∧ (p :: ps)[j]? = some p' ∧ o'.dst = some x.1 ∧ x.2 = p'.val vs (i + j) := fun hm => by
   obtain ⟨j, o', p', h1, h2, h3, h4⟩ := ih x hm;exact ⟨j + 1, o', p', by simpa using h1, by simpa using h2, h3, by rw [h4]; congr 1; omega⟩
  unfold rW at hx;cases hd : o.dst with
  | none => rw [hd] at hx; exact key hx
  | some d =>
   rw [hd] at hx;rcases List.mem_cons.1 hx with rfl | hm
   ·exact ⟨0, o, p, rfl, rfl, hd, rfl⟩
   ·exact key hm
theorem dC {id : Nat} {w0 : World} (hm : P.follows .mixedOrders = true) (G : List Cv) (Z : Nat → (Nat → Value) → World → Prop) (hok : (okC ops G (fe ops.toList) a0.tmps.size && decide (fe ops.toList).Nodup) = true) (h0 : ∃ vs, Z 0 vs w0.drew) (hsteps : eU P ops G (fe ops.toList) a0 Z 0 0 G)
  (L : (Nat → Value) → List (Nat × Value)) (hL : ∀ vs, rW vs 0 ops.toList G = L vs) (n : Nat) (hn : nW G ops.size = n) (hdone : ∀ (vs : Nat → Value) (w : World), Z n vs w → Q .normal (bS a0 (L vs)) w) : (Code.region id ops true).wp P Q a0 w0 := by
 simp only [aH, decide_eq_true_eq] at hok;obtain ⟨hok, hnd⟩ := hok;have hlen := wR hok;refine gY hm (fun l a w => Ct ops G (fe ops.toList) a0 Z l a w) (fun i o ho e he hb => ?_) ?_ (fun l a w i hI hi hl ha => DV rfl hok hsteps hI hi hl ha) (fun l a w hl hI => ?_)
 ·have hi := (ak ho).1
  exact (ed (ni hok hi) ho (af (by omega))).1 e he hb
 ·obtain ⟨vs, hZ⟩ := h0
  exact ⟨Fr.refl _ _, (fun i o _ h => by cases h), (fun i d _ _ => rfl), vs, 0, Nat.zero_le _, (fun c g _ _ => by simp), hZ, (fun i g d _ h => by cases h)⟩
 ·obtain ⟨vs, t, hle, hst, hZ, hvals⟩ := hI.st
  have ht : t = n := by
   have h1 : n ≤ t := by
    cases hm2 : n with
    | zero => omega
    | succ m =>
     obtain ⟨j, g', q1, q2, q3, q4⟩ := nY (hn.trans hm2);have h2 := hst j g' q2 q3;rw [hl j q1] at h2;have : nW G j < t := (by simpa using h2.symm);omega
   omega
  subst ht;have hfr : a = bS a0 (L vs) := by
   rw [← hL vs];have hfst := rX vs ops.toList G 0 (by simpa using hlen.symm);refine kV _ (by rw [hfst]; exact hI.fr) (by rw [hfst]; exact hnd) (fun x hx => ?_) (fun x hx => ?_)
   ·obtain ⟨j, o, p, h1, h2, h3, h4⟩ := ll vs ops.toList G 0 (by simpa using hlen.symm) x hx
    have h1' : ops[j]? = some o := (by simpa using h1);have hj : j < ops.size := (ak h1').1;exact ((ed (ni hok hj) h1' h2).2.2.2.2.1 x.1 h3).2
   ·obtain ⟨j, o, p, h1, h2, h3, h4⟩ := ll vs ops.toList G 0 (by simpa using hlen.symm) x hx
    have h1' : ops[j]? = some o := (by simpa using h1);have hd : aP ops j = some x.1 := (by unfold aP; rw [h1']; exact h3);have h5 := hvals j p x.1 h2 (hl j (fG hd)) hd;rw [Nat.zero_add] at h4;rw [h4];simp only [Act.eval, Array.getD_eq_getD_getElem?, h5]; rfl
  rw [hfr];exact hdone vs w hZ
theorem CS.eq {i t : Nat} {vs : Nat → Value} {a : Act} (h : CS ops G ws a0 i t vs a) (j : Nat) {v : Value} {d : Tmp} (h1 : bH ops i j = true) (h2 : G[j]? = some (.eq v)) (h3 : aP ops j = some d) : a.tmps[d]? = some v := h.dep j _ d h1 h2 h3
theorem CS.weq {i t : Nat} {vs : Nat → Value} {a : Act} (h : CS ops G ws a0 i t vs a) (j : Nat) {v : Value} {d : Tmp} (h1 : bH ops i j = true) (h2 : G[j]? = some (.weq v)) (h3 : aP ops j = some d) : a.tmps[d]? = some v := h.dep j _ d h1 h2 h3
theorem CS.wr {i t : Nat} {vs : Nat → Value} {a : Act} (h : CS ops G ws a0 i t vs a) (j : Nat) {d : Tmp} (h1 : bH ops i j = true) (h2 : G[j]? = some .wr) (h3 : aP ops j = some d) : a.tmps[d]? = some (vs j) := h.dep j _ d h1 h2 h3
theorem CS.fn {i t : Nat} {vs : Nat → Value} {a : Act} (h : CS ops G ws a0 i t vs a) (j : Nat) {c : Nat} {f : Value → Value} {d : Tmp} (h1 : bH ops i j = true) (h2 : G[j]? = some (.fn c f)) (h3 : aP ops j = some d) : a.tmps[d]? = some (f (vs c)) := h.dep j _ d h1 h2 h3
theorem CS.skip {i t : Nat} {vs : Nat → Value} {a : Act} (h : CS ops G ws a0 i t vs a) (j : Nat) {d : Tmp} (h1 : bH ops i j = true) (h2 : G[j]? = some .skip) (h3 : aP ops j = some d) : a.tmps[d]? = some undef := h.dep j _ d h1 h2 h3
theorem gz {v : Value} : ∀ v', Cv.weq v = .weq v' → v = v' := fun _ e => by injection e
theorem rV.mk {i : Nat} {o : Oper} {g : Cv} (ho : ops[i]? = some o) (hp : G[i]? = some g)
  (h : ∀ (t : Nat) (vs : Nat → Value) (a : Act) (w : World) (K : Act → World → Prop) (Q : Exit → Act → World → Prop), CS ops G ws a0 i t vs a → Z t vs w → (∀ w', Z t vs w' → K (a.put o.dst (g.val vs i)) w') → Oper.wp P o a w K Q) : rV P ops G ws a0 Z i := by
 intro o' g' t vs a w K Q ho' hp' hS hZ hK;rw [ho] at ho';rw [hp] at hp';cases ho'
 cases hp'
 exact h t vs a w K Q hS hZ hK
theorem lh.mk {m i : Nat} {o : Oper} {g : Cv} (ho : ops[i]? = some o) (hp : G[i]? = some g)
  (h : ∀ (vs : Nat → Value) (a : Act) (w : World) (K : Act → World → Prop) (Q : Exit → Act → World → Prop), CS ops G ws a0 i m vs a → Z m vs w → (∀ v w', (∀ v', g = .weq v' → v = v') → Z (m + 1) (upd vs i v) w' → K (a.put o.dst v) w') → Oper.wp P o a w K Q) : lh P ops G ws a0 Z m i := by
 intro o' g' vs a w K Q ho' hp' hS hZ hK;rw [ho] at ho';rw [hp] at hp';cases ho'
 cases hp'
 exact h vs a w K Q hS hZ hK
end
inductive Dv where
 | skip
 | eq (v : Value)
 | fn (c : Nat) (f : Value → Value)
 | wr
 | weq (v : Value)
 | al
def Dv.val (vs : Nat → Value) (i : Nat) : Dv → Value
 | .skip => undef
 | .eq v => v
 | .fn c f => f (vs c)
 | .wr => vs i
 | .weq v => v
 | .al => vs i
def Dv.isW : Dv → Bool
 | .wr | .weq _ => true
 | _ => false
def nX (G : List Dv) (i : Nat) : Nat := ((G.take i).filter Dv.isW).length
structure DW (ops : Array Oper) (G : List Dv) (ws : List Nat) (a0 : Act) (Z : Nat → (Nat → Value) → World → Prop) (l : Nat → Bool) (a : Act) (w : World) : Prop where
 fr : Fr ws a0 a
 closed : ∀ i o, ops[i]? = some o → l i = true → ∀ e ∈ o.after, Region.binds .any e = true → l e.on = true
 st : ∃ vs t, t ≤ nX G ops.size ∧ (∀ c g, G[c]? = some g → g.isW = true → l c = decide (nX G c < t)) ∧ Z t vs w ∧ (∀ i g d, G[i]? = some g → l i = true → aP ops i = some d → a.tmps[d]? = some (g.val vs i)) ∧ ∀ i, G[i]? = some .al → (l i = true ↔ vs i ≠ undef)
structure DS (ops : Array Oper) (G : List Dv) (ws : List Nat) (a0 : Act) (i t : Nat) (vs : Nat → Value) (a : Act) : Prop where
 old : ∀ s, ws.contains s = false → a.tmps[s]? = a0.tmps[s]?
 dep : ∀ j g d, bH ops i j = true → G[j]? = some g → aP ops j = some d → a.tmps[d]? = some (g.val vs j)
 lo : ∀ c g, G[c]? = some g → g.isW = true → dL ops ops.size i c = true → nX G c < t
 hi : ∀ c g, G[c]? = some g → g.isW = true → dL ops ops.size c i = true → t ≤ nX G c
 made : ∀ j, G[j]? = some .al → bH ops i j = true → vs j ≠ undef
def jH (P : Program) (ops : Array Oper) (G : List Dv) (ws : List Nat) (a0 : Act) (Z : Nat → (Nat → Value) → World → Prop) (i : Nat) : Prop :=
 ∀ (o : Oper) (g : Dv) (t : Nat) (vs : Nat → Value) (a : Act) (w : World) (K : Act → World → Prop) (Q : Exit → Act → World → Prop), ops[i]? = some o → G[i]? = some g → DS ops G ws a0 i t vs a → Z t vs w →
  (∀ w', Z t vs w' → K (a.put o.dst (g.val vs i)) w') → Oper.wp P o a w K Q
def lq (P : Program) (ops : Array Oper) (G : List Dv) (ws : List Nat) (a0 : Act) (Z : Nat → (Nat → Value) → World → Prop) (m i : Nat) : Prop :=
 ∀ (o : Oper) (g : Dv) (vs : Nat → Value) (a : Act) (w : World) (K : Act → World → Prop) (Q : Exit → Act → World → Prop), ops[i]? = some o → G[i]? = some g → DS ops G ws a0 i m vs a → Z m vs w →
  (∀ v w', (∀ v', g = .weq v' → v = v') → Z (m + 1) (upd vs i v) w' → K (a.put o.dst v) w') → Oper.wp P o a w K Q
def rY (P : Program) (ops : Array Oper) (G : List Dv) (ws : List Nat) (a0 : Act) (Z : Nat → (Nat → Value) → World → Prop) (i : Nat) : Prop :=
 ∀ (o : Oper) (t : Nat) (vs : Nat → Value) (a : Act) (w : World) (K : Act → World → Prop) (Q : Exit → Act → World → Prop), ops[i]? = some o → DS ops G ws a0 i t vs a → vs i = undef → Z t vs w →
  (∀ v w', v ≠ undef → Z t (upd vs i v) w' → K (a.put o.dst v) w') → Oper.wp P o a w K Q
def eX (P : Program) (ops : Array Oper) (G : List Dv) (ws : List Nat) (a0 : Act) (Z : Nat → (Nat → Value) → World → Prop) : Nat → Nat → List Dv → Prop
 | _, _, [] => True
 | i, m, .skip :: ps => eX P ops G ws a0 Z (i + 1) m ps
 | i, m, .eq _ :: ps => jH P ops G ws a0 Z i ∧ eX P ops G ws a0 Z (i + 1) m ps
 | i, m, .fn _ _ :: ps => jH P ops G ws a0 Z i ∧ eX P ops G ws a0 Z (i + 1) m ps
 | i, m, .wr :: ps => lq P ops G ws a0 Z m i ∧ eX P ops G ws a0 Z (i + 1) (m + 1) ps
 | i, m, .weq _ :: ps => lq P ops G ws a0 Z m i ∧ eX P ops G ws a0 Z (i + 1) (m + 1) ps
 | i, m, .al :: ps => rY P ops G ws a0 Z i ∧ eX P ops G ws a0 Z (i + 1) m ps
def mF (ops : Array Oper) (G : List Dv) (i : Nat) : Bool := match (ops[i]?).bind (·.guard) with
 | none => true
 | some (j, b) => match G[j]? with
  | some (.eq (.bool c)) => c == b
  | some (.weq (.bool c)) => c == b
  | _ => false
def BC (ops : Array Oper) (G : List Dv) (ws : List Nat) (n : Nat) (i : Nat) : Bool := match ops[i]?, G[i]? with
 | some o, some g =>
  (o.after.all fun e => !Region.binds .any e || decide (e.on < i)) &&
  (match o.guard with
   | none => true
   | some (j, _) => bH ops i j && (match G[j]? with | some (.eq (.bool _)) => true | some (.weq (.bool _)) => true | some .skip => true | _ => false)) &&
  (match g with
   | .skip => !mF ops G i && o.dst.isSome
   | .fn c _ => mF ops G i && o.dst.isSome && dL ops ops.size i c && (match G[c]? with | some g => g.isW | none => false)
   | .eq _ => mF ops G i && o.dst.isSome
   | .weq _ => mF ops G i && o.dst.isSome
   | .al => mF ops G i && o.dst.isSome
   | .wr => mF ops G i) &&
  (match o.dst with | some d => ws.contains d && decide (d < n) | none => true)
 | none, none => true
 | _, _ => false
def Hd (ops : Array Oper) (G : List Dv) : Bool := (List.range ops.size).all fun i => (List.range ops.size).all fun j =>
 !(match G[i]?, G[j]? with | some g, some g' => g.isW && g'.isW && nX G j == nX G i + 1 | _, _ => false) || dL ops ops.size j i
def okD (ops : Array Oper) (G : List Dv) (ws : List Nat) (n : Nat) : Bool := (G.length == ops.size) && ((List.range ops.size).all fun i => BC ops G ws n i) && DT ops && Hd ops G
section
variable {P : Program} {ops : Array Oper} {Q : Exit → Act → World → Prop} {G : List Dv} {ws : List Nat} {a0 : Act} {w0 : World} {Z : Nat → (Nat → Value) → World → Prop}
theorem pq {n : Nat} (h : okD ops G ws n = true) {i : Nat} (hi : i < ops.size) : BC ops G ws n i = true := by
 unfold okD at h;simp only [aH] at h;exact List.all_eq_true.1 h.1.1.2 i (by simpa using hi)
theorem BD {n : Nat} (h : okD ops G ws n = true) : G.length = ops.size := by
 unfold okD at h;simp only [aH] at h;simpa using h.1.1.1
theorem wT {n : Nat} (h : okD ops G ws n = true) {i j : Nat} {d : Tmp} (hne : i ≠ j) (h1 : aP ops i = some d) : aP ops j ≠ some d := by
 unfold okD at h;simp only [aH] at h;intro h2;have h3 := List.all_eq_true.1 (List.all_eq_true.1 h.1.2 i (by simpa using fG h1)) j (by simpa using fG h2);rw [h1, h2] at h3;simp at h3;exact hne h3
theorem Cw {n : Nat} (h : okD ops G ws n = true) {i j : Nat} {g g' : Dv} (hi : i < ops.size) (hj : j < ops.size) (h1 : G[i]? = some g) (h2 : G[j]? = some g') (w1 : g.isW = true) (w2 : g'.isW = true) (hn : nX G j = nX G i + 1) : dL ops ops.size j i = true := by
 unfold okD at h;simp only [aH] at h;have h3 := List.all_eq_true.1 (List.all_eq_true.1 h.2 i (by simpa using hi)) j (by simpa using hj);rw [h1, h2] at h3;simpa [w1, w2, hn] using h3
theorem He {G : List Dv} {i j : Nat} (h : i ≤ j) : nX G i ≤ nX G j := by
 unfold nX;obtain ⟨k, rfl⟩ := Nat.exists_eq_add_of_le h;rw [List.take_add, List.filter_append, aI]; omega
theorem BF {G : List Dv} {i : Nat} {g : Dv} (h : G[i]? = some g) : nX G (i + 1) = nX G i + if g.isW then 1 else 0 := by
 unfold nX;obtain ⟨hl, he⟩ := List.getElem?_eq_some_iff.1 h;rw [List.take_succ_eq_append_getElem hl, List.filter_append, aI, he];cases hw : g.isW <;> simp [List.filter_cons, hw]
theorem DX {G : List Dv} {i j : Nat} {g : Dv} (h : G[i]? = some g) (hw : g.isW = true) (hij : i < j) : nX G i < nX G j := by
 have h1 := BF h;rw [hw] at h1;have h2 := He (G := G) (show i + 1 ≤ j by omega);simp at h1; omega
theorem GD {G : List Dv} {i j : Nat} {g g' : Dv} (h : G[i]? = some g) (h' : G[j]? = some g') (hw : g.isW = true) (hw' : g'.isW = true) (hn : nX G i = nX G j) : i = j := by
 rcases Nat.lt_trichotomy i j with h1 | h1 | h1
 ·have := DX h hw h1; omega
 ·exact h1
 ·have := DX h' hw' h1; omega
theorem qN {G : List Dv} : ∀ {j m : Nat}, nX G j = m + 1 → ∃ i g, i < j ∧ G[i]? = some g ∧ g.isW = true ∧ nX G i = m
 | 0, m, h => by simp [nX] at h
 | j + 1, m, h => by
  cases hg : G[j]? with
  | none =>
   have hl : G.length ≤ j := List.getElem?_eq_none_iff.1 hg;have he : nX G (j + 1) = nX G j := (by unfold nX; rw [ah (by omega), ah hl]);rw [he] at h;obtain ⟨i, g, h1, h2⟩ := qN h;exact ⟨i, g, by omega, h2⟩
  | some g =>
   rw [BF hg] at h;cases hw : g.isW with
   | true => rw [hw] at h; exact ⟨j, g, by omega, hg, hw, by simpa using h⟩
   | false =>
    rw [hw] at h;obtain ⟨i, g', h1, h2⟩ := qN (by simpa using h);exact ⟨i, g', by omega, h2⟩
theorem eX.step : ∀ {ps : List Dv} {k m : Nat}, eX P ops G ws a0 Z k m ps → ∀ i g, ps[i]? = some g → (g.isW = true → lq P ops G ws a0 Z (m + nX ps i) (k + i)) ∧ (g.isW = false → g ≠ .skip → g ≠ .al → jH P ops G ws a0 Z (k + i)) ∧ (g = .al → rY P ops G ws a0 Z (k + i))
 | [], _, _, _, i, g, h => by simp at h
 | q :: ps, k, m, h, 0, g, hg => by
  simp only [List.getElem?_cons_zero, Option.some.injEq] at hg;subst hg;have h0 : nX (q :: ps) 0 = 0 := by simp [nX]
  rw [h0];cases q with
  | skip => exact ⟨fun e => by simp [Dv.isW] at e, fun _ e => absurd rfl e, nofun⟩
  | eq v => exact ⟨fun e => by simp [Dv.isW] at e, fun _ _ _ => h.1, nofun⟩
  | fn c f => exact ⟨fun e => by simp [Dv.isW] at e, fun _ _ _ => h.1, nofun⟩
  | wr => exact ⟨fun _ => h.1, (fun e => by simp [Dv.isW] at e), nofun⟩
  | weq v => exact ⟨fun _ => h.1, (fun e => by simp [Dv.isW] at e), nofun⟩
  | al => exact ⟨(fun e => by simp [Dv.isW] at e), (fun _ _ e => absurd rfl e), fun _ => h.1⟩
 | q :: ps, k, m, h, i + 1, g, hg => by
  simp only [List.getElem?_cons_succ] at hg;have hk : k + (i + 1) = k + 1 + i := by omega
  have hn : nX (q :: ps) (i + 1) = (if q.isW then 1 else 0) + nX ps i := by
   unfold nX;rw [List.take_succ_cons, List.filter_cons];cases q.isW <;> simp; omega
  rw [hk, hn];cases q with
  | skip => have := eX.step (k := k + 1) (m := m) h i g hg; simpa [Dv.isW] using this
  | eq v => have := eX.step (k := k + 1) (m := m) h.2 i g hg; simpa [Dv.isW] using this
  | fn c f => have := eX.step (k := k + 1) (m := m) h.2 i g hg; simpa [Dv.isW] using this
  | wr => have := eX.step (k := k + 1) (m := m + 1) h.2 i g hg; simpa [Dv.isW, Nat.add_assoc] using this
  | weq v => have := eX.step (k := k + 1) (m := m + 1) h.2 i g hg; simpa [Dv.isW, Nat.add_assoc] using this
  | al => have := eX.step (k := k + 1) (m := m) h.2 i g hg; simpa [Dv.isW] using this
theorem fM {n i : Nat} {o : Oper} {g : Dv} (h : BC ops G ws n i = true) (ho : ops[i]? = some o) (hp : G[i]? = some g) :
  (∀ e ∈ o.after, Region.binds .any e = true → e.on < i) ∧
  (∀ j b, o.guard = some (j, b) → bH ops i j = true ∧ ((∃ c, G[j]? = some (.eq (.bool c))) ∨ (∃ c, G[j]? = some (.weq (.bool c))) ∨ G[j]? = some .skip)) ∧
  (mF ops G i = (match g with | .skip => false | _ => true)) ∧ (g ≠ .wr → ∃ d, o.dst = some d) ∧ (∀ d, o.dst = some d → d ∈ ws ∧ d < n) ∧
  (∀ c f, g = .fn c f → dL ops ops.size i c = true ∧ ∃ g', G[c]? = some g' ∧ g'.isW = true) := by
 unfold BC at h;rw [ho, hp] at h;simp only [aH] at h;obtain ⟨⟨⟨h1, h2⟩, h3⟩, h4⟩ := h;refine ⟨fun e he hb => ?_, fun j b hg => ?_, ?_, ?_, fun d hd => ?_, ?_⟩
 ·simp only [Array.all_eq_true'] at h1
  have := h1 e he;rw [hb] at this;simpa using this
 ·rw [hg] at h2
  simp only [aH] at h2;refine ⟨h2.1, ?_⟩;have h5 := h2.2;split at h5
  ·rename_i c hc; exact .inl ⟨c, hc⟩
  ·rename_i c hc; exact .inr (.inl ⟨c, hc⟩)
  ·rename_i hc; exact .inr (.inr hc)
  ·cases h5
 ·cases g <;> simp only [aH, Bool.not_eq_true'] at h3
  ·exact h3.1
  ·exact h3.1
  ·exact h3.1.1.1
  ·exact h3
  ·exact h3.1
  ·exact h3.1
 ·cases g <;> simp only [aH, Bool.not_eq_true'] at h3 ⊢
  ·exact fun _ => Option.isSome_iff_exists.1 h3.2
  ·exact fun _ => Option.isSome_iff_exists.1 h3.2
  ·exact fun _ => Option.isSome_iff_exists.1 h3.1.1.2
  ·exact fun h => absurd rfl h
  ·exact fun _ => Option.isSome_iff_exists.1 h3.2
  ·exact fun _ => Option.isSome_iff_exists.1 h3.2
 ·rw [hd] at h4
  simp only [aH, decide_eq_true_eq] at h4;exact ⟨by simpa using h4.1, h4.2⟩
 ·intro c f hg
  subst hg;simp only [aH] at h3;refine ⟨h3.1.2, ?_⟩;have h5 := h3.2;split at h5
  ·rename_i g' hg'; exact ⟨g', hg', h5⟩
  ·cases h5
theorem yz {g : Dv} {vs : Nat → Value} {i j : Nat} {v : Value} (h1 : j ≠ i) (h2 : ∀ c f, g = .fn c f → c ≠ i) : g.val (upd vs i v) j = g.val vs j := by
 cases g with
 | skip => rfl
 | eq v => rfl
 | fn c f => simp only [Dv.val]; rw [upd_ne _ _ (h2 c f rfl)]
 | wr => simp only [Dv.val]; rw [upd_ne _ _ h1]
 | weq v => rfl
 | al => simp only [Dv.val]; rw [upd_ne _ _ h1]
theorem GG {n : Nat} (hn : n = a0.tmps.size) (hok : okD ops G ws n = true) (hsteps : eX P ops G ws a0 Z 0 0 G) {l : Nat → Bool} {a : Act} {w : World} {i : Nat} (hI : DW ops G ws a0 Z l a w) (hi : i < ops.size) (hl : l i = false)
  (ha : ∀ o, ops[i]? = some o → ∀ e ∈ o.after, Region.binds .any e = true → l e.on = true) : wpOp P ops Q i (fun a' w' => DW ops G ws a0 Z (fun j => j == i || l j) a' w') a w := by
 subst hn;have hlen := BD hok;have ho : ops[i]? = some ops[i] := ag hi;have hp : G[i]? = some G[i] := af (by omega);have hz : a.tmps.size = a0.tmps.size := hI.fr.size;generalize ops[i] = o at ho;generalize G[i] = g at hp;obtain ⟨k1, k2, k3, k4, k5, k6⟩ := fM (pq hok hi) ho hp;have hdo : ∀ d, o.dst = some d → aP ops i = some d := fun d hd => by unfold aP; rw [ho]; exact hd
 obtain ⟨vs, t, hle, hst, hZ, hvals, hmade⟩ := hI.st;have hclosed' : ∀ (i' : Nat) (o' : Oper), ops[i']? = some o' → (i' == i || l i') = true → ∀ e ∈ o'.after, Region.binds .any e = true → (e.on == i || l e.on) = true := fun i' o' h1 h2 e he hb => by
  by_cases hii : i' = i
  ·subst hii
   rw [ho] at h1; injection h1 with h1; subst h1
   simp [ha o ho e he hb]
  ·have h3 : l i' = true := dm h2 hii
   simp [hI.closed i' o' h1 h3 e he hb]
 have hlo : ∀ c g', G[c]? = some g' → g'.isW = true → dL ops ops.size i c = true → nX G c < t := fun c g' h1 h2 h3 => by
  have h4 := dH hI.closed _ _ _ h3 ha;rw [hst c g' h1 h2] at h4;simpa using h4
 have hhi : ∀ c g', G[c]? = some g' → g'.isW = true → dL ops ops.size c i = true → t ≤ nX G c := fun c g' h1 h2 h3 => by
  have h4 : l c = false := by
   cases h5 : l c with
   | false => rfl
   | true =>
    have h6 := dH hI.closed _ _ _ h3 (fun o' ho' e he hb => hI.closed c o' ho' h5 e he hb);rw [hl] at h6; cases h6
  rw [hst c g' h1 h2] at h4;simpa using h4
 have hDS : DS ops G ws a0 i t vs a := ⟨fun s hs => hI.fr.rest s (by simpa using hs), fun j g' d h1 h2 h3 => by
  obtain ⟨o', e, q1, q2, q3, q4⟩ := iP h1;rw [ho] at q1; injection q1 with q1; subst q1
  have h4 := ha o ho e q2 q4;rw [q3] at h4;exact hvals j g' d h2 h4 h3, hlo, hhi, fun j hj hd => by
  obtain ⟨o', e, q1, q2, q3, q4⟩ := iP hd;rw [ho] at q1; injection q1 with q1; subst q1
  have h4 := ha o ho e q2 q4;rw [q3] at h4;exact (hmade j hj).1 h4⟩
 have hyield : ∀ j b, o.guard = some (j, b) → Region.wanted o (yielded ops a.tmps) = (match G[j]? with | some (.eq (.bool c)) => c == b | some (.weq (.bool c)) => c == b | _ => false) := fun j b hg => by
  obtain ⟨hdep, hc⟩ := k2 j b hg;obtain ⟨o', e, q1, q2, q3, q4⟩ := iP hdep;rw [ho] at q1; injection q1 with q1; subst q1
  have hlj := ha o ho e q2 q4;rw [q3] at hlj;have hjv : ∀ q, G[j]? = some q → (∀ v, q.val vs j = v → (v = undef ∨ ∃ c, v = .bool c) → yielded ops a.tmps j = yv v ∨ aP ops j = none) := fun q hq v hv hvv => by
   cases hd : aP ops j with
   | none => exact .inr rfl
   | some dj =>
    left
    have h4 := hvals j q dj hq hlj hd;unfold yielded;have h5 : (ops[j]?).bind (·.dst) = some dj := hd;rw [h5];simp only [ai, h4, hv];rcases hvv with rfl | ⟨c, rfl⟩ <;> rfl
  have hnone : aP ops j = none → yielded ops a.tmps j = none := fun h => by
   unfold yielded;have h5 : (ops[j]?).bind (·.dst) = none := h;rw [h5]; rfl
  have hjlt : j < ops.size := by have := k1 e q2 q4; omega
  have hsome : ∀ q, G[j]? = some q → q ≠ .wr → aP ops j ≠ none := fun q hq hw hd => by
   obtain ⟨d, h5⟩ := (fM (pq hok hjlt) (ag hjlt) hq).2.2.2.1 hw;unfold aP at hd;rw [ag hjlt] at hd;simp only [ai, h5] at hd;cases hd
  rcases hc with ⟨c, hc⟩ | ⟨c, hc⟩ | hc
  ·rcases hjv _ hc _ rfl (.inr ⟨c, rfl⟩) with hy | hd
   ·simp only [Region.wanted, hg, hy, hc]
    cases c <;> cases b <;> rfl
   ·exact absurd hd (hsome _ hc nofun)
  ·rcases hjv _ hc _ rfl (.inr ⟨c, rfl⟩) with hy | hd
   ·simp only [Region.wanted, hg, hy, hc]
    cases c <;> cases b <;> rfl
   ·exact absurd hd (hsome _ hc nofun)
  ·rcases hjv _ hc _ rfl (.inl rfl) with hy | hd
   ·simp only [Region.wanted, hg, hy, hc]
    cases b <;> rfl
   ·exact absurd hd (hsome _ hc nofun)
 have hwant : ∀ b, mF ops G i = b → Region.wanted o (yielded ops a.tmps) = b := fun b hb => by
  unfold mF at hb;rw [ho] at hb;simp only [ai] at hb;cases hg : o.guard with
  | none =>
   rw [hg] at hb;simp only [Region.wanted, hg];exact hb
  | some jb =>
   obtain ⟨j, b'⟩ := jb;rw [hg] at hb;rw [hyield j b' hg]; exact hb
 have hstep := hsteps.step i g hp;simp only [Nat.zero_add] at hstep;have hpure : g.isW = false → g ≠ .al → ∀ w', Z t vs w' → DW ops G ws a0 Z (fun j => j == i || l j) (a.put o.dst (g.val vs i)) w' := fun hw hna w' hZ' => by
  obtain ⟨d, hd⟩ := k4 (fun e => by subst e; cases hw);obtain ⟨hws, hdn⟩ := k5 d hd;refine ⟨by rw [hd]; exact hI.fr.put d hws _, hclosed', vs, t, hle, fun c g' h1 h2 => ?_, hZ', fun i' g' d' h1 h2 h3 => ?_, fun j hj => ?_⟩
  ·have hci : c ≠ i := fun e => by subst e; rw [hp] at h1; injection h1 with h1; subst h1; rw [hw] at h2; cases h2
   have : (c == i) = false := (by simpa using hci);show (c == i || l c) = _;rw [this, Bool.false_or]; exact hst c g' h1 h2
  ·rw [hd]
   by_cases hii : i' = i
   ·subst hii
    rw [hp] at h1; injection h1 with h1; subst h1
    rw [hdo d hd] at h3; injection h3 with h3; subst h3
    exact bU (by rw [hz]; exact hdn)
   ·rw [cu (by intro e; subst e; exact wT hok (fun e => hii e.symm) (hdo _ hd) h3)]
    exact hvals i' g' d' h1 (dm h2 hii) h3
  ·have hji : (j == i) = false := by
    have : j ≠ i := fun e => by subst e; rw [hp] at hj; injection hj with hj; exact hna hj
    simpa using this
   show (j == i || l j) = true ↔ _;rw [hji, Bool.false_or]; exact hmade j hj
 have hwrite : g.isW = true → lq P ops G ws a0 Z (nX G i) i → mF ops G i = true → wpOp P ops Q i (fun a' w' => DW ops G ws a0 Z (fun j => j == i || l j) a' w') a w := fun hw hW hr => by
  have ht : t = nX G i := by
   have h1 : t ≤ nX G i := by
    have := hst i g hp hw;rw [hl] at this;simpa using this.symm
   have h2 : nX G i ≤ t := by
    cases hm : nX G i with
    | zero => omega
    | succ m =>
     obtain ⟨j, g', q1, q2, q3, q4⟩ := qN hm;have := hlo j g' q2 q3 (Cw hok (by omega) hi q2 hp q3 hw (by omega));omega
   omega
  subst ht;refine wpOp_step ho (fun K hK => ?_);rw [if_pos (hwant true hr)];refine hW o g vs a w K Q ho hp hDS hZ (fun v w' hv hZ' => hK _ _ ?_);refine ⟨?_, hclosed', upd vs i v, nX G i + 1, DX hp hw hi, fun c g' h1 h2 => ?_, hZ', fun i' g' d' h1 h2 h3 => ?_, fun j hj => ?_⟩
  ·cases hd : o.dst with
   | none => exact hI.fr
   | some d => exact hI.fr.put d (k5 d hd).1 _
  ·show (c == i || l c) = _
   by_cases hci : c = i
   ·subst hci
    rw [show (c == c) = true from by simp, Bool.true_or];simp
   ·have : (c == i) = false := by simpa using hci
    rw [this, Bool.false_or, hst c g' h1 h2];have hne : nX G c ≠ nX G i := fun e => hci (GD h1 hp h2 hw e)
    by_cases hlt : nX G c < nX G i
    ·rw [decide_eq_true hlt, decide_eq_true (by omega)]
    ·rw [decide_eq_false hlt, decide_eq_false (by omega)]
  ·by_cases hii : i' = i
   ·subst hii
    rw [hp] at h1; injection h1 with h1; subst h1
    have hd : o.dst = some d' := (by unfold aP at h3; rw [ho] at h3; exact h3);rw [hd, bU (by rw [hz]; exact (k5 d' hd).2)];cases g with
    | wr => simp [Dv.val]
    | weq v' => rw [hv v' rfl]; rfl
    | skip => cases hw
    | eq v => cases hw
    | fn c f => cases hw
    | al => cases hw
   ·have hli : l i' = true := dm h2 hii
    have h4 := hvals i' g' d' h1 hli h3;rw [yz hii (fun c f hf => ?_)]
    ·cases hd : o.dst with
     | none => exact h4
     | some d => rw [cu (by intro e; subst e; exact wT hok (fun e => hii e.symm) (hdo _ hd) h3)]; exact h4
    ·intro hci
     subst hci;have hi' := fG h3;obtain ⟨q1, _⟩ := (fM (pq hok hi') (ag hi') h1).2.2.2.2.2 c f hf;have h6 := dH hI.closed _ _ _ q1 (fun o' ho' e he hb => hI.closed i' o' ho' hli e he hb);rw [hl] at h6; cases h6
  ·have hne : j ≠ i := fun e => by subst e; rw [hp] at hj; injection hj with hj; subst hj; cases hw
   have hji : (j == i) = false := (by simpa using hne);show (j == i || l j) = true ↔ _;rw [hji, Bool.false_or, upd_ne _ _ hne]; exact hmade j hj
 cases g with
 | al =>
  refine wpOp_step ho (fun K hK => ?_);rw [if_pos (hwant true k3)];obtain ⟨d, hd⟩ := k4 nofun;obtain ⟨hws, hdn⟩ := k5 d hd;have hvi : vs i = undef := Classical.byContradiction fun h => by
   have := (hmade i hp).2 h;rw [hl] at this; cases this
  refine hstep.2.2 rfl o t vs a w K Q ho hDS hvi hZ (fun v w' hv hZ' => hK _ _ ?_);refine ⟨by rw [hd]; exact hI.fr.put d hws _, hclosed', upd vs i v, t, hle, fun c g' h1 h2 => ?_, hZ', fun i' g' d' h1 h2 h3 => ?_, fun j hj => ?_⟩
  ·have hci : c ≠ i := fun e => by subst e; rw [hp] at h1; injection h1 with h1; subst h1; cases h2
   have : (c == i) = false := (by simpa using hci);show (c == i || l c) = _;rw [this, Bool.false_or]; exact hst c g' h1 h2
  ·rw [hd]
   by_cases hii : i' = i
   ·subst hii
    rw [hp] at h1; injection h1 with h1; subst h1
    rw [hdo d hd] at h3; injection h3 with h3; subst h3
    rw [bU (by rw [hz]; exact hdn)];simp [Dv.val]
   ·rw [cu (by intro e; subst e; exact wT hok (fun e => hii e.symm) (hdo _ hd) h3), yz hii (fun c f hf => ?_)]
    ·exact hvals i' g' d' h1 (dm h2 hii) h3
    ·intro hci
     subst hci;have hi' := fG h3;obtain ⟨q1, q2, q3, q4⟩ := (fM (pq hok hi') (ag hi') h1).2.2.2.2.2 c f hf;rw [hp] at q3; injection q3 with q3; subst q3; cases q4
  ·show (j == i || l j) = true ↔ _
   by_cases hji : j = i
   ·subst hji; simp [hv]
   ·have : (j == i) = false := by simpa using hji
    rw [this, Bool.false_or, upd_ne _ _ hji]; exact hmade j hj
 | skip =>
  refine wpOp_step ho (fun K hK => ?_);rw [if_neg (by rw [hwant false k3]; simp)];exact hK _ _ (hpure rfl nofun w hZ)
 | eq v =>
  refine wpOp_step ho (fun K hK => ?_);rw [if_pos (hwant true k3)];exact hstep.2.1 rfl nofun nofun o _ t vs a w K Q ho hp hDS hZ (fun w' hZ' => hK _ _ (hpure rfl nofun w' hZ'))
 | fn c f =>
  refine wpOp_step ho (fun K hK => ?_);rw [if_pos (hwant true k3)];exact hstep.2.1 rfl nofun nofun o _ t vs a w K Q ho hp hDS hZ (fun w' hZ' => hK _ _ (hpure rfl nofun w' hZ'))
 | wr => exact hwrite rfl (hstep.1 rfl) k3
 | weq v => exact hwrite rfl (hstep.1 rfl) k3
def wU (vs : Nat → Value) : Nat → List Oper → List Dv → List (Nat × Value)
 | i, o :: os, g :: ps => match o.dst with
  | some d => (d, g.val vs i) :: wU vs (i + 1) os ps
  | none => wU vs (i + 1) os ps
 | _, _, _ => []
theorem yA (vs : Nat → Value) : ∀ (os : List Oper) (ps : List Dv) (i : Nat), os.length = ps.length → (wU vs i os ps).map (·.1) = fe os
 | [], [], _, _ => rfl
 | [], _ :: _, _, h => by simp at h
 | _ :: _, [], _, h => by simp at h
 | o :: os, p :: ps, i, h => by
  have ih := yA vs os ps (i + 1) (by simpa using h);unfold wU fe;cases hd : o.dst with
  | none => simp only [List.filterMap_cons, hd]; exact ih
  | some d => simp only [List.filterMap_cons, hd, List.map_cons]; rw [ih]; rfl
theorem si (vs : Nat → Value) : ∀ (os : List Oper) (ps : List Dv) (i : Nat), os.length = ps.length → ∀ x ∈ wU vs i os ps, ∃ (j : Nat) (o : Oper) (p : Dv), os[j]? = some o ∧ ps[j]? = some p ∧ o.dst = some x.1 ∧ x.2 = p.val vs (i + j)
 | [], _, _, _, x, hx => by simp [wU] at hx
 | _ :: _, [], _, h, x, hx => by simp at h
 | o :: os, p :: ps, i, h, x, hx => by
  have ih := si vs os ps (i + 1) (by simpa using h);have key : x ∈ wU vs (i + 1) os ps → ∃ (j : Nat) (o' : Oper) (p' : Dv), (o :: os)[j]? = some o' ∧ (p :: ps)[j]? = some p' ∧ o'.dst = some x.1 ∧ x.2 = p'.val vs (i + j) := fun hm => by
   obtain ⟨j, o', p', h1, h2, h3, h4⟩ := ih x hm;exact ⟨j + 1, o', p', by simpa using h1, by simpa using h2, h3, by rw [h4]; congr 1; omega⟩
  unfold wU at hx;cases hd : o.dst with
  | none => rw [hd] at hx; exact key hx
  | some d =>
   rw [hd] at hx;rcases List.mem_cons.1 hx with rfl | hm
   ·exact ⟨0, o, p, rfl, rfl, hd, rfl⟩
   ·exact key hm
theorem wV {id : Nat} {w0 : World} (hm : P.follows .mixedOrders = true) (G : List Dv) (Z : Nat → (Nat → Value) → World → Prop) (hok : (okD ops G (fe ops.toList) a0.tmps.size && decide (fe ops.toList).Nodup) = true) (h0 : ∃ vs, Z 0 vs w0.drew ∧ ∀ i, G[i]? = some .al → vs i = undef) (hsteps : eX P ops G (fe ops.toList) a0 Z 0 0 G)
  (L : (Nat → Value) → List (Nat × Value)) (hL : ∀ vs, wU vs 0 ops.toList G = L vs) (n : Nat) (hn : nX G ops.size = n) (hdone : ∀ (vs : Nat → Value) (w : World), Z n vs w → (∀ i, G[i]? = some .al → vs i ≠ undef) → Q .normal (bS a0 (L vs)) w) : (Code.region id ops true).wp P Q a0 w0 := by
 simp only [aH, decide_eq_true_eq] at hok;obtain ⟨hok, hnd⟩ := hok;have hlen := BD hok;refine gY hm (fun l a w => DW ops G (fe ops.toList) a0 Z l a w) (fun i o ho e he hb => ?_) ?_ (fun l a w i hI hi hl ha => GG rfl hok hsteps hI hi hl ha) (fun l a w hl hI => ?_)
 ·have hi := (ak ho).1
  exact (fM (pq hok hi) ho (af (by omega))).1 e he hb
 ·obtain ⟨vs, hZ, hal⟩ := h0
  exact ⟨Fr.refl _ _, (fun i o _ h => by cases h), vs, 0, Nat.zero_le _, (fun c g _ _ => by simp), hZ, (fun i g d _ h => by cases h), (fun i hi => by simp [hal i hi])⟩
 ·obtain ⟨vs, t, hle, hst, hZ, hvals, hmade⟩ := hI.st
  have ht : t = n := by
   have h1 : n ≤ t := by
    cases hm2 : n with
    | zero => omega
    | succ m =>
     obtain ⟨j, g', q1, q2, q3, q4⟩ := qN (hn.trans hm2);have h2 := hst j g' q2 q3;rw [hl j q1] at h2;have : nX G j < t := (by simpa using h2.symm);omega
   omega
  subst ht;have hfr : a = bS a0 (L vs) := by
   rw [← hL vs];have hfst := yA vs ops.toList G 0 (by simpa using hlen.symm);refine kV _ (by rw [hfst]; exact hI.fr) (by rw [hfst]; exact hnd) (fun x hx => ?_) (fun x hx => ?_)
   ·obtain ⟨j, o, p, h1, h2, h3, h4⟩ := si vs ops.toList G 0 (by simpa using hlen.symm) x hx
    have h1' : ops[j]? = some o := (by simpa using h1);have hj : j < ops.size := (ak h1').1;exact ((fM (pq hok hj) h1' h2).2.2.2.2.1 x.1 h3).2
   ·obtain ⟨j, o, p, h1, h2, h3, h4⟩ := si vs ops.toList G 0 (by simpa using hlen.symm) x hx
    have h1' : ops[j]? = some o := (by simpa using h1);have hd : aP ops j = some x.1 := (by unfold aP; rw [h1']; exact h3);have h5 := hvals j p x.1 h2 (hl j (fG hd)) hd;rw [Nat.zero_add] at h4;rw [h4];simp only [Act.eval, Array.getD_eq_getD_getElem?, h5]; rfl
  rw [hfr];exact hdone vs w hZ (fun i hi => (hmade i hi).1 (hl i (by have := (List.getElem?_eq_some_iff.1 hi).1; omega)))
theorem DS.eq {i t : Nat} {vs : Nat → Value} {a : Act} (h : DS ops G ws a0 i t vs a) (j : Nat) {v : Value} {d : Tmp} (h1 : bH ops i j = true) (h2 : G[j]? = some (.eq v)) (h3 : aP ops j = some d) : a.tmps[d]? = some v := h.dep j _ d h1 h2 h3
theorem DS.weq {i t : Nat} {vs : Nat → Value} {a : Act} (h : DS ops G ws a0 i t vs a) (j : Nat) {v : Value} {d : Tmp} (h1 : bH ops i j = true) (h2 : G[j]? = some (.weq v)) (h3 : aP ops j = some d) : a.tmps[d]? = some v := h.dep j _ d h1 h2 h3
theorem DY {v : Value} : ∀ v', Dv.weq v = .weq v' → v = v' := fun _ e => by injection e
theorem jH.mk {i : Nat} {o : Oper} {g : Dv} (ho : ops[i]? = some o) (hp : G[i]? = some g)
  (h : ∀ (t : Nat) (vs : Nat → Value) (a : Act) (w : World) (K : Act → World → Prop) (Q : Exit → Act → World → Prop), DS ops G ws a0 i t vs a → Z t vs w → (∀ w', Z t vs w' → K (a.put o.dst (g.val vs i)) w') → Oper.wp P o a w K Q) : jH P ops G ws a0 Z i := by
 intro o' g' t vs a w K Q ho' hp' hS hZ hK;rw [ho] at ho';rw [hp] at hp';cases ho'
 cases hp'
 exact h t vs a w K Q hS hZ hK
theorem lq.mk {m i : Nat} {o : Oper} {g : Dv} (ho : ops[i]? = some o) (hp : G[i]? = some g)
  (h : ∀ (vs : Nat → Value) (a : Act) (w : World) (K : Act → World → Prop) (Q : Exit → Act → World → Prop), DS ops G ws a0 i m vs a → Z m vs w → (∀ v w', (∀ v', g = .weq v' → v = v') → Z (m + 1) (upd vs i v) w' → K (a.put o.dst v) w') → Oper.wp P o a w K Q) : lq P ops G ws a0 Z m i := by
 intro o' g' vs a w K Q ho' hp' hS hZ hK;rw [ho] at ho';rw [hp] at hp';cases ho'
 cases hp'
 exact h vs a w K Q hS hZ hK
theorem DS.al {i t : Nat} {vs : Nat → Value} {a : Act} (h : DS ops G ws a0 i t vs a) (j : Nat) {d : Tmp} (h1 : bH ops i j = true) (h2 : G[j]? = some .al) (h3 : aP ops j = some d) : a.tmps[d]? = some (vs j) := h.dep j _ d h1 h2 h3
theorem rY.mk {i : Nat} {o : Oper} (ho : ops[i]? = some o)
  (h : ∀ (t : Nat) (vs : Nat → Value) (a : Act) (w : World) (K : Act → World → Prop) (Q : Exit → Act → World → Prop), DS ops G ws a0 i t vs a → vs i = undef → Z t vs w → (∀ v w', v ≠ undef → Z t (upd vs i v) w' → K (a.put o.dst v) w') → Oper.wp P o a w K Q) : rY P ops G ws a0 Z i := by
 intro o' t vs a w K Q ho' hS hv hZ hK;rw [ho] at ho';cases ho'
 exact h t vs a w K Q hS hv hZ hK
end
theorem RS.q {ops : Array Oper} {G : List Pr} {ws : List Nat} {a0 : Act} {w0 : World} {i : Nat} {S : Nat → Prop} {a : Act} {w : World} (h : RS ops G ws a0 w0 i S a w) (j : Nat) {v : Value} {d : Tmp} (h1 : bH ops i j = true := by kernel_rfl) (h2 : G[j]? = some (.eq v) := by rfl) (h3 : aP ops j = some d := by rfl) : a.tmps[d]? = some v := h.eq j h1 h2 h3
theorem RS.f {ops : Array Oper} {G : List Pr} {ws : List Nat} {a0 : Act} {w0 : World} {i : Nat} {S : Nat → Prop} {a : Act} {w : World} (h : RS ops G ws a0 w0 i S a w) (j : Nat) {p : (Nat → Prop) → Value → World → Prop} {d : Tmp} (h1 : bH ops i j = true := by kernel_rfl) (h2 : G[j]? = some (.of p) := by rfl) (h3 : aP ops j = some d := by rfl) : ∃ v, a.tmps[d]? = some v ∧ p S v w := h.of j h1 h2 h3
theorem RS.o {ops : Array Oper} {G : List Pr} {ws : List Nat} {a0 : Act} {w0 : World} {i : Nat} {S : Nat → Prop} {a : Act} {w : World} (h : RS ops G ws a0 w0 i S a w) (j : Nat) {v : Value} (h1 : ws.contains j = false := by kernel_rfl) (h2 : a0.tmps[j]? = some v := by kernel_rfl) : a.tmps[j]? = some v := (h.old j h1).trans h2
theorem RT.o {ops : Array Oper} {G : List Pr} {ws : List Nat} {a0 : Act} {i : Nat} {vs : Nat → Value} {a : Act} (h : RT ops G ws a0 i vs a) (j : Nat) {v : Value} (h1 : ws.contains j = false := by kernel_rfl) (h2 : a0.tmps[j]? = some v := by kernel_rfl) : a.tmps[j]? = some v := (h.old j h1).trans h2
theorem RT.d {ops : Array Oper} {G : List Pr} {ws : List Nat} {a0 : Act} {i : Nat} {vs : Nat → Value} {a : Act} (h : RT ops G ws a0 i vs a) (j d : Nat) (h1 : bH ops i j = true := by kernel_rfl) (h2 : aP ops j = some d := by rfl) : a.tmps[d]? = some (vs j) := h.dep j d h1 h2
theorem RP.o {ops : Array Oper} {G : List Pr} {ws : List Nat} {a0 : Act} {i : Nat} {a : Act} (h : RP ops G ws a0 i a) (j : Nat) {v : Value} (h1 : ws.contains j = false := by kernel_rfl) (h2 : a0.tmps[j]? = some v := by kernel_rfl) : a.tmps[j]? = some v := (h.old j h1).trans h2
theorem rZ {P : Program} {ops : Array Oper} {G : List Pr} {ws : List Nat} {a0 : Act} {w0 : World} {i : Nat} {o : Oper} {p : Pr}
 (h : ∀ (S : Nat → Prop) (a : Act) (w : World) (K : Act → World → Prop) (Q : Exit → Act → World → Prop), RS ops G ws a0 w0 i S a w → (∀ v w', Below w.heap.size w w' → p.holds S w' v → K (a.put o.dst v) w') → Oper.wp P o a w K Q) (ho : ops[i]? = some o := by rfl) (hp : G[i]? = some p := by rfl) : mE P ops G ws a0 w0 i := mE.mk ho hp h
theorem tZ {P : Program} {ops : Array Oper} {G : List Pr} {ws : List Nat} {a0 : Act} {Z Z' : (Nat → Value) → World → Prop} {t : Nat} {o : Oper}
 (h : ∀ (vs : Nat → Value) (a : Act) (w : World) (K : Act → World → Prop) (Q : Exit → Act → World → Prop), RT ops G ws a0 t vs a → Z vs w → (∀ v w', Z' (upd vs t v) w' → K (a.put o.dst v) w') → Oper.wp P o a w K Q) (ho : ops[t]? = some o := by rfl) : yu P ops G ws a0 Z Z' t := yu.mk ho h
theorem CS.q {ops : Array Oper} {G : List Cv} {ws : List Nat} {a0 : Act} {i t : Nat} {vs : Nat → Value} {a : Act} (h : CS ops G ws a0 i t vs a) (j : Nat) {v : Value} {d : Tmp} (h1 : bH ops i j = true := by kernel_rfl) (h2 : G[j]? = some (.eq v) := by rfl) (h3 : aP ops j = some d := by rfl) : a.tmps[d]? = some v := h.dep j _ d h1 h2 h3
theorem CS.w {ops : Array Oper} {G : List Cv} {ws : List Nat} {a0 : Act} {i t : Nat} {vs : Nat → Value} {a : Act} (h : CS ops G ws a0 i t vs a) (j : Nat) {d : Tmp} (h1 : bH ops i j = true := by kernel_rfl) (h2 : G[j]? = some .wr := by rfl) (h3 : aP ops j = some d := by rfl) : a.tmps[d]? = some (vs j) := h.dep j _ d h1 h2 h3
theorem CS.o {ops : Array Oper} {G : List Cv} {ws : List Nat} {a0 : Act} {i t : Nat} {vs : Nat → Value} {a : Act} (h : CS ops G ws a0 i t vs a) (j : Nat) {v : Value} (h1 : ws.contains j = false := by kernel_rfl) (h2 : a0.tmps[j]? = some v := by kernel_rfl) : a.tmps[j]? = some v := (h.old j h1).trans h2
theorem pZ {P : Program} {ops : Array Oper} {G : List Cv} {ws : List Nat} {a0 : Act} {Z : Nat → (Nat → Value) → World → Prop} {i : Nat} {o : Oper} {g : Cv}
 (h : ∀ (t : Nat) (vs : Nat → Value) (a : Act) (w : World) (K : Act → World → Prop) (Q : Exit → Act → World → Prop), CS ops G ws a0 i t vs a → Z t vs w → (∀ w', Z t vs w' → K (a.put o.dst (g.val vs i)) w') → Oper.wp P o a w K Q) (ho : ops[i]? = some o := by rfl) (hp : G[i]? = some g := by rfl) : rV P ops G ws a0 Z i := rV.mk ho hp h
theorem wZ {P : Program} {ops : Array Oper} {G : List Cv} {ws : List Nat} {a0 : Act} {Z : Nat → (Nat → Value) → World → Prop} {m i : Nat} {o : Oper} {g : Cv}
 (h : ∀ (vs : Nat → Value) (a : Act) (w : World) (K : Act → World → Prop) (Q : Exit → Act → World → Prop), CS ops G ws a0 i m vs a → Z m vs w → (∀ v w', (∀ v', g = .weq v' → v = v') → Z (m + 1) (upd vs i v) w' → K (a.put o.dst v) w') → Oper.wp P o a w K Q) (ho : ops[i]? = some o := by rfl) (hp : G[i]? = some g := by rfl) : lh P ops G ws a0 Z m i := lh.mk ho hp h
theorem DS.q {ops : Array Oper} {G : List Dv} {ws : List Nat} {a0 : Act} {i t : Nat} {vs : Nat → Value} {a : Act} (h : DS ops G ws a0 i t vs a) (j : Nat) {v : Value} {d : Tmp} (h1 : bH ops i j = true := by kernel_rfl) (h2 : G[j]? = some (.eq v) := by rfl) (h3 : aP ops j = some d := by rfl) : a.tmps[d]? = some v := h.dep j _ d h1 h2 h3
theorem DS.w {ops : Array Oper} {G : List Dv} {ws : List Nat} {a0 : Act} {i t : Nat} {vs : Nat → Value} {a : Act} (h : DS ops G ws a0 i t vs a) (j : Nat) {d : Tmp} (h1 : bH ops i j = true := by kernel_rfl) (h2 : G[j]? = some .wr := by rfl) (h3 : aP ops j = some d := by rfl) : a.tmps[d]? = some (vs j) := h.dep j _ d h1 h2 h3
theorem DS.o {ops : Array Oper} {G : List Dv} {ws : List Nat} {a0 : Act} {i t : Nat} {vs : Nat → Value} {a : Act} (h : DS ops G ws a0 i t vs a) (j : Nat) {v : Value} (h1 : ws.contains j = false := by kernel_rfl) (h2 : a0.tmps[j]? = some v := by kernel_rfl) : a.tmps[j]? = some v := (h.old j h1).trans h2
end Go.Proofs.YtlpgokcapdjgjaaGreatDoor
