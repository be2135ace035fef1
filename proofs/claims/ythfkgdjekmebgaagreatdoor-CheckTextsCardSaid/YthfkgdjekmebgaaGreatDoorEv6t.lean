/- The evaluator's operations are the model's: calls; all of them. Plain lemmas. -/
import Derived.Test.YthfkgdjekmebgaaGreatDoorEv6s
import Derived.Test.YthfkgdjekmebgaaGreatDoorEv8e
namespace Go.Ev
open Go
set_option linter.unusedVariables false
set_option linter.unusedSimpArgs false
set_option linter.unusedSectionVars false
variable [Env]
section
variable {P : Program}
theorem method_ok {t : TypeId} {name : String} {f : FuncId} (h : evMethod P t name = some f) (V : Value) (w : World) : (method (P.types.size + Made.depth) t V name).run P w = .ok (f, V) w := by
  unfold evMethod at h
  split at h
  · rename_i inf hi
    split at h
    · rename_i mt hm
      have hfu : P.types.size + Made.depth = (P.types.size + 99) + 1 := rfl
      rw [hfu]
      generalize P.types.size + 99 = fuel
      split at h
      · rename_i f' d hp hf hu
        cases h
        simp only [method, Sem.run_bind, run_info hi, Result.andThen_ok, hm, hp, follow, Sem.run_pure, hf, receiverAt, run_und hu, Place.get]
      · cases h
      · rename_i f' d hn hp hf hu
        cases h
        simp only [method, Sem.run_bind, run_info hi, Result.andThen_ok, hm, hp, follow, Sem.run_pure, hf, receiverAt, run_und hu]
        cases d <;> first | rfl | exact (hn _ rfl).elim
      · cases h
    · cases h
  · cases h
theorem ext1 {G : Array Value} {v : Value} {A : List Value} (h : G.toList = v :: A) : (G.extract 1 G.size).toList = A := by
  have hs : G.size = A.length + 1 := by rw [← Array.length_toList, h]; simp
  rw [hs, Nat.add_comm, ext_list, h]
  simp
theorem callMethod_run {t : TypeId} {name : String} {f : FuncId} (h : evMethod P t name = some f) (V : Value) (A : Array Value) (w : World) : (callMethod (.iface t V) name A).run P w = (callFunc f (#[V] ++ A)).run P w := by
  simp only [callMethod, Sem.run_bind, run_program, Result.andThen_ok, method_ok h]
theorem via_ok {t : TypeId} {path : Array FieldStep} {ptr : Bool} {V : Value} (hp : path.toList = []) (h : (∃ e, P.underlying t = some (.pointer e) ∧ ptr = true) ∨ (∃ d, P.underlying t = some d ∧ (∀ e, d ≠ .pointer e) ∧ ptr = false)) (w : World) : (receiverVia t V path ptr).run P w = .ok V w := by
  rcases h with ⟨e, hu, rfl⟩ | ⟨d, hu, hn, rfl⟩
  · simp [receiverVia, hp, follow, receiverAt, run_und hu, Place.get]
  · simp only [receiverVia, Sem.run_bind, hp, follow, Sem.run_pure, Result.andThen_ok, receiverAt, run_und hu]
    cases d <;> first | rfl | exact (hn _ rfl).elim
theorem RelL.arr {m : Mp} {l : List AV} {A : Array Value} (h : RelL m l A.toList) : ∀ {B : List Value}, A.toList = B → RelL m l B := fun e => e ▸ h
theorem call_run {T : Tr AV} {H : Tr AO} {nx : Nat} {c : Call} {ty : TypeId} {f : FuncId} {args : List AV} (h : evCall P T H nx c = some (.call f args)) {m : Mp} {ρ : Operand → Value} (hr : ∀ x v, x ∈ c.operands.toList → evx T x = some v → Rel m v (ρ x)) (w : World) :
    ∃ A : Array Value, (do let d ← resolve ρ c ty; invoke d.target d.args : Sem Next).run P w = (callFunc f A).run P w ∧ RelL m args A.toList := by
  unfold evCall at h
  split at h
  · cases h
  · rename_i as has
    have hA : RelL m as (c.args.map ρ).toList := by
      rw [Array.toList_map]
      exact evArgs_rel has fun x v hx => hr x v (by unfold Call.operands; simp; right; simpa using hx)
    split at h
    · -- a builtin does not call
      rename_i b hc
      exfalso
      unfold evBuiltin at h
      have nc1 : ∀ (g : TypeId → AV → Option Rs), (∀ t a f' as', g t a ≠ some (.call f' as')) → with1 g c.argTypes as ≠ some (.call f args) := by
        intro g hg e
        unfold with1 at e
        split at e
        · split at e
          · exact hg _ _ _ _ e
          · cases e
        · cases e
      have nc2 : ∀ (g : AV → AV → Option Rs), (∀ a b f' as', g a b ≠ some (.call f' as')) → with2 g as ≠ some (.call f args) := by
        intro g hg e
        unfold with2 at e
        split at e
        · exact hg _ _ _ _ e
        · cases e
      split at h
      · refine nc2 _ (fun a b f' as' e => ?_) h
        unfold evAppend at e
        (repeat' split at e) <;> cases e
      · refine nc2 _ (fun a b f' as' e => ?_) h
        unfold evCopy pure' at e
        (repeat' split at e) <;> cases e
      · refine nc1 _ (fun a b f' as' e => ?_) h
        unfold evLen evLenS evLenL evLenM pure' at e
        (repeat' split at e) <;> cases e
      · refine nc1 _ (fun a b f' as' e => ?_) h
        unfold evClear evClearL pure' at e
        (repeat' split at e) <;> cases e
      · unfold evMin pure' at h
        (repeat' split at h) <;> cases h
      · unfold evMax pure' at h
        (repeat' split at h) <;> cases h
      · cases h
    · -- a method of an interface value
      rename_i recv name hc
      split at h
      · rename_i t v hv
        unfold evInvoke at h
        simp only [evInvM] at h
        split at h
        · rename_i f' hf
          simp only [evCallF, Option.some.injEq, Rs.call.injEq] at h
          obtain ⟨rfl, rfl⟩ := h
          have hR := hr recv _ (by unfold Call.operands; rw [hc]; simp) hv
          generalize hρ : ρ recv = R at hR
          cases hR
          rename_i V hV
          refine ⟨#[V] ++ c.args.map ρ, ?_, ?_⟩
          · have hl : (#[Value.iface t V] ++ c.args.map ρ).toList = .iface t V :: (c.args.map ρ).toList := by simp
            have h0 : (#[Value.iface t V] ++ c.args.map ρ)[0]? = some (.iface t V) := by rw [← Array.getElem?_toList, hl]; rfl
            have h1 : (#[Value.iface t V] ++ c.args.map ρ).extract 1 (#[Value.iface t V] ++ c.args.map ρ).size = c.args.map ρ := Array.toList_inj.1 (ext1 hl)
            simp only [resolve, hc, Sem.run_bind, Sem.run_pure, Result.andThen_ok, invoke, hρ, h0, h1]
            exact callMethod_run hf V _ w
          · simpa using RelL.cons hV (by simpa using hA)
        · cases h
      · cases h
    · -- a function value
      rename_i fo hc
      split at h
      · rename_i fn first captured hv
        have hR := hr fo _ (by unfold Call.operands; rw [hc]; simp) hv
        generalize hρ : ρ fo = R at hR
        cases hR with
        | f _ _ _ F C hf hcp h1 h2 =>
        have hF : RelL m first F.toList := ⟨hf, h1⟩
        have hC : RelL m captured C.toList := ⟨hcp, h2⟩
        have hFA : RelL m (first ++ as) (F ++ c.args.map ρ).toList := by rw [Array.toList_append]; exact hF.append hA
        have hres : ∀ (k : Deferred → Sem Next), (do let d ← resolve ρ c ty; k d : Sem Next).run P w = (k { target := .fn fn C, args := F ++ c.args.map ρ }).run P w := by
          intro k
          simp only [resolve, hc, hρ, Deferred.ofValue, Sem.run_bind, Sem.run_pure, Result.andThen_ok]
        rw [hres]
        unfold evInvoke at h
        split at h
        · rename_i f'
          simp only [evCallF, Option.some.injEq, Rs.call.injEq] at h
          obtain ⟨rfl, rfl⟩ := h
          exact ⟨F ++ c.args.map ρ ++ C, rfl, by rw [Array.toList_append]; exact hFA.append hC⟩
        · rename_i name
          unfold evInvM at h
          split at h
          · rename_i x rest hx
            split at h
            · rename_i t v
              split at h
              · rename_i f' hf'
                simp only [evCallF, Option.some.injEq, Rs.call.injEq] at h
                obtain ⟨rfl, rfl⟩ := h
                rw [hx] at hFA
                obtain ⟨V, A', e1, e2, e3⟩ := hFA.cons_inv
                cases e2
                rename_i V hV
                generalize hG : F ++ c.args.map ρ = G at e1
                have hG0 : G[0]? = some (.iface t V) := by rw [← Array.getElem?_toList, e1]; rfl
                have hGe : (G.extract 1 G.size).toList = A' := ext1 e1
                refine ⟨#[V] ++ G.extract 1 G.size, ?_, ?_⟩
                · simp only [invoke, hG0]
                  exact callMethod_run hf' V _ w
                · rw [Array.toList_append, hGe]; exact RelL.cons hV e3
              · cases h
            · cases h
          · cases h
        · rename_i t path f' ptr
          unfold evInvV at h
          split at h
          · rename_i x rest hx
            split at h
            · rename_i hpath
              have done : ∀ q, q = some (.call f args) → q = evCallF f' (x :: rest) → ((∃ e, P.underlying t = some (.pointer e) ∧ ptr = true) ∨ (∃ d, P.underlying t = some d ∧ (∀ e, d ≠ .pointer e) ∧ ptr = false)) →
                  ∃ A : Array Value, (invoke (Target.fn (Fn.via t path f' ptr) C) (F ++ c.args.map ρ)).run P w = (callFunc f A).run P w ∧ RelL m args A.toList := by
                intro q h1 h2 hv
                rw [h2] at h1
                simp only [evCallF, Option.some.injEq, Rs.call.injEq] at h1
                obtain ⟨rfl, rfl⟩ := h1
                rw [hx] at hFA
                obtain ⟨V, A', e1, e2, e3⟩ := hFA.cons_inv
                generalize hG : F ++ c.args.map ρ = G at e1
                have hG0 : G[0]? = some V := by rw [← Array.getElem?_toList, e1]; rfl
                have hGe : (G.extract 1 G.size).toList = A' := ext1 e1
                refine ⟨#[V] ++ G.extract 1 G.size, ?_, ?_⟩
                · simp only [invoke, hG0, Sem.run_bind, via_ok hpath hv, Result.andThen_ok]
                · rw [Array.toList_append, hGe]; exact RelL.cons e2 e3
              split at h
              · rename_i e hu
                split at h
                · exact done _ h rfl (.inl ⟨e, hu, rfl⟩)
                · cases h
              · rename_i d hn hu
                split at h
                · cases h
                · exact done _ h rfl (.inr ⟨d, hu, fun e he => hn e he, rfl⟩)
              · cases h
            · cases h
          · cases h
        · cases h
      · cases h
      · cases h
theorem call_val {T : Tr AV} {H : Tr AO} {nx : Nat} {c : Call} {ty : TypeId} {u : Ou} (h : evCall P T H nx c = some (.ok u)) : Keep H nx u ∧ ∀ X m w (ρ : Operand → Value), (∀ x v, x ∈ c.operands.toList → evx T x = some v → Rel m v (ρ x)) → Pre P X m H nx u w →
    Does P (do let d ← resolve ρ c ty; invoke d.target d.args : Sem Next) X nx u m w := by
  unfold evCall at h
  split at h
  · cases h
  · rename_i as has
    split at h
    · rename_i b hc
      obtain ⟨g1, _⟩ := builtin_ok (ty := ty) (cs := #[]) h
      refine ⟨g1, fun X m w ρ hr hp => ?_⟩
      have hA : RelL m as (c.args.map ρ).toList := by
        rw [Array.toList_map]
        exact evArgs_rel has fun x v hx => hr x v (by unfold Call.operands; simp; right; simpa using hx)
      have hb := (builtin_ok (ty := ty) (cs := c.args.map fun | .const _ => true | _ => false) h).2 X m w (c.args.map ρ) hA hp
      have : (do let d ← resolve ρ c ty; invoke d.target d.args : Sem Next) = builtin b c.argTypes ty (c.args.map fun | .const _ => true | _ => false) (c.args.map ρ) := by
        unfold resolve
        rw [hc]
        rfl
      rw [this]; exact hb
    · rename_i recv name hc
      exfalso
      split at h
      · unfold evInvoke evInvM at h
        simp only [evCallF] at h
        (repeat' split at h) <;> cases h
      · cases h
    · rename_i fo hc
      exfalso
      split at h
      · unfold evInvoke evInvM evInvV at h
        simp only [evCallF] at h
        (repeat' split at h) <;> cases h
      · cases h
      · cases h
theorem rnd_run {T : Tr AV} {H : Tr AO} {nx : Nat} {c : Call} {ty : TypeId} {l : Nat} {args : List AV} (h : evCall P T H nx c = some (.rnd l args)) {m : Mp} {ρ : Operand → Value} (hr : ∀ x v, x ∈ c.operands.toList → evx T x = some v → Rel m v (ρ x)) (w : World) :
    ∃ (A : Array Value) (L : Loc), (do let d ← resolve ρ c ty; invoke d.target d.args : Sem Next).run P w = (Instr.yield L.block A).run P w ∧ m l = some L ∧ RelL m args A.toList := by
  unfold evCall at h
  split at h
  · cases h
  · rename_i as has
    have hA : RelL m as (c.args.map ρ).toList := by
      rw [Array.toList_map]
      exact evArgs_rel has fun x v hx => hr x v (by unfold Call.operands; simp; right; simpa using hx)
    split at h
    · rename_i b hc
      exfalso
      unfold evBuiltin at h
      have nc1 : ∀ (g : TypeId → AV → Option Rs), (∀ t a f' as', g t a ≠ some (.rnd f' as')) → with1 g c.argTypes as ≠ some (.rnd l args) := by
        intro g hg e
        unfold with1 at e
        split at e
        · split at e
          · exact hg _ _ _ _ e
          · cases e
        · cases e
      have nc2 : ∀ (g : AV → AV → Option Rs), (∀ a b f' as', g a b ≠ some (.rnd f' as')) → with2 g as ≠ some (.rnd l args) := by
        intro g hg e
        unfold with2 at e
        split at e
        · exact hg _ _ _ _ e
        · cases e
      split at h
      · refine nc2 _ (fun a b f' as' e => ?_) h
        unfold evAppend at e
        (repeat' split at e) <;> cases e
      · refine nc2 _ (fun a b f' as' e => ?_) h
        unfold evCopy pure' at e
        (repeat' split at e) <;> cases e
      · refine nc1 _ (fun a b f' as' e => ?_) h
        unfold evLen evLenS evLenL evLenM pure' at e
        (repeat' split at e) <;> cases e
      · refine nc1 _ (fun a b f' as' e => ?_) h
        unfold evClear evClearL pure' at e
        (repeat' split at e) <;> cases e
      · unfold evMin pure' at h
        (repeat' split at h) <;> cases h
      · unfold evMax pure' at h
        (repeat' split at h) <;> cases h
      · cases h
    · rename_i recv name hc
      exfalso
      split at h
      · unfold evInvoke evInvM at h
        simp only [evCallF] at h
        (repeat' split at h) <;> cases h
      · cases h
    · rename_i fo hc
      split at h
      · exfalso
        unfold evInvoke evInvM evInvV at h
        simp only [evCallF] at h
        (repeat' split at h) <;> cases h
      · rename_i l' hv
        cases h
        have hR := hr fo _ (by unfold Call.operands; rw [hc]; simp) hv
        generalize hρ : ρ fo = R at hR
        cases hR
        rename_i L hL
        refine ⟨#[] ++ c.args.map ρ, L, ?_, hL, by simpa using hA⟩
        simp only [resolve, hc, hρ, Deferred.ofValue, Sem.run_bind, Sem.run_pure, Result.andThen_ok, invoke]
      · cases h
/-- All operations. -/
theorem ops_ok : OpsOk P (evOp P) := by
  refine ⟨fun T H nx o u h => ?_, fun T H nx o f args h m ρ w hr => ?_, fun T H nx o l args h m ρ w hr => ?_⟩
  · generalize ho : o.op = op at h
    have g2 : ∀ {x y : Operand} {a b : AV}, True := fun {_ _ _ _} => trivial
    cases op with
    | move x => exact ok_move ho h
    | assign x => exact ok_assign ho h
    | pick c a b => exact ok_pick ho h
    | alloc e => exact ok_alloc ho h
    | box e x => exact ok_box ho h
    | build t p => exact ok_build ho h
    | buildSlice t n p => exact ok_buildSlice ho h
    | load t a => exact ok_load ho h
    | store t a x => exact ok_store ho h
    | nilCheck x => exact ok_nilCheck ho h
    | binOp op t x y t' => exact ok_binOp ho h
    | unOp op t x => exact ok_unOp ho h
    | convert s d x =>
      simp only [evOp] at h
      split at h
      · rename_i a hx
        obtain ⟨k1, k2⟩ := conv_ok h
        refine ⟨k1, fun X m ρ w hr hp => ?_⟩
        unfold execOp; rw [ho]
        exact k2 X m w (ρ x) (hr x _ (by rw [ho]; simp [Op.operands]) hx) hp
      · cases h
    | makeInterface t x => exact ok_makeInterface ho h
    | makeFunc fn a b => exact ok_makeFunc ho h
    | makeMap t r =>
      cases r with
      | none => exact ok_makeMap ho h
      | some r => cases h
    | makeSlice t l c => exact ok_makeSlice ho h
    | slice t x lo hi mx => exact ok_slice ho h
    | fieldAddr t x f => exact ok_fieldAddr ho h
    | field t x f => exact ok_field ho h
    | indexAddr t x i => exact ok_indexAddr ho h
    | index t x i => exact ok_index ho h
    | lookup t x k ok =>
      simp only [evOp] at h
      split at h
      · rename_i a b hx hk
        obtain ⟨k1, k2⟩ := lookup_ok h
        refine ⟨k1, fun X m ρ w hr hp => ?_⟩
        unfold execOp; rw [ho]
        exact k2 X m w (ρ x) (ρ k) (hr x _ (by rw [ho]; simp [Op.operands]) hx) (hr k _ (by rw [ho]; simp [Op.operands]) hk) hp
      · cases h
    | mapUpdate t x k v =>
      simp only [evOp] at h
      split at h
      · rename_i a b c hx hk hv
        obtain ⟨k1, k2⟩ := update_ok h
        refine ⟨k1, fun X m ρ w hr hp => ?_⟩
        unfold execOp; rw [ho]
        exact k2 X m w (ρ x) (ρ k) (ρ v) (hr x _ (by rw [ho]; simp [Op.operands]) hx) (hr k _ (by rw [ho]; simp [Op.operands]) hk) (hr v _ (by rw [ho]; simp [Op.operands]) hv) hp
      · cases h
    | insert t x k v =>
      simp only [evOp] at h
      split at h
      · rename_i a b c hx hk hv
        obtain ⟨k1, k2⟩ := update_ok h
        refine ⟨k1, fun X m ρ w hr hp => ?_⟩
        unfold execOp; rw [ho]
        exact k2 X m w (ρ x) (ρ k) (ρ v) (hr x _ (by rw [ho]; simp [Op.operands]) hx) (hr k _ (by rw [ho]; simp [Op.operands]) hk) (hr v _ (by rw [ho]; simp [Op.operands]) hv) hp
      · cases h
    | mapEntry t x k =>
      simp only [evOp] at h
      split at h
      · rename_i a b hx hk
        obtain ⟨k1, k2⟩ := entry_ok h
        refine ⟨k1, fun X m ρ w hr hp => ?_⟩
        unfold execOp; rw [ho]
        exact k2 X m w (ρ x) (ρ k) (hr x _ (by rw [ho]; simp [Op.operands]) hx) (hr k _ (by rw [ho]; simp [Op.operands]) hk) hp
      · cases h
    | entryStore t x b v =>
      simp only [evOp] at h
      split at h
      · rename_i a c d hx hb hv
        obtain ⟨k1, k2⟩ := entryS_ok (t := t) h
        refine ⟨k1, fun X m ρ w hr hp => ?_⟩
        unfold execOp; rw [ho]
        exact k2 X m w (ρ x) (ρ b) (ρ v) (hr x _ (by rw [ho]; simp [Op.operands]) hx) (hr b _ (by rw [ho]; simp [Op.operands]) hb) (hr v _ (by rw [ho]; simp [Op.operands]) hv) hp
      · cases h
    | range t x =>
      simp only [evOp] at h
      split at h
      · rename_i a hx
        obtain ⟨k1, k2⟩ := range_ok h
        refine ⟨k1, fun X m ρ w hr hp => ?_⟩
        unfold execOp; rw [ho]
        exact k2 X m w (ρ x) (hr x _ (by rw [ho]; simp [Op.operands]) hx) hp
      · cases h
    | next x s =>
      simp only [evOp] at h
      split at h
      · rename_i a hx
        obtain ⟨k1, k2⟩ := next_ok (ty := o.type) h
        refine ⟨k1, fun X m ρ w hr hp => ?_⟩
        unfold execOp; rw [ho]
        exact k2 X m w (ρ x) (hr x _ (by rw [ho]; simp [Op.operands]) hx) hp
      · cases h
    | entry x =>
      simp only [evOp] at h
      split at h
      · rename_i a hx
        obtain ⟨k1, k2⟩ := entryI_ok h
        refine ⟨k1, fun X m ρ w hr hp => ?_⟩
        unfold execOp; rw [ho]
        exact k2 X m w (ρ x) (hr x _ (by rw [ho]; simp [Op.operands]) hx) hp
      · cases h
    | typeAssert x t0 t k => exact ok_typeAssert ho h
    | extract x i => exact ok_extract ho h
    | call c =>
      simp only [evOp] at h
      obtain ⟨k1, k2⟩ := call_val (ty := o.type) h
      refine ⟨k1, fun X m ρ w hr hp => ?_⟩
      unfold execOp; rw [ho]
      exact k2 X m w ρ (fun x v hx => hr x v (by rw [ho]; simpa [Op.operands] using hx)) hp
    | _ => cases h
  · generalize ho : o.op = op at h hr
    have nolift : ∀ {x : Option AV}, lift H nx x = some (.call f args) → False := by
      intro x e; cases x <;> simp [lift, pure'] at e
    cases op with
    | call c =>
      simp only [evOp] at h
      obtain ⟨A, e, hA⟩ := call_run (ty := o.type) h (fun x v hx => hr x v (by simpa [Op.operands] using hx)) w
      refine ⟨A, ?_, hA⟩
      unfold execOp; rw [ho]
      exact e
    | convert s d x =>
      exfalso
      simp only [evOp, evConv, evConvI, evConvS, pure', newO] at h
      split at h
      · split at h
        · split at h
          · unfold evConvD at h
            split at h
            · unfold evConvI pure' at h; (repeat' split at h) <;> cases h
            · split at h
              · unfold evConvB pure' at h; (repeat' split at h) <;> cases h
              · unfold evConvS pure' at h; (repeat' split at h) <;> cases h
              · cases h
            · unfold evConvT newO at h; (repeat' split at h) <;> cases h
            · cases h
          · cases h
        · cases h
      · cases h
    | binOp op t x y t' => exfalso; simp only [evOp] at h; (repeat' split at h) <;> first | exact nolift h | cases h
    | load t a => exfalso; simp only [evOp, evLoad] at h; (repeat' split at h) <;> cases h
    | store t a x => exfalso; simp only [evOp, evStore] at h; (repeat' split at h) <;> cases h
    | buildSlice t n p => exfalso; simp only [evOp, evBuildS, newO] at h; (repeat' split at h) <;> cases h
    | makeSlice t l c => exfalso; simp only [evOp, evMakeS, newO] at h; (repeat' split at h) <;> cases h
    | lookup t x k ok => exfalso; simp only [evOp, evLookup, evLookupM, pure'] at h; (repeat' split at h) <;> cases h
    | mapUpdate t x k v => exfalso; simp only [evOp, evUpdate, evUpdateM] at h; (repeat' split at h) <;> cases h
    | insert t x k v => exfalso; simp only [evOp, evUpdate, evUpdateM] at h; (repeat' split at h) <;> cases h
    | mapEntry t x k => exfalso; simp only [evOp, evEntry, evEntryM] at h; (repeat' split at h) <;> cases h
    | entryStore t x b v => exfalso; simp only [evOp, evEntryS] at h; (repeat' split at h) <;> cases h
    | range t x => exfalso; simp only [evOp, evRange, evRangeM, newO] at h; (repeat' split at h) <;> cases h
    | next x s => exfalso; simp only [evOp, evNext, evNextM] at h; (repeat' split at h) <;> cases h
    | entry x =>
      exfalso; simp only [evOp] at h
      split at h
      · unfold evEntryI at h; (repeat' split at h) <;> cases h
      · cases h
    | typeAssert x t0 t k => exfalso; simp only [evOp, evAssert, pure'] at h; (repeat' split at h) <;> cases h
    | makeMap t r => exfalso; cases r <;> cases h
    | nilCheck x => exfalso; simp only [evOp, evNilM, pure'] at h; (repeat' split at h) <;> cases h
    | _ => exfalso; simp only [evOp, pure', newO] at h; (repeat' split at h) <;> first | exact nolift h | cases h
  · generalize ho : o.op = op at h hr
    have nolift : ∀ {x : Option AV}, lift H nx x = some (.rnd l args) → False := by
      intro x e; cases x <;> simp [lift, pure'] at e
    cases op with
    | call c =>
      simp only [evOp] at h
      obtain ⟨A, L, e, hL, hA⟩ := rnd_run (ty := o.type) h (fun x v hx => hr x v (by simpa [Op.operands] using hx)) w
      refine ⟨A, L, ?_, hL, hA⟩
      unfold execOp; rw [ho]
      exact e
    | convert s d x =>
      exfalso
      simp only [evOp, evConv, evConvI, evConvS, pure', newO] at h
      split at h
      · split at h
        · split at h
          · unfold evConvD at h
            split at h
            · unfold evConvI pure' at h; (repeat' split at h) <;> cases h
            · split at h
              · unfold evConvB pure' at h; (repeat' split at h) <;> cases h
              · unfold evConvS pure' at h; (repeat' split at h) <;> cases h
              · cases h
            · unfold evConvT newO at h; (repeat' split at h) <;> cases h
            · cases h
          · cases h
        · cases h
      · cases h
    | binOp op t x y t' => exfalso; simp only [evOp] at h; (repeat' split at h) <;> first | exact nolift h | cases h
    | load t a => exfalso; simp only [evOp, evLoad] at h; (repeat' split at h) <;> cases h
    | store t a x => exfalso; simp only [evOp, evStore] at h; (repeat' split at h) <;> cases h
    | buildSlice t n p => exfalso; simp only [evOp, evBuildS, newO] at h; (repeat' split at h) <;> cases h
    | makeSlice t l c => exfalso; simp only [evOp, evMakeS, newO] at h; (repeat' split at h) <;> cases h
    | lookup t x k ok => exfalso; simp only [evOp, evLookup, evLookupM, pure'] at h; (repeat' split at h) <;> cases h
    | mapUpdate t x k v => exfalso; simp only [evOp, evUpdate, evUpdateM] at h; (repeat' split at h) <;> cases h
    | insert t x k v => exfalso; simp only [evOp, evUpdate, evUpdateM] at h; (repeat' split at h) <;> cases h
    | mapEntry t x k => exfalso; simp only [evOp, evEntry, evEntryM] at h; (repeat' split at h) <;> cases h
    | entryStore t x b v => exfalso; simp only [evOp, evEntryS] at h; (repeat' split at h) <;> cases h
    | range t x => exfalso; simp only [evOp, evRange, evRangeM, newO] at h; (repeat' split at h) <;> cases h
    | next x s => exfalso; simp only [evOp, evNext, evNextM] at h; (repeat' split at h) <;> cases h
    | entry x =>
      exfalso; simp only [evOp] at h
      split at h
      · unfold evEntryI at h; (repeat' split at h) <;> cases h
      · cases h
    | typeAssert x t0 t k => exfalso; simp only [evOp, evAssert, pure'] at h; (repeat' split at h) <;> cases h
    | makeMap t r => exfalso; cases r <;> cases h
    | nilCheck x => exfalso; simp only [evOp, evNilM, pure'] at h; (repeat' split at h) <;> cases h
    | _ => exfalso; simp only [evOp, pure', newO] at h; (repeat' split at h) <;> first | exact nolift h | cases h
end
end Go.Ev
