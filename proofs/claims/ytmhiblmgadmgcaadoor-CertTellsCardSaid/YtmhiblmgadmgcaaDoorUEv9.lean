/- The evaluator's operations once more, in small pieces (the kernel unfolds less): the same functions. -/
import Derived.Test.YtmhiblmgadmgcaaDoorU19
namespace Go.Ev
open Go
set_option linter.unusedVariables false
set_option linter.unusedSimpArgs false
noncomputable section
section
variable (P : Program)
def fEqNe (op : BinOp) (t : TypeId) (x y : AV) : Option AV := match op with
  | .eql => match fEq P 1 t x y with
    | some r => some (.b r)
    | none => none
  | .neq => match fEq P 1 t x y with
    | some r => some (.b (!r))
    | none => none
  | _ => none
def fBinI (op : BinOp) (k : IntKind) (a : Int) (k' : IntKind) (b : Int) : Option AV := match op with
  | .shl => evShift .shl k a b
  | .shr => evShift .shr k a b
  | op => if k = k' then evInt op k a b else none
def fBinA (op : BinOp) (t : TypeId) (p q : List AV) : Option AV := match op with
  | .eql => match noIf P 8 t, fEq P 8 t (.a p) (.a q) with
    | true, some r => some (.b r)
    | _, _ => none
  | .neq => match noIf P 8 t, fEq P 8 t (.a p) (.a q) with
    | true, some r => some (.b (!r))
    | _, _ => none
  | _ => none
def fBin (op : BinOp) (t : TypeId) (x y : AV) : Option AV := match x with
  | .i k a => match y with
    | .i k' b => fBinI op k a k' b
    | y => fEqNe P op t (.i k a) y
  | .s a => match y with
    | .s b => evStr op a b
    | y => fEqNe P op t (.s a) y
  | .a p => match y with
    | .a q => fBinA P op t p q
    | y => fEqNe P op t (.a p) y
  | .r k lo hi => match y with
    | .i k' b => if k = k' then evRng op lo hi b else none
    | y => fEqNe P op t (.r k lo hi) y
  | x => fEqNe P op t x y
theorem fEq_eq : ∀ d, fEq P d = evEq P d
  | 0 => rfl
  | d + 1 => by
    funext t x y
    simp only [fEq, evEq]
    rw [fEq_eq d]
    cases P.underlying t with
    | none => rfl
    | some D => cases D <;> cases x <;> first | rfl | (cases y <;> rfl)
theorem fBin_eq (op : BinOp) (t : TypeId) (x y : AV) : fBin P op t x y = evBin P op t x y := by
  unfold fBin
  cases x <;> simp only [fEqNe, fBinA, fEq_eq] <;> cases y <;> cases op <;> rfl
def fIndexS (e : TypeId) (i : Int) (x : AV) : Option AV := match x with
  | .sl r o len _ _ => match inB i len, szO P e with
    | some k, some n => some (.p r (o + k * n))
    | _, _ => none
  | _ => none
def fIndexR (len : Nat) (e : TypeId) (i : Int) (x : AV) : Option AV := match x with
  | .p r o => match inB i len, szO P e with
    | some k, some n => some (.p r (o + k * n))
    | _, _ => none
  | _ => none
def fIndexD (x : AV) (i : Int) : TypeDesc → Option AV
  | .array len e => fIndexR P len e i x
  | .slice e => fIndexS P e i x
  | _ => none
def fIndexA (t : TypeId) (x ix : AV) : Option AV := match ix with
  | .i _ i => match P.underlying t with
    | some d => fIndexD P x i d
    | none => none
  | _ => none
theorem fIndexA_eq (t : TypeId) (x ix : AV) : fIndexA P t x ix = evIndexA P t x ix := by
  unfold fIndexA evIndexA
  cases ix <;> first
    | rfl
    | (simp only []
       cases P.underlying t with
       | none => rfl
       | some d => cases d <;> first | rfl | (cases x <;> rfl))
def fIdxA (len : Nat) (e : TypeId) (i : Int) (x : AV) : Option AV := match x with
  | .a l => match inB i len, szO P e with
    | some k, some n => partA P e l (k * n)
    | _, _ => none
  | _ => none
def fIdxS (i : Int) (x : AV) : Option AV := match x with
  | .s l => match inB i l.length with
    | some k => match l[k]? with
      | some c => some (.i .u8 c.toNat)
      | none => none
    | none => none
  | _ => none
def fIdxD (x : AV) (i : Int) : TypeDesc → Option AV
  | .array len e => fIdxA P len e i x
  | .string => fIdxS i x
  | _ => none
def fIndex (t : TypeId) (x ix : AV) : Option AV := match ix with
  | .i _ i => match P.underlying t with
    | some d => fIdxD P x i d
    | none => none
  | _ => none
theorem fIndex_eq (t : TypeId) (x ix : AV) : fIndex P t x ix = evIndex P t x ix := by
  unfold fIndex evIndex
  cases ix <;> first
    | rfl
    | (simp only []
       cases P.underlying t with
       | none => rfl
       | some d => cases d <;> first | rfl | (cases x <;> rfl))
def fSliceS (l : List UInt8) (lo hi mx : Option AV) : Option AV := match mx, bnds l.length l.length lo hi none with
  | none, some (a, h, _) => some (.s ((l.drop a).take (h - a)))
  | _, _ => none
def fSliceF (e : TypeId) (r o n c : Nat) (lo hi mx : Option AV) : Option AV := match szO P e, bnds n c lo hi mx with
  | some z, some (a, h, q) => some (.sl r (match Nat.beq q a with | true => o | false => o + a * z) (h - a) (q - a) false)
  | _, _ => none
def fSliceR (e : TypeId) (r o n c : Nat) (lo hi mx : Option AV) : Option AV := match szO P e, bnds n n lo hi mx with
  | some z, some (a, h, q) => match mx with
    | none => match Nat.blt a n with
      | true => some (.sl r (o + a * z) (h - a) (c + a) true)
      | false => none
    | some _ => some (.sl r (match Nat.beq q a with | true => o | false => o + a * z) (h - a) (q - a) false)
  | _, _ => none
def fSliceN (e : TypeId) (lo hi mx : Option AV) : Option AV := match szO P e, bnds 0 0 lo hi mx with
  | some _, some _ => some .ns
  | _, _ => none
def fSliceD (x : AV) (lo hi mx : Option AV) : TypeDesc → Option AV
  | .string => match x with
    | .s l => fSliceS l lo hi mx
    | _ => none
  | .slice e => match x with
    | .ns => fSliceN P e lo hi mx
    | .sl r o n c rel => match rel with
      | true => fSliceR P e r o n c lo hi mx
      | false => fSliceF P e r o n c lo hi mx
    | _ => none
  | .array n e => match x with
    | .p r o => fSliceF P e r o n n lo hi mx
    | _ => none
  | _ => none
def fSlice (t : TypeId) (x : AV) (lo hi mx : Option AV) : Option AV := match P.underlying t with
  | some d => fSliceD P x lo hi mx d
  | none => none
theorem fSlice_eq (t : TypeId) (x : AV) (lo hi mx : Option AV) : fSlice P t x lo hi mx = evSlice P t x lo hi mx := by
  unfold fSlice evSlice
  cases P.underlying t with
  | none => rfl
  | some d =>
    cases d <;> first
      | rfl
      | (cases x <;> first | rfl | (rename_i r; cases r <;> rfl))
def o1 (T : Tr AV) (f : AV → Option Rs) (x : Operand) : Option Rs := match evx T x with
  | some v => f v
  | none => none
def o2 (T : Tr AV) (f : AV → AV → Option Rs) (x y : Operand) : Option Rs := match evx T x with
  | some v => match evx T y with
    | some w => f v w
    | none => none
  | none => none
def o3 (T : Tr AV) (f : AV → AV → AV → Option Rs) (x y z : Operand) : Option Rs := match evx T x with
  | some v => match evx T y with
    | some w => match evx T z with
      | some u => f v w u
      | none => none
    | none => none
  | none => none
def oBin (T : Tr AV) (H : Tr AO) (nx : Nat) (op : BinOp) (t : TypeId) (x y : Operand) : Option Rs := match evx T x with
  | some a => match evx T y with
    | some b => match a with
      | .ni => match b with
        | .ni => lift H nx (evNi P op t x y)
        | b => lift H nx (fBin P op t .ni b)
      | a => lift H nx (fBin P op t a b)
    | none => none
  | none => none
def oSlice (T : Tr AV) (H : Tr AO) (nx : Nat) (t : TypeId) (lo hi mx : Option Operand) (v : AV) : Option Rs := match evMx T lo with
  | some a => match evMx T hi with
    | some b => match evMx T mx with
      | some c => lift H nx (fSlice P t v a b c)
      | none => none
    | none => none
  | none => none
def oParts (T : Tr AV) (f : List (Nat × AV) → Option Rs) (parts : Array (Nat × Operand)) : Option Rs := match evParts T parts.toList with
  | some l => f l
  | none => none
def oPick (T : Tr AV) (H : Tr AO) (nx : Nat) (a b : Operand) (v : AV) : Option Rs := match v with
  | .b c => match c with
    | true => lift H nx (evx T a)
    | false => lift H nx (evx T b)
  | _ => none
def oAlloc (H : Tr AO) (nx : Nat) (e : TypeId) : Option Rs := match zero P e with
  | some z => newO H nx (.c z.cells e false) fun r => .p r 0
  | none => none
def oBox (H : Tr AO) (nx : Nat) (e : TypeId) (v : AV) : Option Rs := newO H nx (.c v.cells e false) fun r => .p r 0
def oNil (H : Tr AO) (nx : Nat) (v : AV) : Option Rs := match v with
  | .p r o => pure' H nx (.p r o)
  | .f fn a b => match fn with
    | .func f => pure' H nx (.f (.func f) a b)
    | .method name => evNilM P H nx name a b
    | _ => none
  | .it t v => pure' H nx (.it t v)
  | _ => none
def oIface (H : Tr AO) (nx : Nat) (t : TypeId) (v : AV) : Option Rs := match P.underlying t with
  | some (.interface _) => none
  | some _ => pure' H nx (.it t v)
  | none => none
def oFunc (T : Tr AV) (H : Tr AO) (nx : Nat) (fn : Fn) (a b : Array Operand) : Option Rs := match evArgs T a.toList with
  | some a => match evArgs T b.toList with
    | some b => pure' H nx (.f fn a b)
    | none => none
  | none => none
def oExtract (H : Tr AO) (nx : Nat) (i : Nat) (v : AV) : Option Rs := match v with
  | .t l => lift H nx l[i]?
  | _ => none
def oMap (H : Tr AO) (nx : Nat) (r : Option Operand) : Option Rs := match r with
  | none => newO H nx (.m [] 0) fun r => .m r
  | some _ => none
def oUn (H : Tr AO) (nx : Nat) (op : UnOp) (v : AV) : Option Rs := lift H nx (evUn op v)
def oField (H : Tr AO) (nx : Nat) (s : TypeId) (f : Nat) (v : AV) : Option Rs := lift H nx (evField P s f v)
def oPart (H : Tr AO) (nx : Nat) (t : TypeId) (f : Nat) (v : AV) : Option Rs := lift H nx (evPart P t f v)
def oIndexA (H : Tr AO) (nx : Nat) (t : TypeId) (v k : AV) : Option Rs := lift H nx (fIndexA P t v k)
def oIndex (H : Tr AO) (nx : Nat) (t : TypeId) (v k : AV) : Option Rs := lift H nx (fIndex P t v k)
def oBuild (H : Tr AO) (nx : Nat) (t : TypeId) (l : List (Nat × AV)) : Option Rs := lift H nx (evBuild P t l)
def oStore (H : Tr AO) (nx : Nat) (t : TypeId) (p v : AV) : Option Rs := evStore P H nx t v p
def oLookup (H : Tr AO) (nx : Nat) (t : TypeId) (ok : Bool) (v k : AV) : Option Rs := evLookup P H nx t v k ok
def oAssert (H : Tr AO) (nx : Nat) (t : TypeId) (ok : Bool) (v : AV) : Option Rs := evAssert P H nx v t ok
/-- One operation, in small pieces. -/
def fOp (T : Tr AV) (H : Tr AO) (nx : Nat) : Op → Option Rs
  | .move x => lift H nx (evx T x)
  | .assign x => lift H nx (evx T x)
  | .pick c a b => o1 T (oPick T H nx a b) c
  | .alloc e => oAlloc P H nx e
  | .box e x => o1 T (oBox H nx e) x
  | .build t parts => oParts T (oBuild P H nx t) parts
  | .buildSlice t len parts => oParts T (evBuildS P H nx t len) parts
  | .load t a => o1 T (evLoad P H nx t) a
  | .store t a x => o2 T (oStore P H nx t) a x
  | .nilCheck x => o1 T (oNil P H nx) x
  | .binOp op t x y _ => oBin P T H nx op t x y
  | .unOp op _ x => o1 T (oUn H nx op) x
  | .convert src dst x => o1 T (evConv P H nx src dst) x
  | .makeInterface t x => o1 T (oIface P H nx t) x
  | .makeFunc fn a b => oFunc T H nx fn a b
  | .makeMap _ r => oMap H nx r
  | .makeSlice t l c => o2 T (evMakeS P H nx t) l c
  | .slice t x lo hi mx => o1 T (oSlice P T H nx t lo hi mx) x
  | .fieldAddr s x f => o1 T (oField P H nx s f) x
  | .field t x f => o1 T (oPart P H nx t f) x
  | .indexAddr t x i => o2 T (oIndexA P H nx t) x i
  | .index t x i => o2 T (oIndex P H nx t) x i
  | .lookup t x k ok => o2 T (oLookup P H nx t ok) x k
  | .mapUpdate t m k x => o3 T (evUpdate P H nx t) m k x
  | .insert t m k x => o3 T (evUpdate P H nx t) m k x
  | .mapEntry t m k => o2 T (evEntry P H nx t) m k
  | .entryStore _ m b x => o3 T (evEntryS H nx) m b x
  | .range t x => o1 T (evRange P H nx t) x
  | .next it str => o1 T (evNext H nx str) it
  | .entry it => o1 T (evEntryI H nx) it
  | .typeAssert x _ t ok => o1 T (oAssert P H nx t ok) x
  | .extract x i => o1 T (oExtract H nx i) x
  | .call c => evCall P T H nx c
  | _ => none
theorem fOp_eq : fOp P = evOp P := by
  funext T H nx op
  cases op with
  | binOp op t x y t' =>
    simp only [fOp, oBin, evOp, fBin_eq]
    cases evx T x with
    | none => cases evx T y <;> rfl
    | some a => cases evx T y with
      | none => cases a <;> rfl
      | some b => cases a <;> first | rfl | (cases b <;> rfl)
  | slice t x lo hi mx =>
    simp only [fOp, o1, oSlice, evOp, fSlice_eq]
    cases evx T x <;> cases evMx T lo <;> cases evMx T hi <;> cases evMx T mx <;> rfl
  | indexAddr t x i =>
    simp only [fOp, o2, oIndexA, evOp, fIndexA_eq]
    cases evx T x <;> cases evx T i <;> rfl
  | index t x i =>
    simp only [fOp, o2, oIndex, evOp, fIndex_eq]
    cases evx T x <;> cases evx T i <;> rfl
  | pick c a b =>
    simp only [fOp, o1, oPick, evOp]
    cases evx T c with
    | none => rfl
    | some v => cases v <;> first | rfl | (rename_i b; cases b <;> rfl)
  | nilCheck x =>
    simp only [fOp, o1, oNil, evOp]
    cases evx T x with
    | none => rfl
    | some v => cases v <;> first | rfl | (rename_i fn _ _; cases fn <;> rfl)
  | makeInterface t x =>
    simp only [fOp, o1, oIface, evOp]
    cases evx T x with
    | none => cases P.underlying t with
      | none => rfl
      | some d => cases d <;> rfl
    | some v => cases P.underlying t with
      | none => rfl
      | some d => cases d <;> rfl
  | extract x i =>
    simp only [fOp, o1, oExtract, evOp]
    cases evx T x with
    | none => rfl
    | some v => cases v <;> rfl
  | makeMap t r => cases r <;> rfl
  | makeFunc fn a b =>
    simp only [fOp, oFunc, evOp]
    cases evArgs T a.toList <;> cases evArgs T b.toList <;> rfl
  | store t a x =>
    simp only [fOp, o2, oStore, evOp]
    cases evx T a <;> cases evx T x <;> rfl
  | makeSlice t a x =>
    simp only [fOp, o2, evOp]
    cases evx T a <;> cases evx T x <;> rfl
  | lookup t a x ok =>
    simp only [fOp, o2, oLookup, evOp]
    cases evx T a <;> cases evx T x <;> rfl
  | mapEntry t a x =>
    simp only [fOp, o2, evOp]
    cases evx T a <;> cases evx T x <;> rfl
  | mapUpdate t a x y =>
    simp only [fOp, o3, evOp]
    cases evx T a <;> cases evx T x <;> cases evx T y <;> rfl
  | insert t a x y =>
    simp only [fOp, o3, evOp]
    cases evx T a <;> cases evx T x <;> cases evx T y <;> rfl
  | entryStore t a x y =>
    simp only [fOp, o3, evOp]
    cases evx T a <;> cases evx T x <;> cases evx T y <;> rfl
  | box e x => simp only [fOp, o1, oBox, evOp]; cases evx T x <;> rfl
  | unOp op t x => simp only [fOp, o1, oUn, evOp]; cases evx T x <;> rfl
  | fieldAddr s x f => simp only [fOp, o1, oField, evOp]; cases evx T x <;> rfl
  | field s x f => simp only [fOp, o1, oPart, evOp]; cases evx T x <;> rfl
  | typeAssert x a t ok => simp only [fOp, o1, oAssert, evOp]; cases evx T x <;> rfl
  | build t parts => simp only [fOp, oParts, oBuild, evOp]; cases evParts T parts.toList <;> rfl
  | _ => rfl
end
end
end Go.Ev
