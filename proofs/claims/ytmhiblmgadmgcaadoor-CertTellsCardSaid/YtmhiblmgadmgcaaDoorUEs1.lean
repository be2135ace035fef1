/- The evaluator with unknown values: operations on them by terms (Tok), comparisons by facts told beforehand. Definitions. -/
import Derived.Test.YtmhiblmgadmgcaaDoorUEv9
namespace Go.Ev
open Go
set_option linter.unusedVariables false
set_option linter.unusedSimpArgs false
noncomputable section
def Tok.srt : Tok → Srt
  | .v _ q => q
  | .i k _ => .int k
  | .s l => .str l.length
  | .add a _ => a.srt
  | .sub a _ => a.srt
  | .mul a _ => a.srt
  | .cat a b => match a.srt with
    | .str n => match b.srt with
      | .str m => .str (n + m)
      | _ => .oth
    | _ => .oth
  | .cv k _ => .int k
  | .len _ => .int .i64
  | .nl => .oth
  | .cn _ _ => .oth
  | .ap _ q _ => q
def Srt.same : Srt → Srt → Bool
  | .int k, y => match y with
    | .int j => decide (k = j)
    | _ => false
  | .str n, y => match y with
    | .str m => Nat.beq n m
    | _ => false
  | .bool, y => match y with
    | .bool => true
    | _ => false
  | .oth, y => match y with
    | .oth => true
    | _ => false
def Tok.same : Tok → Tok → Bool
  | .v n q, y => match y with
    | .v m q' => Nat.beq n m && q.same q'
    | _ => false
  | .i k n, y => match y with
    | .i j m => decide (k = j) && ieq n m
    | _ => false
  | .s l, y => match y with
    | .s l' => seq' l l'
    | _ => false
  | .add a b, y => match y with
    | .add a' b' => a.same a' && b.same b'
    | _ => false
  | .sub a b, y => match y with
    | .sub a' b' => a.same a' && b.same b'
    | _ => false
  | .mul a b, y => match y with
    | .mul a' b' => a.same a' && b.same b'
    | _ => false
  | .cat a b, y => match y with
    | .cat a' b' => a.same a' && b.same b'
    | _ => false
  | .cv k a, y => match y with
    | .cv j a' => decide (k = j) && a.same a'
    | _ => false
  | .len a, y => match y with
    | .len a' => a.same a'
    | _ => false
  | .nl, y => match y with
    | .nl => true
    | _ => false
  | .cn a b, y => match y with
    | .cn a' b' => a.same a' && b.same b'
    | _ => false
  | .ap f q l, y => match y with
    | .ap g q' l' => Nat.beq f g && q.same q' && l.same l'
    | _ => false
def inR (k : IntKind) (n : Int) : Bool := ile k.min n && ile n k.max
/-- A value of which nothing is known. -/
def Tok.unk : Tok → Bool
  | .nl => true
  | _ => false
def toTok : AV → Option Tok
  | .any t => match t.unk with
    | true => none
    | false => some t
  | .i k n => match inR k n with
    | true => some (.i k n)
    | false => none
  | .s l => some (.s l)
  | _ => none
inductive Cm where
  | eq
  | lt
def Cm.same : Cm → Cm → Bool
  | .eq, .eq => true
  | .lt, .lt => true
  | _, _ => false
/-- What is known of two unknown values: are they the same, is the one lesser? -/
structure Fact where
  c : Cm
  a : Tok
  b : Tok
  r : Bool
def findF (c : Cm) (a b : Tok) : List Fact → Option Bool
  | [] => none
  | f :: l => match f.c.same c && f.a.same a && f.b.same b with
    | true => some f.r
    | false => findF c a b l
def scalar : Srt → Bool
  | .int _ => true
  | .str _ => true
  | .bool => false
  | .oth => false
def lookF (Φ : List Fact) (c : Cm) (a b : Tok) : Option Bool := match c with
  | .eq => match a.same b && scalar a.srt with
    | true => some true
    | false => match findF .eq a b Φ with
      | some r => some r
      | none => findF .eq b a Φ
  | .lt => findF .lt a b Φ
def symAr (f : Tok → Tok → Tok) (a b : Tok) : Option AV := match a.srt with
  | .int k => match b.srt with
    | .int j => if k = j then some (.any (f a b)) else none
    | _ => none
  | _ => none
def symCat (a b : Tok) : Option AV := match a.srt with
  | .str n => match b.srt with
    | .str m => match Nat.blt (n + m) lim with
      | true => some (.any (.cat a b))
      | false => none
    | _ => none
  | _ => none
def bOf (neg : Bool) : Option Bool → Option AV
  | some r => some (.b (neg != r))
  | none => none
def symB (Φ : List Fact) (op : BinOp) (a b : Tok) : Option AV := match op with
  | .add => match symCat a b with
    | some v => some v
    | none => symAr .add a b
  | .sub => symAr .sub a b
  | .mul => symAr .mul a b
  | .eql => bOf false (lookF Φ .eq a b)
  | .neq => bOf true (lookF Φ .eq a b)
  | .lss => bOf false (lookF Φ .lt a b)
  | .gtr => bOf false (lookF Φ .lt b a)
  | .leq => bOf true (lookF Φ .lt b a)
  | .geq => bOf true (lookF Φ .lt a b)
  | _ => none
section
variable (P : Program) (Φ : List Fact)
def sEqT (t : TypeId) (a b : Tok) : Option Bool := match P.underlying t with
  | some (.int _) => match a.srt with
    | .int _ => lookF Φ .eq a b
    | _ => none
  | some .string => match a.srt with
    | .str _ => lookF Φ .eq a b
    | _ => none
  | _ => none
def sEqA (f : TypeId → AV → AV → Option Bool) (t : TypeId) (x y : AV) : Option Bool := match P.underlying t with
  | some (.struct fs) => match x with
    | .a p => match y with
      | .a q => match P.stoodInHeld t with
        | true => none
        | false => eqFl P f p q fs.toList
      | _ => none
    | _ => none
  | _ => none
def sEq : Nat → TypeId → AV → AV → Option Bool
  | 0 => fun _ _ _ => none
  | d + 1 => fun t x y => match fEq P (d + 1) t x y with
    | some b => some b
    | none => match toTok x with
      | some a => match toTok y with
        | some b => sEqT P Φ t a b
        | none => none
      | none => sEqA P (sEq d) t x y
def sBinA (op : BinOp) (t : TypeId) (p q : List AV) : Option AV := match noIf P 8 t with
  | true => match op with
    | .eql => bOf false (sEq P Φ 8 t (.a p) (.a q))
    | .neq => bOf true (sEq P Φ 8 t (.a p) (.a q))
    | _ => none
  | false => none
def sBin (op : BinOp) (t : TypeId) (x y : AV) : Option AV := match toTok x with
  | some a => match toTok y with
    | some b => symB Φ op a b
    | none => none
  | none => match x with
    | .a p => match y with
      | .a q => sBinA P Φ op t p q
      | _ => none
    | _ => none
def sConv (src dst : TypeId) (x : AV) : Option AV := match x with
  | .any a => match a.srt with
    | .int _ => match P.underlying src with
      | some (.int _) => match P.underlying dst with
        | some (.int k) => some (.any (.cv k a))
        | _ => none
      | _ => none
    | .str n => match P.underlying src with
      | some .string => match P.underlying dst with
        | some .string => some (.any a)
        | _ => none
      | _ => none
    | _ => none
  | _ => none
def sLen (tys : Array TypeId) (args : List AV) : Option AV := match args with
  | [x] => match x with
    | .any a => match a.srt with
      | .str n => match Nat.ble n 9223372036854775807 with
        | true => match tys[0]? with
          | some t => match P.underlying t with
            | some .string => some (.any (.len a))
            | _ => none
          | none => none
        | false => none
      | _ => none
    | _ => none
  | _ => none
/-- No entry's key is the text. -/
def keysNe (a : Tok) : List (AV × AV × Nat) → Bool
  | [] => true
  | (k, _, _) :: es => match k with
    | .s l => match lookF Φ .eq (.s l) a with
      | some r => !r && keysNe a es
      | none => false
    | _ => false
def sLookM (H : Tr AO) (nx : Nat) (z x : AV) (a : Tok) (ok : Bool) : Option Rs := match x with
  | .nm => pure' H nx (if ok then .t [z, .b false] else z)
  | .m r => match H.get r with
    | some (.m es _) => match keysNe Φ a es with
      | true => some (.ok ⟨if ok then .t [z, .b false] else z, H, nx, bit r, 0⟩)
      | false => none
    | _ => none
  | _ => none
def sLook (H : Tr AO) (nx : Nat) (t : TypeId) (x k : AV) (ok : Bool) : Option Rs := match k with
  | .any a => match a.srt with
    | .str _ => match P.underlying t with
      | some (.map kt et) => match P.underlying kt with
        | some .string => match zero P et with
          | some z => sLookM Φ H nx z x a ok
          | none => none
        | _ => none
      | _ => none
    | _ => none
  | _ => none
def sDelM (H : Tr AO) (nx : Nat) (kt : TypeId) (k x : AV) : Option Rs := match x with
  | .m r => match H.get r with
    | some (.m es cl) => match findA P kt k es 0 with
      | some (some (i, _, _)) => some (.ok ⟨.un, H.set r (some (.m (es.eraseIdx i) cl)), nx, bit r, bit r⟩)
      | some none => some (.ok ⟨.un, H.set r (some (.m es cl)), nx, bit r, bit r⟩)
      | none => none
    | _ => none
  | _ => none
def sDel (H : Tr AO) (nx : Nat) (t : TypeId) (x k : AV) : Option Rs := match P.underlying t with
  | some (.map kt _) => match keyOk P 8 kt k with
    | true => sDelM P H nx kt k x
    | false => none
  | _ => none
def sDelA (H : Tr AO) (nx : Nat) (tys : Array TypeId) (args : List AV) : Option Rs := match args with
  | [x, k] => match tys[0]? with
    | some t => sDel P H nx t x k
    | none => none
  | _ => none
def sArg2 (T : Tr AV) (x y : Operand) (f : AV → AV → Option Rs) : Option Rs := match evx T x with
  | some a => match evx T y with
    | some b => f a b
    | none => none
  | none => none
def sCall (T : Tr AV) (H : Tr AO) (nx : Nat) (c : Call) : Option Rs := match c.callee with
  | .builtin .len => match evArgs T c.args.toList with
    | some args => lift H nx (sLen P c.argTypes args)
    | none => none
  | .builtin .delete => match evArgs T c.args.toList with
    | some args => sDelA P H nx c.argTypes args
    | none => none
  | _ => none
def symOp (T : Tr AV) (H : Tr AO) (nx : Nat) : Op → Option Rs
  | .binOp op t x y _ => sArg2 T x y fun a b => lift H nx (sBin P Φ op t a b)
  | .convert s d x => match evx T x with
    | some a => lift H nx (sConv P s d a)
    | none => none
  | .lookup t x k ok => sArg2 T x k fun a b => sLook P Φ H nx t a b ok
  | .call c => sCall P T H nx c
  | _ => none
def sOr (r s : Option Rs) : Option Rs := match r with
  | some r => some r
  | none => s
/-- One operation: as the evaluator has it; what it can't, by what is known of unknown values. -/
def sOp : Eo := fun T H nx op => sOr (fOp P T H nx op) (symOp P Φ T H nx op)
end
/-! A function of which it is known what it answers: its answer is a term. -/
def fits : Srt → Srt → Bool
  | .str n, y => match y with
    | .str m => Nat.ble n m
    | .oth => true
    | _ => false
  | x, y => match y with
    | .oth => true
    | y => x.same y
def toksOf : List Srt → List AV → Tok → Option Tok
  | [], [], r => some r
  | q :: qs, x :: xs, r => match toTok x with
    | some t => match fits t.srt q with
      | true => match toksOf qs xs r with
        | some r => some (.cn t r)
        | none => none
      | false => none
    | none => none
  | _, _, _ => none
def argCells : Bool → AV → Option (List AV)
  | true, x => match x with
    | .a l => some l
    | _ => none
  | false, x => match x with
    | .a _ => none
    | x => some [x]
def flatArgs : List (Bool × List Srt) → List AV → Option Tok
  | [], [] => some .nl
  | p :: ps, x :: xs => match flatArgs ps xs with
    | some r => match argCells p.1 x with
      | some l => toksOf p.2 l r
      | none => none
    | none => none
  | _, _ => none
def gAp (tag : Nat) (q : Srt) (ps : List (Bool × List Srt)) (args : List AV) : Option AV := match flatArgs ps args with
  | some l => some (.any (.ap tag q l))
  | none => none
end
end Go.Ev
