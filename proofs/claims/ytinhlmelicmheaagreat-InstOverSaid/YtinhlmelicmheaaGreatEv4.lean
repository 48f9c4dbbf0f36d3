import Derived.Test.YtinhlmelicmheaaGreatEv2
namespace Go.Ev
open Go

/-! ## The operations, on abstract values -/

def evo (tm : Tr AV) : Operand → Option AV
  | .tmp t => match tm.at0 t with
    | some x => some x
    | none => some (.tup [])
  | .const v => ofValue v
  | .global _ => none
  | .func f => some (.func (.func f) [] [])

def evos (E : Operand → Option AV) : List Operand → Option (List AV)
  | [] => some []
  | x :: l => match E x with
    | some a => match evos E l with
      | some as => some (a :: as)
      | none => none
    | none => none

def szOf (P : Program) (t : TypeId) : Option Nat := match P.info? t with
  | some i => some i.size
  | none => none

def aggT (P : Program) (t : TypeId) : Option Bool := match P.underlying t with
  | some (.struct _) => some true
  | some (.array _ _) => some true
  | some _ => some false
  | none => none

def cellsA : AV → List AV
  | .agg l => l
  | x => [x]

def zeroC : Value → Option (List AV)
  | .agg cs => ofVs cs.toList
  | v => match ofV v with
    | some x => some [x]
    | none => none

def zeroL (P : Program) (t : TypeId) : Option (List AV) := match P.info? t with
  | some i => match i.zero with
    | some z => zeroC z
    | none => none
  | none => none

def nth {α : Type} : List α → Nat → Option α
  | [], _ => none
  | x :: _, 0 => some x
  | _ :: l, n + 1 => nth l n

def cgets (t : Tr AV) (dz : Option AV) : Nat → Nat → Option (List AV)
  | _, 0 => some []
  | i, n + 1 => match cget t dz i with
    | some x => match cgets t dz (Nat.succ i) n with
      | some l => some (x :: l)
      | none => none
    | none => none

def scalar : AV → Bool
  | .agg _ => false
  | .tup _ => false
  | .bad => false
  | .lit v => v.oneCell'
  | _ => true

def loadA (P : Program) (σ : Heap) (ty : TypeId) (b off : Nat) : Option AV :=
  match σ.get b with
  | some (.cells n t dz _ _) => match aggT P ty with
    | some true => match szOf P ty with
      | some s => match Nat.ble (Nat.add off s) n with
        | true => match cgets t dz off s with
          | some l => some (.agg l)
          | none => none
        | false => none
      | none => none
    | some false => match Nat.ble (Nat.succ off) n with
      | true => cget t dz off
      | false => none
    | none => none
  | _ => none

def storeCellsA (σ : Heap) (b off : Nat) (l : List AV) : Option Heap :=
  match σ.get b with
  | some (.cells n t dz e sp) => match Nat.ble (Nat.add off l.length) n with
    | true => match l.all scalar with
      | true => some (σ.set b (.cells n (Tr.ofList l off t) dz e sp))
      | false => none
    | false => none
  | _ => none

def storeA (P : Program) (σ : Heap) (ty : TypeId) (b off : Nat) (x : AV) : Option Heap :=
  match szOf P ty with
  | some s => match Nat.beq (cellsA x).length s with
    | true => storeCellsA σ b off (cellsA x)
    | false => none
  | none => none

/-- A place's type that takes cells. -/
def partA (P : Program) (t : TypeId) (cs : List AV) (off : Nat) : Option AV := match aggT P t with
  | some true => match szOf P t with
    | some s => some (.agg ((cs.drop off).take s))
    | none => none
  | some false => nth cs off
  | none => none

def intBin (op : BinOp) (k : IntKind) (a : Int) (k' : IntKind) (b : Int) : Option AV :=
  match op with
  | .shl => match b with
    | .ofNat n => some (.int k (wrapF k (mulI a (.ofNat (Nat.pow 2 (capN k n))))))
    | _ => none
  | .shr => match b with
    | .ofNat n => some (.int k (shrI a (capN k n)))
    | _ => none
  | op => match sameK k k' with
    | false => none
    | true => match op with
      | .add => some (.int k (wrapF k (addI a b)))
      | .sub => some (.int k (wrapF k (subI a b)))
      | .mul => some (.int k (wrapF k (mulI a b)))
      | .quo => match eqI b 0 with
        | true => none
        | false => some (.int k (wrapF k (divI a b)))
      | .rem => match eqI b 0 with
        | true => none
        | false => some (.int k (modI a b))
      | .and => some (.int k (bitI .and k a b))
      | .or => some (.int k (bitI .or k a b))
      | .xor => some (.int k (bitI .xor k a b))
      | .andNot => some (.int k (bitI .andNot k a b))
      | .eql => some (.bool (eqI a b))
      | .neq => some (.bool (!eqI a b))
      | .lss => some (.bool (ltI a b))
      | .leq => some (.bool (!ltI b a))
      | .gtr => some (.bool (ltI b a))
      | .geq => some (.bool (!ltI a b))
      | _ => none

def strEq : List Nat → List Nat → Bool
  | [], [] => true
  | x :: l, y :: m => match Nat.beq (Nat.mod x 256) (Nat.mod y 256) with
    | true => strEq l m
    | false => false
  | _, _ => false

def strLt : List Nat → List Nat → Bool
  | _, [] => false
  | [], _ :: _ => true
  | x :: l, y :: m => match Nat.ble (Nat.succ (Nat.mod x 256)) (Nat.mod y 256) with
    | true => true
    | false => match Nat.beq (Nat.mod x 256) (Nat.mod y 256) with
      | true => strLt l m
      | false => false

def strBin (op : BinOp) (a b : List Nat) : Option AV := match op with
  | .add => match Nat.ble (Nat.add a.length b.length) 4611686018427387904 with
    | true => some (.str (a ++ b))
    | false => none
  | .eql => some (.bool (strEq a b))
  | .neq => some (.bool (!strEq a b))
  | .lss => some (.bool (strLt a b))
  | .leq => some (.bool (strLt a b || strEq a b))
  | .gtr => some (.bool (!(strLt a b || strEq a b)))
  | .geq => some (.bool (!strLt a b))
  | _ => none

/-- A run that asks the world nothing. -/
def pureRun {α : Type} (P : Program) : Sem α → Option α
  | .pure a => some a
  | .program k => pureRun P (k P)
  | _ => none

def allCon0 (E : Operand → Option AV) : List Operand → Bool
  | [] => true
  | x :: l => match E x with
    | some a => match con0 a with
      | some _ => allCon0 E l
      | none => false
    | none => false

def valOf (E : Operand → Option AV) (x : Operand) : Value := match E x with
  | some a => match con0 a with
    | some v => v
    | none => undef
  | none => undef

def pureA (P : Program) (E : Operand → Option AV) (o : Oper) : Option AV :=
  match allCon0 E o.op.operands.toList with
  | true => match pureRun P (execOp (valOf E) o) with
    | some (.value v) => ofValue v
    | _ => none
  | false => none

/-- Field by field. -/
def eqFs (P : Program) (eq : TypeId → AV → AV → Option Bool) (xs ys : List AV) : List Field → Option Bool
  | [] => some true
  | f :: fs => match decide (f.name ≠ "_") with
    | false => eqFs P eq xs ys fs
    | true => match partA P f.type xs f.offset with
      | some x => match partA P f.type ys f.offset with
        | some y => match eq f.type x y with
          | some true => eqFs P eq xs ys fs
          | some false => some false
          | none => none
        | none => none
      | none => none

/-- '==' on two values of a type whose parts are numbers, truths and texts. -/
def eqT (P : Program) : Nat → TypeId → AV → AV → Option Bool
  | 0, _, _, _ => none
  | d + 1, t, x, y => match P.underlying t with
    | some .bool => match x, y with
      | .bool a, .bool b => some (a == b)
      | _, _ => none
    | some (.int _) => match x, y with
      | .int k a, .int k' b => match sameK k k' with
        | true => some (eqI a b)
        | false => none
      | _, _ => none
    | some .string => match x, y with
      | .str a, .str b => some (strEq a b)
      | _, _ => none
    | some (.struct fields) => match x, y with
      | .agg xs, .agg ys => match P.stoodInHeld t with
        | true => none
        | false => eqFs P (eqT P d) xs ys fields.toList
      | _, _ => none
    | _ => none

def nilCmp : BinOp → Option AV
  | .eql => some (.bool false)
  | .neq => some (.bool true)
  | _ => none

def isPtrT (P : Program) (t : TypeId) : Bool := match P.underlying t with
  | some (.pointer _) => true
  | _ => false
def isSliceT (P : Program) (t : TypeId) : Bool := match P.underlying t with
  | some (.slice _) => true
  | _ => false
def isMapT (P : Program) (t : TypeId) : Bool := match P.underlying t with
  | some (.map _ _) => true
  | _ => false
def isFuncT (P : Program) (t : TypeId) : Bool := match P.underlying t with
  | some (.func _ _ _) => true
  | _ => false

def isCmp : BinOp → Bool
  | .eql => true
  | .neq => true
  | .lss => true
  | .leq => true
  | .gtr => true
  | .geq => true
  | _ => false

def isAri : BinOp → Bool
  | .add => true
  | .sub => true
  | .mul => true
  | .and => true
  | .or => true
  | .xor => true
  | .andNot => true
  | _ => false

def isDiv : BinOp → Bool
  | .quo => true
  | .rem => true
  | _ => false

def ivCmp (op : BinOp) : Option (Int × Int) → Option (Int × Int) → Option Bool
  | some (la, ha), some (lb, hb) => cmpI op la ha lb hb
  | _, _ => none

def boolO : Option Bool → Option AV
  | some t => some (.bool t)
  | none => none

/-- A number that its bounds tell. -/
def sxMk (k : IntKind) (e : SE) : AV := match e.iv with
  | some (lo, hi) => match eqI lo hi with
    | true => .int k lo
    | false => .sx k e
  | none => .sx k e

def isShf : BinOp → Bool
  | .shl => true
  | .shr => true
  | _ => false

def litN : SE → Bool
  | .lit (.ofNat _) => true
  | _ => false

/-- Integers of which one at least is known by its bounds alone. -/
def sxBin (op : BinOp) (k : IntKind) (a : SE) (k' : IntKind) (b : SE) : Option AV := match sameK k k' with
  | false => match isShf op with
    | true => match litN b with
      | true => some (sxMk k (simpE op k a b))
      | false => none
    | false => none
  | true => match isCmp op with
    | true => boolO (cmpE op a b)
    | false => match isAri op with
      | true => some (sxMk k (simpE op k a b))
      | false => match isDiv op with
        | true => match ivCmp .eql b.iv (some (0, 0)) with
          | some false => some (sxMk k (simpE op k a b))
          | _ => none
        | false => match isShf op with
          | true => match litN b with
            | true => some (sxMk k (simpE op k a b))
            | false => none
          | false => none

def convT (k : IntKind) (e : SE) : SE := match e with
  | .var i c lo hi => orE (.conv k e) (tryVar (fun x => some (wrapF k x)) i c lo hi)
  | e => .conv k e

def convE (k : IntKind) (e : SE) : SE := match e.iv with
  | some (lo, hi) => match fitsI k lo with
    | true => match fitsI k hi with
      | true => e
      | false => convT k e
    | false => convT k e
  | none => .conv k e

/-- Bytes that are known or known by their bounds. -/
def isByte : AV → Bool
  | .int .u8 (.ofNat _) => true
  | .sx .u8 e => match e.iv with
    | some (lo, _) => leI 0 lo
    | none => false
  | _ => false

def byteRange (e : SE) : Bool := match e.iv with
  | some (lo, hi) => match leI 0 lo with
    | true => leI hi 255
    | false => false
  | none => false

/-- Two bytes of a text: the same? -/
def eqByte (x y : AV) : Option Bool := match x, y with
  | .int _ (.ofNat m), .int _ (.ofNat n) => some (Nat.beq (Nat.mod m 256) (Nat.mod n 256))
  | .sx _ a, .sx _ b => match relE a b with
    | some true => some true
    | some false => match byteRange a with
      | true => match byteRange b with
        | true => some false
        | false => none
      | false => none
    | none => none
  | .sx _ a, .int _ (.ofNat n) => match byteRange a with
    | true => relE a (.lit (.ofNat (Nat.mod n 256)))
    | false => none
  | .int _ (.ofNat n), .sx _ a => match byteRange a with
    | true => relE a (.lit (.ofNat (Nat.mod n 256)))
    | false => none
  | _, _ => none

def eqBytes : List AV → List AV → Option Bool
  | [], [] => some true
  | x :: l, y :: m => match eqByte x y with
    | some true => eqBytes l m
    | some false => match Nat.beq l.length m.length with
      | true => some false
      | false => none
    | none => none
  | _, _ => none

/-- Texts, one of them at least with bytes known by their bounds alone. -/
def sstrBin (op : BinOp) (x y : List AV) : Option AV := match op with
  | .eql => match Nat.beq x.length y.length with
    | true => boolO (eqBytes x y)
    | false => some (.bool false)
  | .neq => match Nat.beq x.length y.length with
    | true => match eqBytes x y with
      | some b => some (.bool (!b))
      | none => none
    | false => some (.bool true)
  | _ => none

def byteAV (n : Nat) : AV := .int .u8 (.ofNat (Nat.mod n 256))

def binA (P : Program) (E : Operand → Option AV) (o : Oper) (op : BinOp) (xt : TypeId) (a b : AV) : Option AV :=
  match a, b with
  | .int k m, .int k' n => intBin op k m k' n
  | .sx k m, .int k' n => sxBin op k m k' (.lit n)
  | .int k m, .sx k' n => sxBin op k (.lit m) k' n
  | .sx k m, .sx k' n => sxBin op k m k' n
  | .str l, .str l' => strBin op l l'
  | .sstr x, .sstr y => sstrBin op x y
  | .sstr x, .str l => sstrBin op x (l.map byteAV)
  | .str l, .sstr y => sstrBin op (l.map byteAV) y
  | .ptr _ _, .lit (.pointer none) => match isPtrT P xt with
    | true => nilCmp op
    | false => none
  | .lit (.pointer none), .ptr _ _ => match isPtrT P xt with
    | true => nilCmp op
    | false => none
  | .sl _ _ _ _ _, .lit (.slice none _ _) => match isSliceT P xt with
    | true => nilCmp op
    | false => none
  | .lit (.slice none _ _), .sl _ _ _ _ _ => match isSliceT P xt with
    | true => nilCmp op
    | false => none
  | .map _, .lit (.map none) => match isMapT P xt with
    | true => nilCmp op
    | false => none
  | .func _ _ _, .lit .nilFunc => match isFuncT P xt with
    | true => nilCmp op
    | false => none
  | .agg xs, .agg ys => match P.eqGuardType P.depth xt with
    | true => none
    | false => match eqT P 10000 xt (.agg xs) (.agg ys) with
      | some r => match op with
        | .eql => some (.bool r)
        | .neq => some (.bool (!r))
        | _ => none
      | none => none
  | _, _ => pureA P E o

/-- An index that is a number from 0 on. -/
def natOf : AV → Option Nat
  | .int _ (.ofNat n) => some n
  | _ => none

def optNat (E : Operand → Option AV) (d : Nat) : Option Operand → Option Nat
  | none => some d
  | some x => match E x with
    | some a => natOf a
    | none => none

/-- 'x[lo:hi:max]' of a slice: none: not told here; 'some none': its place hangs on what is not known. -/
def sliceA (b off len cap : Nat) (sp : Bool) (size : Nat) (l h : Nat) (m : Option Nat) : Option (Option AV) :=
  match m with
  | some m => match Nat.ble m cap with
    | true => match Nat.ble h m with
      | true => match Nat.ble l h with
        | true => match Nat.beq m l with
          | true => some (some (.sl b off (Nat.sub h l) (Nat.sub m l) false))
          | false => some (some (.sl b (Nat.add off (Nat.mul l size)) (Nat.sub h l) (Nat.sub m l) false))
        | false => none
      | false => none
    | false => none
  | none => match Nat.ble h cap with
    | true => match Nat.ble l h with
      | true => match Nat.beq l 0 with
        | true => some (some (.sl b off h cap sp))
        | false => match Nat.beq cap l with
          | false => some (some (.sl b (Nat.add off (Nat.mul l size)) (Nat.sub h l) (Nat.sub cap l) sp))
          | true => match sp with
            | false => some (some (.sl b off (Nat.sub h l) 0 false))
            | true => some none
      | false => none
    | false => none

def bytesA : List AV → Option (List Nat)
  | [] => some []
  | .int .u8 (.ofNat n) :: l => match bytesA l with
    | some r => some (n :: r)
    | none => none
  | _ => none

/-- The cells of a block from a place on. -/
def rangeA (σ : Heap) (b off n : Nat) : Option (List AV) :=
  match σ.get b with
  | some (.cells m t dz _ _) => match Nat.ble (Nat.add off n) m with
    | true => cgets t dz off n
    | false => none
  | _ => none

def isU8 (P : Program) (e : TypeId) : Bool := match P.underlying e with
  | some (.int .u8) => true
  | _ => false

def fillA (place : Nat → Option (Nat × Nat)) (cells : List AV) : List (Nat × AV) → Option (List AV)
  | [] => some cells
  | (i, v) :: rest => match place i with
    | none => none
    | some (off, size) => match Nat.beq (cellsA v).length size with
      | false => none
      | true => match Nat.ble (Nat.add off size) cells.length with
        | false => none
        | true => match (cellsA v).all scalar with
          | false => none
          | true => fillA place (setMany cells off (cellsA v)) rest
  where
  setMany (cells : List AV) (off : Nat) : List AV → List AV
    | [] => cells
    | x :: l => setMany (cells.set off x) (Nat.succ off) l

def partsA (E : Operand → Option AV) : List (Nat × Operand) → Option (List (Nat × AV))
  | [] => some []
  | (i, x) :: l => match E x with
    | some a => match partsA E l with
      | some r => some ((i, a) :: r)
      | none => none
    | none => none

/-- Where a struct's fields stand. -/
def placesA (P : Program) : List Field → Option (List (Nat × Nat))
  | [] => some []
  | f :: fs => match szOf P f.type with
    | some s => match placesA P fs with
      | some r => some ((f.offset, s) :: r)
      | none => none
    | none => none

def buildA (P : Program) (t : TypeId) (parts : List (Nat × AV)) : Option AV :=
  match zeroL P t with
  | none => none
  | some z => match P.underlying t with
    | some (.struct fields) => match placesA P fields.toList with
      | some ps => match fillA (nth ps) z parts with
        | some cs => some (.agg cs)
        | none => none
      | none => none
    | some (.array _ elem) => match szOf P elem with
      | some s => match fillA (fun i => some (Nat.mul i s, s)) z parts with
        | some cs => some (.agg cs)
        | none => none
      | none => none
    | _ => none

/-- What two places known by their bounds have to do with each other. -/
def plIv (off s : Nat) (e : SE) : Option (Int × Int) := match e.iv with
  | some (.ofNat lo, .ofNat hi) => some (.ofNat (Nat.add off (Nat.mul lo s)), .ofNat (Nat.add off (Nat.mul hi s)))
  | _ => none

def relIv (off s : Nat) (e : SE) (off' s' : Nat) (e' : SE) : Option Bool := match plIv off s e with
  | some (la, ha) => match plIv off' s' e' with
    | some (lb, hb) => cmpI .eql la ha lb hb
    | none => none
  | none => none

def relP (off s : Nat) (e : SE) (off' s' : Nat) (e' : SE) : Option Bool := match Nat.beq off off' with
  | true => match Nat.beq s s' with
    | true => match Nat.beq s 0 with
      | true => some true
      | false => match relE e e' with
        | some b => some b
        | none => none
    | false => relIv off s e off' s' e'
  | false => relIv off s e off' s' e'

/-- What was written last at a place. 'some none': nothing was. -/
def wsGet (off s : Nat) (e : SE) : List SW → Option (Option AV)
  | [] => some none
  | x :: ws => match relP x.off x.s x.e off s e with
    | some true => some (some x.v)
    | some false => wsGet off s e ws
    | none => none

def sameInt : AV → AV → Bool
  | .int k a, .int k' b => match sameK k k' with
    | true => eqI a b
    | false => false
  | _, _ => false

/-- Are so many cells, s apart, all the same number? -/
def uniA (t : Tr AV) (dz : Option AV) (x0 : AV) (s : Nat) : Nat → Nat → Bool
  | 0, _ => true
  | n + 1, i => match cget t dz i with
    | some x => match sameInt x x0 with
      | true => uniA t dz x0 s n (Nat.add i s)
      | false => false
    | none => false

def uniR (n : Nat) (t : Tr AV) (dz : Option AV) (off s : Nat) (e : SE) : Option AV := match e.iv with
  | some (.ofNat lo, .ofNat hi) => match Nat.ble (Nat.succ (Nat.add off (Nat.mul hi s))) n with
    | true => match cget t dz (Nat.add off (Nat.mul lo s)) with
      | some x0 => match uniA t dz x0 s (Nat.succ (Nat.sub hi lo)) (Nat.add off (Nat.mul lo s)) with
        | true => some x0
        | false => none
      | none => none
    | false => none
  | _ => none

/-- Does a place known by its bounds lie below n? -/
def inP (n off s : Nat) (e : SE) : Bool := match e.iv with
  | some (.ofNat _, .ofNat hi) => Nat.ble (Nat.succ (Nat.add off (Nat.mul hi s))) n
  | _ => false

def loadS (P : Program) (σ : Heap) (ty : TypeId) (b off s : Nat) (e : SE) : Option AV :=
  match aggT P ty with
  | some false => match σ.get b with
    | some (.cells n t dz _ _) => uniR n t dz off s e
    | some (.ov n t dz _ _ ws) => match wsGet off s e ws with
      | some (some v) => match inP n off s e with
        | true => some v
        | false => none
      | some none => uniR n t dz off s e
      | none => none
    | _ => none
  | _ => none

/-- A write at a place known by its bounds. -/
def storeS (P : Program) (σ : Heap) (ty : TypeId) (b off s : Nat) (e : SE) (x : AV) : Option Heap :=
  match szOf P ty with
  | some 1 => match cellsA x with
    | [y] => match scalar y with
      | true => match σ.get b with
        | some (.cells n t dz el sp) => match inP n off s e with
          | true => some (σ.set b (.ov n t dz el sp [⟨off, s, e, y⟩]))
          | false => none
        | some (.ov n t dz el sp ws) => match inP n off s e with
          | true => some (σ.set b (.ov n t dz el sp (⟨off, s, e, y⟩ :: ws)))
          | false => none
        | _ => none
      | false => none
    | _ => none
  | _ => none

def v_pick (P : Program) (E : Operand → Option AV) (σ : Heap) (o : Oper) (c : Operand) (a : Operand) (b : Operand) : Option AV := match E c with
  | some (.bool true) => E a
  | some (.bool false) => E b
  | _ => none

def v_load (P : Program) (E : Operand → Option AV) (σ : Heap) (o : Oper) (t : TypeId) (a : Operand) : Option AV := match E a with
  | some (.ptr b off) => loadA P σ t b off
  | some (.spt b off s e) => loadS P σ t b off s e
  | _ => none

def v_nilCheck (P : Program) (E : Operand → Option AV) (σ : Heap) (o : Oper) (x : Operand) : Option AV := match E x with
  | some (.ptr b off) => some (.ptr b off)
  | some (.func (.func f) xs ys) => some (.func (.func f) xs ys)
  | _ => none

def v_binOp (P : Program) (E : Operand → Option AV) (σ : Heap) (o : Oper) (op : BinOp) (xt : TypeId) (x : Operand) (y : Operand) (_x4 : TypeId) : Option AV := match E x with
  | some a => match E y with
    | some b => binA P E o op xt a b
    | none => none
  | none => none

def v_unOp (P : Program) (E : Operand → Option AV) (σ : Heap) (o : Oper) (op : UnOp) (_x1 : TypeId) (x : Operand) : Option AV := match op, E x with
  | .not, some (.bool b) => some (.bool (!b))
  | _, _ => pureA P E o

def v_convert (P : Program) (E : Operand → Option AV) (σ : Heap) (o : Oper) (src : TypeId) (dst : TypeId) (x : Operand) : Option AV := match E x with
  | some (.int _ n) => match P.underlying src with
    | some _ => match P.underlying dst with
      | some (.int k) => some (.int k (wrapF k n))
      | _ => pureA P E o
    | none => none
  | some (.sx _ e) => match P.underlying src with
    | some _ => match P.underlying dst with
      | some (.int k) => some (sxMk k (convE k e))
      | _ => none
    | none => none
  | some (.str l) => match P.underlying src with
    | some _ => match P.underlying dst with
      | some .string => some (.str l)
      | _ => none
    | none => none
  | some (.sl b off len cap sp) => match P.underlying src with
    | some (.slice e) => match P.underlying dst with
      | some (.slice e') => match Nat.beq src dst with
        | true => match isU8 P e' with
          | true => match σ.get b with
            | some (.cells _ _ _ _ _) => some (.sl b off len cap sp)
            | _ => none
          | false => none
        | false => none
      | some .string => match isU8 P e with
        | true => match rangeA σ b off len with
          | some cs => match bytesA cs with
            | some l => some (.str l)
            | none => match cs.all isByte with
              | true => some (.sstr cs)
              | false => none
          | none => none
        | false => none
      | _ => none
    | _ => none
  | some _ => pureA P E o
  | none => none

def v_makeInterface (P : Program) (E : Operand → Option AV) (σ : Heap) (o : Oper) (t : TypeId) (x : Operand) : Option AV := match P.underlying t with
  | some (.interface _) => none
  | some _ => match E x with
    | some a => some (.iface t a)
    | none => none
  | none => none

def v_makeFunc (P : Program) (E : Operand → Option AV) (σ : Heap) (o : Oper) (fn : Fn) (xs : Array Operand) (ys : Array Operand) : Option AV := match evos E xs.toList with
  | some as => match evos E ys.toList with
    | some bs => some (.func fn as bs)
    | none => none
  | none => none

def v_fieldAddr (P : Program) (E : Operand → Option AV) (σ : Heap) (o : Oper) (s : TypeId) (x : Operand) (i : Nat) : Option AV := match E x with
  | some (.ptr b off) => match P.underlying s with
    | some (.struct fields) => match nth fields.toList i with
      | some f => match szOf P f.type with
        | some n => match Nat.beq n 0 with
          | true => none
          | false => some (.ptr b (Nat.add off f.offset))
        | none => none
      | none => none
    | _ => none
  | _ => none

def v_field (P : Program) (E : Operand → Option AV) (σ : Heap) (o : Oper) (s : TypeId) (x : Operand) (i : Nat) : Option AV := match E x with
  | some (.agg cs) => match P.underlying s with
    | some (.struct fields) => match nth fields.toList i with
      | some f => partA P f.type cs f.offset
      | none => none
    | _ => none
  | _ => none

def v_indexAddr (P : Program) (E : Operand → Option AV) (σ : Heap) (o : Oper) (t : TypeId) (x : Operand) (ix : Operand) : Option AV := match E x with
  | some (.sl b off len _ _) => match P.underlying t with
    | some (.slice elem) => match E ix with
      | some (.int _ (.ofNat i)) => match Nat.ble (Nat.succ i) len with
        | true => match szOf P elem with
          | some s => some (.ptr b (Nat.add off (Nat.mul i s)))
          | none => none
        | false => none
      | some (.sx _ e) => match e.iv with
        | some (.ofNat lo, .ofNat hi) => match Nat.ble (Nat.succ hi) len with
          | true => match szOf P elem with
            | some s => some (.spt b off s e)
            | none => none
          | false => none
        | _ => none
      | _ => none
    | _ => none
  | some (.ptr b off) => match P.underlying t with
    | some (.array len elem) => match E ix with
      | some (.int _ (.ofNat i)) => match Nat.ble (Nat.succ i) len with
        | true => match szOf P elem with
          | some s => some (.ptr b (Nat.add off (Nat.mul i s)))
          | none => none
        | false => none
      | _ => none
    | _ => none
  | _ => none

def v_index (P : Program) (E : Operand → Option AV) (σ : Heap) (o : Oper) (t : TypeId) (x : Operand) (ix : Operand) : Option AV := match E x with
  | some (.str l) => match P.underlying t with
    | some .string => match E ix with
      | some (.int _ (.ofNat i)) => match nth l i with
        | some n => some (.int .u8 (.ofNat (Nat.mod n 256)))
        | none => none
      | _ => none
    | _ => none
  | some (.agg cs) => match P.underlying t with
    | some (.array len elem) => match E ix with
      | some (.int _ (.ofNat i)) => match Nat.ble (Nat.succ i) len with
        | true => match szOf P elem with
          | some s => partA P elem cs (Nat.mul i s)
          | none => none
        | false => none
      | _ => none
    | _ => none
  | _ => none

def strOf (l : List AV) : AV := match bytesA l with
  | some ns => .str ns
  | none => .sstr l

def v_slice (P : Program) (E : Operand → Option AV) (σ : Heap) (o : Oper) (t : TypeId) (x : Operand) (lo : Option Operand) (hi : Option Operand) (mx : Option Operand) : Option AV := match E x with
  | some (.sl b off len cap sp) => match P.underlying t with
    | some (.slice elem) => match szOf P elem with
      | some s => match optNat E 0 lo with
        | some l => match optNat E len hi with
          | some h => match mx with
            | none => match sliceA b off len cap sp s l h none with
              | some r => r
              | none => none
            | some y => match optNat E 0 (some y) with
              | some m => match hi with
                | some _ => match sliceA b off len cap sp s l h (some m) with
                  | some r => r
                  | none => none
                | none => none
              | none => none
          | none => none
        | none => none
      | none => none
    | _ => none
  | some (.str s) => match P.underlying t with
    | some .string => match mx with
      | none => match optNat E 0 lo with
        | some l => match optNat E s.length hi with
          | some h => match Nat.ble h s.length with
            | true => match Nat.ble l h with
              | true => some (.str ((s.drop l).take (Nat.sub h l)))
              | false => none
            | false => none
          | none => none
        | none => none
      | some _ => none
    | _ => none
  | some (.sstr s) => match P.underlying t with
    | some .string => match mx with
      | none => match optNat E 0 lo with
        | some l => match optNat E s.length hi with
          | some h => match Nat.ble h s.length with
            | true => match Nat.ble l h with
              | true => some (strOf ((s.drop l).take (Nat.sub h l)))
              | false => none
            | false => none
          | none => none
        | none => none
      | some _ => none
    | _ => none
  | some (.ptr b off) => match P.underlying t with
    | some (.array n elem) => match szOf P elem with
      | some s => match mx with
        | none => match optNat E 0 lo with
          | some l => match optNat E n hi with
            | some h => match sliceA b off n n false s l h none with
              | some r => r
              | none => none
            | none => none
          | none => none
        | some _ => none
      | none => none
    | _ => none
  | some (.lit _) => pureA P E o
  | _ => none

def v_build (P : Program) (E : Operand → Option AV) (σ : Heap) (o : Oper) (t : TypeId) (parts : Array (Nat × Operand)) : Option AV := match partsA E parts.toList with
  | some ps => buildA P t ps
  | none => none

def v_extract (P : Program) (E : Operand → Option AV) (σ : Heap) (o : Oper) (x : Operand) (i : Nat) : Option AV := match E x with
  | some (.tup l) => nth l i
  | _ => none

def v_call (P : Program) (E : Operand → Option AV) (σ : Heap) (o : Oper) (c : Call) : Option AV := match c.callee with
  | .builtin .len => match c.args.toList with
    | [x] => match E x with
      | some (.sl _ _ len _ _) => match c.argTypes.toList with
        | [t] => match isSliceT P t with
          | true => some (.int .i64 (.ofNat len))
          | false => none
        | _ => none
      | some (.str l) => match c.argTypes.toList with
        | [t] => match P.underlying t with
          | some .string => some (.int .i64 (.ofNat l.length))
          | _ => none
        | _ => none
      | some (.sstr l) => match c.argTypes.toList with
        | [t] => match P.underlying t with
          | some .string => some (.int .i64 (.ofNat l.length))
          | _ => none
        | _ => none
      | some _ => pureA P E o
      | none => none
    | _ => none
  | .builtin .cap => match c.args.toList with
    | [x] => match E x with
      | some (.sl _ _ _ cap false) => match c.argTypes.toList with
        | [t] => match isSliceT P t with
          | true => some (.int .i64 (.ofNat cap))
          | false => none
        | _ => none
      | _ => none
    | _ => none
  | .builtin .min => pureA P E o
  | .builtin .max => pureA P E o
  | .builtin .real => pureA P E o
  | .builtin .imag => pureA P E o
  | .builtin .complex => pureA P E o
  | _ => none

def keyEq : AV → AV → Option Bool
  | .int k a, .int k' b => match sameK k k' with
    | true => some (eqI a b)
    | false => none
  | .str l, .str m => some (strEq l m)
  | _, _ => none

/-- The place of a key among a map's entries. -/
def findA (k : AV) : Nat → List (AV × AV × Nat) → Option (Option (Nat × AV))
  | _, [] => some none
  | i, (k', v, _) :: l => match keyEq k' k with
    | some true => some (some (i, v))
    | some false => findA k (Nat.succ i) l
    | none => none

def setV (k v : AV) : Nat → List (AV × AV × Nat) → List (AV × AV × Nat)
  | _, [] => []
  | 0, (_, _, b) :: l => (k, v, b) :: l
  | n + 1, e :: l => e :: setV k v n l

/-- Is a value a key that a map of this type may have? -/
def keyFits (P : Program) (t : TypeId) (k : AV) : Bool := match P.underlying t with
  | some (.map key _) => match P.underlying key with
    | some (.int k0) => match k with
      | .int kk _ => sameK kk k0
      | _ => false
    | some .string => match k with
      | .str _ => true
      | _ => false
    | _ => false
  | _ => false

def pairV (ok : Bool) (v : AV) : Bool → AV
  | true => .tup [v, .bool ok]
  | false => v

def zeroA (P : Program) (t : TypeId) : Option AV := match P.info? t with
  | some i => match i.zero with
    | some z => ofValue z
    | none => none
  | none => none

def mapEs (σ : Heap) : AV → Option (List (AV × AV × Nat))
  | .lit (.map none) => some []
  | .map b => match σ.get b with
    | some (.map es _) => some es
    | _ => none
  | _ => none

def v_lookup (P : Program) (E : Operand → Option AV) (σ : Heap) (t : TypeId) (m k : Operand) (ok : Bool) : Option AV := match E m with
  | some m => match mapEs σ m with
    | some es => match E k with
      | some k => match keyFits P t k with
        | true => match findA k 0 es with
          | some (some (_, v)) => some (pairV true v ok)
          | some none => match P.underlying t with
            | some (.map _ elem) => match zeroA P elem with
              | some z => some (pairV false z ok)
              | none => none
            | _ => none
          | none => none
        | false => none
      | none => none
    | none => none
  | none => none

/-- What an operation gives that leaves the world alone. -/
def aV (P : Program) (E : Operand → Option AV) (σ : Heap) (o : Oper) : Option AV :=
  match o.op with
  | .move x => E x
  | .assign x => E x
  | .pick a0 a1 a2 => v_pick P E σ o a0 a1 a2
  | .load a0 a1 => v_load P E σ o a0 a1
  | .nilCheck a0 => v_nilCheck P E σ o a0
  | .binOp a0 a1 a2 a3 a4 => v_binOp P E σ o a0 a1 a2 a3 a4
  | .unOp a0 a1 a2 => v_unOp P E σ o a0 a1 a2
  | .convert a0 a1 a2 => v_convert P E σ o a0 a1 a2
  | .makeInterface a0 a1 => v_makeInterface P E σ o a0 a1
  | .makeFunc a0 a1 a2 => v_makeFunc P E σ o a0 a1 a2
  | .fieldAddr a0 a1 a2 => v_fieldAddr P E σ o a0 a1 a2
  | .field a0 a1 a2 => v_field P E σ o a0 a1 a2
  | .indexAddr a0 a1 a2 => v_indexAddr P E σ o a0 a1 a2
  | .index a0 a1 a2 => v_index P E σ o a0 a1 a2
  | .slice a0 a1 a2 a3 a4 => v_slice P E σ o a0 a1 a2 a3 a4
  | .build a0 a1 => v_build P E σ o a0 a1
  | .extract a0 a1 => v_extract P E σ o a0 a1
  | .call a0 => v_call P E σ o a0
  | .lookup a0 a1 a2 a3 => v_lookup P E σ a0 a1 a2 a3
  | _ => none

def mkCells (l : List AV) (e : TypeId) (sp : Bool) : ABlk := .cells l.length (Tr.ofList l 0 .leaf) none e sp

def repeatL (z : List AV) : Nat → List AV
  | 0 => []
  | n + 1 => z ++ repeatL z n

def n_alloc (P : Program) (E : Operand → Option AV) (e : TypeId) : Option (Option ABlk × (Nat → AV)) := match zeroL P e with
  | some z => some (some (mkCells z e false), fun n => .ptr n 0)
  | none => none

def n_box (P : Program) (E : Operand → Option AV) (e : TypeId) (x : Operand) : Option (Option ABlk × (Nat → AV)) := match E x with
  | some a => match (cellsA a).all scalar with
    | true => some (some (mkCells (cellsA a) e false), fun n => .ptr n 0)
    | false => none
  | none => none

def n_buildSlice (P : Program) (E : Operand → Option AV) (t : TypeId) (len : Nat) (parts : Array (Nat × Operand)) : Option (Option ABlk × (Nat → AV)) := match P.underlying t with
  | some (.slice elem) => match szOf P elem with
    | some s => match Nat.ble (Nat.mul len s) 16777216 with
      | true => match zeroL P elem with
        | some z => match Nat.beq z.length s with
          | true => match Nat.beq s 0 with
            | true => none
            | false => match partsA E parts.toList with
              | some ps => match fillA (fun i => some (Nat.mul i s, s)) (repeatL z len) ps with
                | some cs => some (some (mkCells cs elem false), fun n => .sl n 0 len len false)
                | none => none
              | none => none
          | false => none
        | none => none
      | false => none
    | none => none
  | _ => none

def n_makeMap (P : Program) (E : Operand → Option AV) (t : TypeId) (r : Option Operand) : Option (Option ABlk × (Nat → AV)) := match r with
  | none => some (some (.map [] 0), fun n => .map n)
  | some x => match P.underlying t with
    | some (.map _ _) => match E x with
      | some (.int _ _) => some (some (.map [] 0), fun n => .map n)
      | _ => none
    | _ => none

def n_makeSlice (P : Program) (E : Operand → Option AV) (t : TypeId) (l : Operand) (c : Operand) : Option (Option ABlk × (Nat → AV)) := match P.underlying t with
  | some (.slice elem) => match E l with
    | some (.int _ (.ofNat len)) => match E c with
      | some (.int _ (.ofNat cap)) => match Nat.ble len cap with
        | true => match P.info? elem with
          | some i => match Nat.ble (Nat.mul i.bytes cap) 140737488355328 with
            | true => match Nat.ble cap 9223372036854775807 with
              | true => match zeroL P elem with
                | some [z] => match Nat.beq i.size 1 with
                  | true => some (some (.cells cap .leaf (some z) elem false), fun n => .sl n 0 len cap false)
                  | false => none
                | some z => match Nat.beq z.length i.size with
                  | true => match Nat.beq i.size 0 with
                    | true => none
                    | false => some (some (mkCells (repeatL z cap) elem false), fun n => .sl n 0 len cap false)
                  | false => none
                | none => none
              | false => none
            | false => none
          | none => none
        | false => none
      | _ => none
    | _ => none
  | _ => none

def n_slice (P : Program) (E : Operand → Option AV) (t : TypeId) (x : Operand) (lo : Option Operand) (hi : Option Operand) (mx : Option Operand) : Option (Option ABlk × (Nat → AV)) := match mx with
  | some _ => none
  | none => match E x with
    | some (.sl b off len cap true) => match P.underlying t with
      | some (.slice elem) => match szOf P elem with
        | some s => match optNat E 0 lo with
          | some l => match optNat E len hi with
            | some h => match sliceA b off len cap true s l h none with
              | some none => some (none, fun n => .sl n 0 0 0 true)
              | _ => none
            | none => none
          | none => none
        | none => none
      | _ => none
    | _ => none

def n_convert (P : Program) (E : Operand → Option AV) (src : TypeId) (dst : TypeId) (x : Operand) : Option (Option ABlk × (Nat → AV)) := match E x with
  | some (.str l) => match P.underlying src with
    | some .string => match P.underlying dst with
      | some (.slice e) => match isU8 P e with
        | true => match szOf P e with
          | some 1 => some (some (mkCells (l.map fun n => .int .u8 (.ofNat (Nat.mod n 256))) e true), fun n => .sl n 0 l.length l.length true)
          | _ => none
        | false => none
      | _ => none
    | _ => none
  | _ => none

/-- What an operation gives that makes a block (or a name) and else leaves the world alone. -/
def aN (P : Program) (E : Operand → Option AV) (o : Oper) : Option (Option ABlk × (Nat → AV)) :=
  match o.op with
  | .alloc a0 => n_alloc P E a0
  | .box a0 a1 => n_box P E a0 a1
  | .buildSlice a0 a1 a2 => n_buildSlice P E a0 a1 a2
  | .makeMap a0 a1 => n_makeMap P E a0 a1
  | .makeSlice a0 a1 a2 => n_makeSlice P E a0 a1 a2
  | .slice a0 a1 a2 a3 a4 => n_slice P E a0 a1 a2 a3 a4
  | .convert a0 a1 a2 => n_convert P E a0 a1 a2
  | _ => none

/-- What is appended, as cells. -/
def newCellsA (P : Program) (σ : Heap) (size : Nat) : AV → Option (Nat × List AV)
  | .sl b off len _ _ => match rangeA σ b off (Nat.mul len size) with
    | some l => some (len, l)
    | none => none
  | .lit (.slice none n _) => match Nat.beq n 0 with
    | true => some (0, [])
    | false => none
  | .str l => match Nat.beq size 1 with
    | true => some (l.length, l.map fun n => .int .u8 (.ofNat (Nat.mod n 256)))
    | false => none
  | _ => none

/-- The general growth: the elder cells and the new ones in a block of their own. -/
def growA (σ : Heap) (old new : List AV) (need : Nat) (e : TypeId) : AV × Heap :=
  (.sl σ.next 0 need need true, σ.push (some (mkCells (old ++ new) e true)))

/-- The same, with the elder cells taken as they lie. -/
def growT (σ : Heap) (t : Tr AV) (dz : Option AV) (olds : Nat) (new : List AV) (need : Nat) (e : TypeId) : AV × Heap :=
  (.sl σ.next 0 need need true, σ.push (some (.cells (Nat.add olds new.length) (Tr.ofList new olds t) dz e true)))

def killIf (σ : Heap) (b : Nat) : Bool → Heap
  | true => σ.kill b
  | false => σ

/-- A slice whose room is told, or that lies at its block's end. -/
def okSp (m off cap size : Nat) (e elem : TypeId) : Bool → Bool
  | false => true
  | true => match Nat.beq m (Nat.add off (Nat.mul cap size)) with
    | true => Nat.beq e elem
    | false => false

def growFrom (σ : Heap) (b off len cap : Nat) (sp : Bool) (size n : Nat) (new : List AV) (elem : TypeId) : Option (AV × Heap) :=
  match σ.get b with
  | some (.cells m t dz e _) => match Nat.ble (Nat.add off (Nat.mul len size)) m with
    | false => none
    | true => match okSp m off cap size e elem sp with
      | false => none
      | true => match Nat.beq off 0 with
        | true => some (growT (killIf σ b sp) t dz (Nat.mul len size) new (Nat.add len n) elem)
        | false => match cgets t dz off (Nat.mul len size) with
          | some old => some (growA (killIf σ b sp) old new (Nat.add len n) elem)
          | none => none
  | _ => none

def appendA (P : Program) (σ : Heap) (elem : TypeId) (s : AV) (n : Nat) (new : List AV) : Option (AV × Heap) :=
  match P.info? elem with
  | none => none
  | some i => match zeroL P elem with
    | none => none
    | some z => match Nat.beq z.length i.size with
      | false => none
      | true => match new.all scalar with
        | false => none
        | true => match s with
          | .lit (.slice none len cap) => match Nat.beq len 0 with
            | false => none
            | true => match Nat.ble n cap with
              | true => match Nat.beq n 0 with
                | true => some (.lit (.slice none 0 cap), σ)
                | false => none
              | false => match Nat.ble (Nat.mul (Nat.mul 2 n) i.bytes) 281474976710656 with
                | true => match Nat.ble n 4611686018427387904 with
                  | true => some (growA σ [] new n elem)
                  | false => none
                | false => none
          | .sl b off len cap sp =>
            match Nat.ble (Nat.add len n) cap with
            | true => match storeCellsA σ b (Nat.add off (Nat.mul len i.size)) new with
              | some σ' => some (.sl b off (Nat.add len n) cap sp, σ')
              | none => none
            | false => match Nat.ble (Nat.mul (Nat.mul 2 (Nat.add len n)) i.bytes) 281474976710656 with
              | false => none
              | true => match Nat.ble (Nat.add len n) 4611686018427387904 with
                | false => none
                | true => growFrom σ b off len cap sp i.size n new elem
          | _ => none

def copyA (P : Program) (σ : Heap) (elem : TypeId) (d s : AV) : Option (AV × Heap) :=
  match szOf P elem with
  | none => none
  | some size => match d with
    | .sl b off len _ _ => match s with
      | .sl b' off' len' _ _ => match rangeA σ b' off' (Nat.mul (Nat.min len' len) size) with
        | some l => match storeCellsA σ b off l with
          | some σ' => some (.int .i64 (.ofNat (Nat.min len' len)), σ')
          | none => none
        | none => none
      | .lit (.slice none n _) => match Nat.beq n 0 with
        | true => some (.int .i64 (.ofNat 0), σ)
        | false => none
      | _ => none
    | .lit (.slice none n _) => match Nat.beq n 0, s with
      | true, .sl _ _ _ _ _ => some (.int .i64 (.ofNat 0), σ)
      | true, .lit (.slice none _ _) => some (.int .i64 (.ofNat 0), σ)
      | _, _ => none
    | _ => none

abbrev CallF := FuncId → List AV → Heap → Option (AV × Heap)

def calleeA (E : Operand → Option AV) (c : Call) : Option (FuncId × List AV) := match c.callee with
  | .value f => match E f with
    | some (.func (.func g) xs ys) => match evos E c.args.toList with
      | some as => some (g, xs ++ as ++ ys)
      | none => none
    | _ => none
  | _ => none

def e_store (P : Program) (F : CallF) (E : Operand → Option AV) (σ : Heap) (t : TypeId) (a : Operand) (x : Operand) : Option (AV × Heap) := match E a with
  | some (.ptr b off) => match E x with
    | some v => match storeA P σ t b off v with
      | some σ' => some (.tup [], σ')
      | none => none
    | none => none
  | some (.spt b off s e) => match E x with
    | some v => match storeS P σ t b off s e v with
      | some σ' => some (.tup [], σ')
      | none => none
    | none => none
  | _ => none

def e_call (P : Program) (F : CallF) (E : Operand → Option AV) (σ : Heap) (c : Call) : Option (AV × Heap) := match c.callee with
  | .builtin .append => match c.args.toList with
    | [s, x] => match c.argTypes.toList with
      | [st, xt] => match P.underlying st with
        | some (.slice elem) => match P.underlying xt with
          | some (.int _) => match E x with
            | some (.int k (.ofNat n)) => match E s with
              | some s => match zeroL P elem with
                | some z => match Nat.ble n 1048576 with
                  | true => match P.info? elem with
                    | some i => match Nat.ble (Nat.mul n i.bytes) 281474976710656 with
                      | true => appendA P σ elem s n (repeatL z n)
                      | false => none
                    | none => none
                  | false => none
                | none => none
              | none => none
            | _ => none
          | some _ => match E s with
            | some s => match E x with
              | some x => match szOf P elem with
                | some size => match newCellsA P σ size x with
                  | some (n, new) => appendA P σ elem s n new
                  | none => none
                | none => none
              | none => none
            | none => none
          | none => none
        | _ => none
      | _ => none
    | _ => none
  | .builtin .copy => match c.args.toList with
    | [d, s] => match c.argTypes.toList with
      | dt :: _ => match P.underlying dt with
        | some (.slice elem) => match E d with
          | some d => match E s with
            | some s => copyA P σ elem d s
            | none => none
          | none => none
        | _ => none
      | _ => none
    | _ => none
  | .builtin _ => none
  | _ => match calleeA E c with
    | some (g, as) => F g as σ
    | none => none

def e_mapUpdate (P : Program) (E : Operand → Option AV) (σ : Heap) (t : TypeId) (m k x : Operand) : Option (AV × Heap) := match E m with
  | some (.map b) => match E k with
    | some k => match keyFits P t k with
      | true => match E x with
        | some v => match σ.get b with
          | some (.map es clock) => match findA k 0 es with
            | some (some (i, _)) => some (.tup [], σ.set b (.map (setV k v i es) clock))
            | some none => some (.tup [], σ.set b (.map (es ++ [(k, v, clock)]) (Nat.succ clock)))
            | none => none
          | _ => none
        | none => none
      | false => none
    | none => none
  | _ => none

/-- What an operation does that may turn what is there. -/
def aE (P : Program) (F : CallF) (E : Operand → Option AV) (σ : Heap) (o : Oper) : Option (AV × Heap) :=
  match o.op with
  | .store a0 a1 a2 => e_store P F E σ a0 a1 a2
  | .call a0 => e_call P F E σ a0
  | .mapUpdate a0 a1 a2 a3 => e_mapUpdate P E σ a0 a1 a2 a3
  | _ => none

/-- Is an operation one that may turn what is there? -/
def isE (o : Oper) : Bool := match o.op with
  | .store _ _ _ => true
  | .mapUpdate _ _ _ _ => true
  | .insert _ _ _ _ => true
  | .mapEntry _ _ _ => true
  | .entryStore _ _ _ _ => true
  | .next _ _ => true
  | .call c => match c.callee with
    | .builtin .len => false
    | .builtin .cap => false
    | .builtin .min => false
    | .builtin .max => false
    | .builtin .real => false
    | .builtin .imag => false
    | .builtin .complex => false
    | _ => true
  | _ => false

def liftV (σ : Heap) : Option AV → Option (AV × Heap)
  | some v => some (v, σ)
  | none => none

def liftN (σ : Heap) : Option (Option ABlk × (Nat → AV)) → Option (AV × Heap)
  | some (B, mk) => some (mk σ.next, σ.push B)
  | none => none

/-- A value, or else a new name. -/
def liftVN (σ : Heap) (n : Option (Option ABlk × (Nat → AV))) : Option AV → Option (AV × Heap)
  | some v => some (v, σ)
  | none => liftN σ n

def callOp (P : Program) (F : CallF) (E : Operand → Option AV) (σ : Heap) (o : Oper) (c : Call) : Option (AV × Heap) :=
  match isE o with
  | true => e_call P F E σ c
  | false => liftV σ (v_call P E σ o c)

/-- What any operation gives. -/
def anyA (P : Program) (F : CallF) (E : Operand → Option AV) (σ : Heap) (o : Oper) : Option (AV × Heap) :=
  match o.op with
  | .move x => liftV σ (E x)
  | .assign x => liftV σ (E x)
  | .pick a b c => liftV σ (v_pick P E σ o a b c)
  | .load a b => liftV σ (v_load P E σ o a b)
  | .nilCheck a => liftV σ (v_nilCheck P E σ o a)
  | .binOp a b c d e => liftV σ (v_binOp P E σ o a b c d e)
  | .unOp a b c => liftV σ (v_unOp P E σ o a b c)
  | .convert a b c => liftVN σ (n_convert P E a b c) (v_convert P E σ o a b c)
  | .makeInterface a b => liftV σ (v_makeInterface P E σ o a b)
  | .makeFunc a b c => liftV σ (v_makeFunc P E σ o a b c)
  | .fieldAddr a b c => liftV σ (v_fieldAddr P E σ o a b c)
  | .field a b c => liftV σ (v_field P E σ o a b c)
  | .indexAddr a b c => liftV σ (v_indexAddr P E σ o a b c)
  | .index a b c => liftV σ (v_index P E σ o a b c)
  | .slice a b c d e => liftVN σ (n_slice P E a b c d e) (v_slice P E σ o a b c d e)
  | .build a b => liftV σ (v_build P E σ o a b)
  | .extract a b => liftV σ (v_extract P E σ o a b)
  | .alloc a => liftN σ (n_alloc P E a)
  | .box a b => liftN σ (n_box P E a b)
  | .buildSlice a b c => liftN σ (n_buildSlice P E a b c)
  | .makeMap a b => liftN σ (n_makeMap P E a b)
  | .makeSlice a b c => liftN σ (n_makeSlice P E a b c)
  | .store a b c => e_store P F E σ a b c
  | .call c => callOp P F E σ o c
  | .mapUpdate t m k x => e_mapUpdate P E σ t m k x
  | .lookup t m k ok => liftV σ (v_lookup P E σ t m k ok)
  | _ => none

end Go.Ev
