import Derived.Test.YtinhlmelicmheaaGreatEv4
namespace Go.Ev
open Go

/-! ## Regions, code, calls: the evaluator -/

def putA (nt : Nat) (tm : Tr AV) (dst : Option Tmp) (v : AV) : Option (Tr AV) := match dst with
  | none => some tm
  | some d => match Nat.ble (Nat.succ d) nt with
    | true => some (tm.put0 d (some v))
    | false => none

def isTrueB : Bool → Bool → Bool
  | true, true => true
  | false, false => true
  | _, _ => false

/-- Is the operation wanted? none: not to be told. -/
def wantedA (ops : List Oper) (tm : Tr AV) (o : Oper) : Option Bool := match o.guard with
  | none => some true
  | some (j, want) => match nth ops j with
    | some oj => match oj.dst with
      | some d => match tm.at0 d with
        | some (.bool b) => some (isTrueB b want)
        | some (.tup []) => some false
        | none => some false
        | _ => none
      | none => none
    | none => none

def execA (P : Program) (F : CallF) (nt : Nat) (ops : List Oper) (tm : Tr AV) (σ : Heap) (o : Oper) : Option (Tr AV × Heap) :=
  match wantedA ops tm o with
  | none => none
  | some false => match putA nt tm o.dst (.tup []) with
    | some tm' => some (tm', σ)
    | none => none
  | some true => match anyA P F (evo tm) σ o with
    | some (v, σ') => match putA nt tm o.dst v with
      | some tm' => some (tm', σ')
      | none => none
    | none => none

def seqA (P : Program) (F : CallF) (nt : Nat) (ops : List Oper) : List Oper → Tr AV → Heap → Option (Tr AV × Heap)
  | [], tm, σ => some (tm, σ)
  | o :: rest, tm, σ => match execA P F nt ops tm σ o with
    | some (tm', σ') => seqA P F nt ops rest tm' σ'
    | none => none

/-! A region that draws its order: each operation's result has a place of its own; what an operand reads is settled beforehand. -/

def inD (D j : Nat) : Bool := Nat.beq (Nat.land (Nat.shiftRight D j) 1) 1
def addD (D j : Nat) : Nat := Nat.lor D (Nat.shiftLeft 1 j)

/-- What surely runs ahead of each operation. -/
def befores : List Oper → List Nat → List Nat
  | [], acc => acc
  | o :: rest, acc => befores rest (acc ++ [go acc o.after.toList])
  where
  go (acc : List Nat) : List Edge → Nat
    | [] => 0
    | e :: es => match Region.binds .any e with
      | true => Nat.lor (addD (go acc es) e.on) (match nth acc e.on with | some m => m | none => 0)
      | false => go acc es

structure DOp where
  idx : Nat
  o : Oper
  srcs : List (Tmp × Nat)
  bef : Nat

def assoc : List (Tmp × Nat) → Tmp → Option Nat
  | [], _ => none
  | (u, i) :: l, t => match Nat.beq u t with
    | true => some i
    | false => assoc l t

def evD (tm0 R : Tr AV) (srcs : List (Tmp × Nat)) : Operand → Option AV
  | .tmp t => match assoc srcs t with
    | some i => R.at0 i
    | none => evo tm0 (.tmp t)
  | x => evo tm0 x

def dstIs (o : Oper) (t : Tmp) : Bool := match o.dst with
  | some d => Nat.beq d t
  | none => false

/-- The last of those that surely ran ahead and wrote a slot; none at all where another order is open. -/
def srcOf (bs : List Nat) (j bj : Nat) (t : Tmp) : List Oper → Nat → Option Nat → Option (Option Nat)
  | [], _, last => some last
  | o :: rest, i, last => match Nat.beq i j with
    | true => srcOf bs j bj t rest (Nat.succ i) last
    | false => match dstIs o t with
      | false => srcOf bs j bj t rest (Nat.succ i) last
      | true => match inD bj i with
        | true => srcOf bs j bj t rest (Nat.succ i) (some i)
        | false => match nth bs i with
          | some bi => match inD bi j with
            | true => srcOf bs j bj t rest (Nat.succ i) last
            | false => none
          | none => none

def srcsOf (ops : List Oper) (bs : List Nat) (j bj : Nat) : List Tmp → Option (List (Tmp × Nat))
  | [] => some []
  | t :: ts => match srcOf bs j bj t ops 0 none with
    | none => none
    | some none => srcsOf ops bs j bj ts
    | some (some i) => match srcsOf ops bs j bj ts with
      | some l => some ((t, i) :: l)
      | none => none

def tmpsOf : List Operand → List Tmp
  | [] => []
  | .tmp t :: l => t :: tmpsOf l
  | _ :: l => tmpsOf l

/-- The writers of an operation's own slot run ahead of it or behind it. -/
def dstOk (bs : List Nat) (j bj : Nat) (o : Oper) (ops : List Oper) : Bool := match o.dst with
  | none => true
  | some d => match srcOf bs j bj d ops 0 none with
    | some _ => true
    | none => false

/-- The guard's own slot is read as its operation left it. -/
def guardOk (ops : List Oper) (bs : List Nat) (j bj : Nat) (o : Oper) : Bool := match o.guard with
  | none => true
  | some (g, _) => match nth ops g with
    | some og => match og.dst with
      | some d => match srcOf bs j bj d ops 0 none with
        | some (some i) => Nat.beq i g
        | _ => false
      | none => false
    | none => false

def edgesBack (j : Nat) (o : Oper) : Bool := o.after.toList.all fun e => match Region.binds .any e with
  | true => Nat.ble (Nat.succ e.on) j
  | false => true

def dopsOf (ops : List Oper) (bs : List Nat) : List Oper → Nat → Option (List DOp)
  | [], _ => some []
  | o :: rest, j => match nth bs j with
    | none => none
    | some bj => match edgesBack j o with
      | false => none
      | true => match dstOk bs j bj o ops with
        | false => none
        | true => match guardOk ops bs j bj o with
          | false => none
          | true => match srcsOf ops bs j bj (tmpsOf o.op.operands.toList) with
            | none => none
            | some srcs => match dopsOf ops bs rest (Nat.succ j) with
              | some l => some (⟨j, o, srcs, bj⟩ :: l)
              | none => none

def readyD (D : Nat) (o : Oper) : Bool := o.after.toList.all fun e => match Region.binds .any e with
  | true => inD D e.on
  | false => true

/-- All quiet operations that can run, in their order. -/
def passD : List DOp → Nat → Nat × List DOp
  | [], D => (D, [])
  | d :: rest, D => match inD D d.idx with
    | true => passD rest D
    | false => match isE d.o with
      | true => passD rest D
      | false => match readyD D d.o with
        | true => match passD rest (addD D d.idx) with
          | (D', q) => (D', d :: q)
        | false => passD rest D

/-- What can run beside what has run. -/
def readyL : List DOp → Nat → List DOp
  | [], _ => []
  | d :: rest, D => match inD D d.idx with
    | true => readyL rest D
    | false => match readyD D d.o with
      | true => d :: readyL rest D
      | false => readyL rest D

def isLoad (P : Program) (o : Oper) : Bool := match o.op with
  | .load _ _ => true
  | .convert src _ _ => isSliceT P src
  | .lookup _ _ _ _ => true
  | .call _ => true
  | _ => false

inductive PStep where
  | quiet (d : DOp)
  | act (d : DOp) (again : List DOp)

def quiets : List DOp → List PStep → List PStep
  | [], tail => tail
  | d :: l, tail => .quiet d :: quiets l tail

def again1 (P : Program) (be : Nat) : List DOp → List DOp
  | [] => []
  | d :: l => match isLoad P d.o with
    | true => match inD be d.idx with
      | true => again1 P be l
      | false => d :: again1 P be l
    | false => again1 P be l

def planD (P : Program) (ds : List DOp) : Nat → Nat → List DOp → Option (List PStep)
  | 0, _, _ => none
  | f + 1, D, done =>
    match passD ds D with
    | (D', q) => match readyL ds D' with
      | [] => match ds.all fun d => inD D' d.idx with
        | true => some (quiets q [])
        | false => none
      | [e] => match isE e.o with
        | true => match planD P ds f (addD D' e.idx) (q ++ done) with
          | some rest => some (quiets q (.act e (again1 P e.bef (q ++ done)) :: rest))
          | none => none
        | false => none
      | _ => none

def planOf (P : Program) (ops : List Oper) : Option (List DOp × List PStep) := match dopsOf ops (befores ops []) ops 0 with
  | none => none
  | some ds => match planD P ds (Nat.succ ds.length) 0 [] with
    | some p => some (ds, p)
    | none => none

def beqLit : Value → Value → Bool
  | .pointer none, .pointer none => true
  | .map none, .map none => true
  | .nilFunc, .nilFunc => true
  | .nilIface, .nilIface => true
  | .slice none a b, .slice none c d => Nat.beq a c && Nat.beq b d
  | .float .f64 a, .float .f64 b => Nat.beq a b
  | .complex .f64 a b, .complex .f64 c d => Nat.beq a c && Nat.beq b d
  | _, _ => false

def beqNats : List Nat → List Nat → Bool
  | [], [] => true
  | x :: l, y :: m => Nat.beq x y && beqNats l m
  | _, _ => false

def beqB : Bool → Bool → Bool
  | true, true => true
  | false, false => true
  | _, _ => false

def beqFn : Fn → Fn → Bool
  | .func f, .func g => Nat.beq f g
  | _, _ => false

mutual
def beqS : AV → AV → Bool
  | .bool a, .bool b => beqB a b
  | .int k a, .int k' b => sameK k k' && eqI a b
  | .sx k a, .sx k' b => sameK k k' && SE.same a b
  | .spt b o s e, .spt b' o' s' e' => Nat.beq b b' && Nat.beq o o' && Nat.beq s s' && SE.same e e'
  | .sstr l, .sstr m => beqSL l m
  | .str l, .str m => beqNats l m
  | .lit v, .lit u => beqLit v u
  | .ptr a b, .ptr c d => Nat.beq a c && Nat.beq b d
  | .sl a b c d e, .sl a' b' c' d' e' => Nat.beq a a' && Nat.beq b b' && Nat.beq c c' && Nat.beq d d' && beqB e e'
  | .map a, .map b => Nat.beq a b
  | .func f xs ys, .func g xs' ys' => beqFn f g && beqSL xs xs' && beqSL ys ys'
  | .agg xs, .agg ys => beqSL xs ys
  | .tup xs, .tup ys => beqSL xs ys
  | _, _ => false
def beqSL : List AV → List AV → Bool
  | [], [] => true
  | x :: l, y :: m => beqS x y && beqSL l m
  | _, _ => false
end

def wantedD (R : Tr AV) (o : Oper) : Option Bool := match o.guard with
  | none => some true
  | some (j, want) => match R.at0 j with
    | some (.bool b) => some (isTrueB b want)
    | some (.tup []) => some false
    | _ => none

/-- The reads that may come later still give what they gave. -/
def againA (P : Program) (tm0 R : Tr AV) (σ : Heap) : List DOp → Bool
  | [] => true
  | d :: rest => match wantedD R d.o with
    | some false => againA P tm0 R σ rest
    | some true => match aV P (evD tm0 R d.srcs) σ d.o with
      | some v => match R.at0 d.idx with
        | some v' => match beqS v v' with
          | true => againA P tm0 R σ rest
          | false => false
        | none => false
      | none => false
    | none => false

def execD (P : Program) (F : CallF) (tm0 R : Tr AV) (σ : Heap) (d : DOp) : Option (Tr AV × Heap) :=
  match wantedD R d.o with
  | none => none
  | some false => some (R.put0 d.idx (some (.tup [])), σ)
  | some true => match anyA P F (evD tm0 R d.srcs) σ d.o with
    | some (v, σ') => some (R.put0 d.idx (some v), σ')
    | none => none

def stepsD (P : Program) (F : CallF) (tm0 : Tr AV) : List PStep → Tr AV → Heap → Option (Tr AV × Heap)
  | [], R, σ => some (R, σ)
  | .quiet d :: rest, R, σ => match execD P F tm0 R σ d with
    | some (R', σ') => stepsD P F tm0 rest R' σ'
    | none => none
  | .act d again :: rest, R, σ => match execD P F tm0 R σ d with
    | some (R', σ') => match againA P tm0 R' σ' again with
      | true => stepsD P F tm0 rest R' σ'
      | false => none
    | none => none

/-- The slots behind the region. -/
def layD (nt : Nat) (R : Tr AV) : List DOp → Tr AV → Option (Tr AV)
  | [], tm => some tm
  | d :: rest, tm => match R.at0 d.idx with
    | some v => match putA nt tm d.o.dst v with
      | some tm' => layD nt R rest tm'
      | none => none
    | none => none

def drawA (P : Program) (F : CallF) (nt : Nat) (ops : List Oper) (tm : Tr AV) (σ : Heap) : Option (Tr AV × Heap) :=
  match planOf P ops with
  | some (ds, p) => match stepsD P F tm p .leaf σ with
    | some (R, σ') => match layD nt R ds tm with
      | some tm' => some (tm', σ')
      | none => none
    | none => none
  | none => none

inductive EX where
  | normal
  | exit (id : Nat)
  | goto (l : Nat)
  | ret

structure St where
  ex : EX
  tm : Tr AV
  hp : Heap

abbrev RecC := Code → Tr AV → Heap → Option St

def thenA (R : RecC) (b : Code) : Option St → Option St
  | some ⟨.normal, tm', σ'⟩ => R b tm' σ'
  | r => r

def outA (id : Nat) : Option St → Option St
  | some ⟨.exit id', tm', σ'⟩ => match Nat.beq id' id with
    | true => some ⟨.normal, tm', σ'⟩
    | false => some ⟨.exit id', tm', σ'⟩
  | r => r

def norA : Option (Tr AV × Heap) → Option St
  | some (tm', σ') => some ⟨.normal, tm', σ'⟩
  | none => none

def condA (R : RecC) (a b : Code) (tm : Tr AV) (σ : Heap) : Option AV → Option St
  | some (.bool true) => R a tm σ
  | some (.bool false) => R b tm σ
  | _ => none

def scopeA (R : RecC) (body : Code) : Nat → Code → Tr AV → Heap → Option St
  | 0, _, _, _ => none
  | n + 1, c, tm, σ => match R c tm σ with
    | some ⟨.goto l, tm', σ'⟩ => match findLabel body l with
      | some rest => scopeA R body n rest tm' σ'
      | none => some ⟨.goto l, tm', σ'⟩
    | r => r

def regA (P : Program) (F : CallF) (nt : Nat) (ops : Array Oper) (tm : Tr AV) (σ : Heap) : Bool → Option (Tr AV × Heap)
  | false => seqA P F nt ops.toList ops.toList tm σ
  | true => drawA P F nt ops.toList tm σ

def stepA (P : Program) (F : CallF) (nt : Nat) (R : RecC) (n : Nat) (c : Code) (tm : Tr AV) (σ : Heap) : Option St :=
  match c with
  | .skip => some ⟨.normal, tm, σ⟩
  | .label _ => some ⟨.normal, tm, σ⟩
  | .exit id => some ⟨.exit id, tm, σ⟩
  | .goto l => some ⟨.goto l, tm, σ⟩
  | .ret => some ⟨.ret, tm, σ⟩
  | .region _ ops d => norA (regA P F nt ops tm σ d)
  | .seq a b => thenA R b (R a tm σ)
  | .cond x a b => condA R a b tm σ (evo tm x)
  | .block id b => outA id (R b tm σ)
  | .loop b => thenA R (.loop b) (R b tm σ)
  | .scope b => scopeA R b n b tm σ
  | _ => none

def codeA (P : Program) (F : CallF) (nt : Nat) : Nat → RecC
  | 0, _, _, _ => none
  | n + 1, c, tm, σ => stepA P F nt (codeA P F nt n) n c tm σ

def resA (P : Program) (tm : Tr AV) (σ : Heap) : List ResultVar → Option (List AV)
  | [] => some []
  | .tmp t :: rest => match evo tm (.tmp t) with
    | some v => match resA P tm σ rest with
      | some l => some (v :: l)
      | none => none
    | none => none
  | .cell a t :: rest => match evo tm (.tmp a) with
    | some (.ptr b off) => match loadA P σ t b off with
      | some v => match resA P tm σ rest with
        | some l => some (v :: l)
        | none => none
      | none => none
    | _ => none

def resV : List AV → AV
  | [x] => x
  | l => .tup l

abbrev Sums := FuncId → Option (List AV → Heap → Option (AV × Heap))

def endA (P : Program) (fn : Func) : Option St → Option (AV × Heap)
  | some ⟨.normal, tm, σ'⟩ => match resA P tm σ' fn.results.toList with
    | some l => some (resV l, σ')
    | none => none
  | some ⟨.ret, tm, σ'⟩ => match resA P tm σ' fn.results.toList with
    | some l => some (resV l, σ')
    | none => none
  | _ => none

def bodyA (P : Program) (F : CallF) (fuel : Nat) (fn : Func) (args : List AV) (σ : Heap) : Option (AV × Heap) :=
  match decide (fn.name = "runtime.NumGoroutine") with
  | true => none
  | false => match fn.body with
    | some c => endA P fn (codeA P F (Nat.max fn.ntmps args.length) fuel c (Tr.ofList args 0 .leaf) σ)
    | none => none

def goA (P : Program) (S : Sums) (F : CallF) (fuel : Nat) (f : FuncId) (args : List AV) (σ : Heap) : Option (AV × Heap) :=
  match S f with
  | some s => s args σ
  | none => match P.funcs[f]? with
    | some fn => bodyA P F fuel fn args σ
    | none => none

def callA (P : Program) (S : Sums) (fuel : Nat) : Nat → CallF
  | 0, _, _, _ => none
  | d + 1, f, args, σ => goA P S (callA P S fuel d) fuel f args σ

end Go.Ev
