import Derived.Test.YtinhlmelicmheaaGreatEv29
namespace Go.Ev
open Go

/-! ## Tries by their recursors: what the kernel runs quickest -/

noncomputable def tgetR {α : Type} (t : Tr α) : Nat → Option α :=
  Tr.rec (motive := fun _ => Nat → Option α) (fun _ => none) (fun _ v _ gl gr i => Bool.rec (Bool.rec (gr (Nat.div i 2)) (gl (Nat.div i 2)) (Nat.beq (Nat.mod i 2) 0)) v (Nat.beq i 1)) t

theorem tgetR_eq {α : Type} : ∀ (t : Tr α) (i : Nat), tgetR t i = t.get i
  | .leaf, _ => rfl
  | .node l v r, i => by
    have hl := tgetR_eq l (Nat.div i 2)
    have hr := tgetR_eq r (Nat.div i 2)
    simp only [Tr.get, ← hl, ← hr]
    show @Bool.rec (fun _ => Option α) (@Bool.rec (fun _ => Option α) (tgetR r (Nat.div i 2)) (tgetR l (Nat.div i 2)) (Nat.beq (Nat.mod i 2) 0)) v (Nat.beq i 1) = _
    cases Nat.beq i 1 <;> cases Nat.beq (Nat.mod i 2) 0 <;> rfl

noncomputable def tpathR {α : Type} (f : Nat) : Nat → Option α → Tr α :=
  Nat.rec (motive := fun _ => Nat → Option α → Tr α) (fun _ _ => .leaf) (fun _ g i x => Bool.rec (Bool.rec (.node .leaf none (g (Nat.div i 2) x)) (.node (g (Nat.div i 2) x) none .leaf) (Nat.beq (Nat.mod i 2) 0)) (.node .leaf x .leaf) (Nat.beq i 1)) f

theorem tpathR_eq {α : Type} : ∀ (f i : Nat) (x : Option α), tpathR f i x = Tr.putF f .leaf i x
  | 0, _, _ => rfl
  | f + 1, i, x => by
    have h := tpathR_eq f (Nat.div i 2) x
    simp only [Tr.putF, ← h]
    show @Bool.rec (fun _ => Tr α) (@Bool.rec (fun _ => Tr α) (Tr.node .leaf none (tpathR f (Nat.div i 2) x)) (.node (tpathR f (Nat.div i 2) x) none .leaf) (Nat.beq (Nat.mod i 2) 0)) (.node .leaf x .leaf) (Nat.beq i 1) = _
    cases Nat.beq i 1 <;> cases Nat.beq (Nat.mod i 2) 0 <;> rfl

noncomputable def tputR {α : Type} (t : Tr α) : Nat → Nat → Option α → Tr α :=
  Tr.rec (motive := fun _ => Nat → Nat → Option α → Tr α) (fun f i x => tpathR f i x)
    (fun l v r gl gr f i x => Nat.rec (motive := fun _ => Tr α) (.node l v r) (fun f' _ => Bool.rec (Bool.rec (.node l v (gr f' (Nat.div i 2) x)) (.node (gl f' (Nat.div i 2) x) v r) (Nat.beq (Nat.mod i 2) 0)) (.node l x r) (Nat.beq i 1)) f) t

theorem tputR_eq [Sy] {α : Type} : ∀ (t : Tr α) (f i : Nat) (x : Option α), tputR t f i x = Tr.putF f t i x
  | .leaf, f, i, x => tpathR_eq f i x
  | .node l v r, 0, i, x => by simp only [Tr.putF]; rfl
  | .node l v r, f + 1, i, x => by
    have hl := tputR_eq l f (Nat.div i 2) x
    have hr := tputR_eq r f (Nat.div i 2) x
    simp only [Tr.putF, ← hl, ← hr]
    show @Bool.rec (fun _ => Tr α) (@Bool.rec (fun _ => Tr α) (Tr.node l v (tputR r f (Nat.div i 2) x)) (.node (tputR l f (Nat.div i 2) x) v r) (Nat.beq (Nat.mod i 2) 0)) (.node l x r) (Nat.beq i 1) = _
    cases Nat.beq i 1 <;> cases Nat.beq (Nat.mod i 2) 0 <;> rfl

noncomputable def at1 {α : Type} (t : Tr α) (i : Nat) : Option α := tgetR t (Nat.succ i)
noncomputable def put1 {α : Type} (t : Tr α) (i : Nat) (x : Option α) : Tr α := tputR t (Nat.succ i) (Nat.succ i) x

theorem at1_eq [Sy] {α : Type} (t : Tr α) (i : Nat) : at1 t i = t.at0 i := tgetR_eq _ _
theorem put1_eq [Sy] {α : Type} (t : Tr α) (i : Nat) (x : Option α) : put1 t i x = t.put0 i x := tputR_eq _ _ _ _

noncomputable def cget1 (t : Tr AV) (dz : Option AV) (i : Nat) : Option AV :=
  match at1 t i with
  | some x => some x
  | none => dz

theorem cget1_eq [Sy] (t : Tr AV) (dz : Option AV) (i : Nat) : cget1 t dz i = cget t dz i := by
  simp only [cget1, cget, at1_eq]
  rfl

noncomputable def hget (σ : Heap) (b : Nat) : Option ABlk := at1 σ.m b
theorem hget_eq [Sy] (σ : Heap) (b : Nat) : hget σ b = σ.get b := at1_eq _ _

noncomputable section

/-! Lists laid into tries, blocks made, cells read and written: the same as before, by the recursors. -/

def ofListR (l : List AV) : Nat → Tr AV → Tr AV :=
  List.rec (motive := fun _ => Nat → Tr AV → Tr AV) (fun _ t => t) (fun x _ ih i t => ih (Nat.succ i) (put1 t i (some x))) l

theorem ofListR_eq [Sy] : ∀ (l : List AV) (i : Nat) (t : Tr AV), ofListR l i t = Tr.ofList l i t
  | [], _, _ => rfl
  | x :: l, i, t => by
    simp only [Tr.ofList]
    rw [← ofListR_eq l, ← put1_eq]; rfl

def cgetR (t : Tr AV) (dz : Option AV) (i : Nat) : Option AV := Option.rec (motive := fun _ => Option AV) dz some (at1 t i)

theorem cgetR_eq [Sy] (t : Tr AV) (dz : Option AV) (i : Nat) : cgetR t dz i = cget t dz i := by
  unfold cgetR cget
  rw [at1_eq]
  cases t.at0 i <;> rfl

def cgetsR (t : Tr AV) (dz : Option AV) (n : Nat) : Nat → Option (List AV) :=
  Nat.rec (motive := fun _ => Nat → Option (List AV)) (fun _ => some []) (fun _ ih i => Option.rec (motive := fun _ => Option (List AV)) none (fun x => Option.rec (motive := fun _ => Option (List AV)) none (fun l => some (x :: l)) (ih (Nat.succ i))) (cgetR t dz i)) n

theorem cgetsR_eq [Sy] (t : Tr AV) (dz : Option AV) : ∀ (n i : Nat), cgetsR t dz n i = cgets t dz i n
  | 0, _ => rfl
  | n + 1, i => by
    simp only [cgets]
    rw [← cgetR_eq, ← cgetsR_eq t dz n]
    show Option.rec (motive := fun _ => Option (List AV)) none (fun x => Option.rec (motive := fun _ => Option (List AV)) none (fun l => some (x :: l)) (cgetsR t dz n (Nat.succ i))) (cgetR t dz i) = _
    cases cgetR t dz i with
    | none => rfl
    | some x => cases cgetsR t dz n (Nat.succ i) <;> rfl

def rangeR (σ : Heap) (b off n : Nat) : Option (List AV) :=
  match hget σ b with
  | some (.cells m t dz _ _) => match Nat.ble (Nat.add off n) m with
    | true => cgetsR t dz n off
    | false => none
  | _ => none

theorem rangeR_eq [Sy] (σ : Heap) (b off n : Nat) : rangeR σ b off n = rangeA σ b off n := by
  unfold rangeR rangeA
  rw [hget_eq]
  simp only [cgetsR_eq]
  rfl

def setR (σ : Heap) (b : Nat) (B : ABlk) : Heap := ⟨σ.next, put1 σ.m b (some B)⟩
theorem setR_eq [Sy] (σ : Heap) (b : Nat) (B : ABlk) : setR σ b B = σ.set b B := by simp only [setR, Heap.set, put1_eq]
def killR (σ : Heap) (b : Nat) : Bool → Heap
  | true => ⟨σ.next, put1 σ.m b none⟩
  | false => σ
theorem killR_eq [Sy] (σ : Heap) (b : Nat) (sp : Bool) : killR σ b sp = killIf σ b sp := by cases sp <;> simp only [killR, killIf, Heap.kill, put1_eq]

/-- A block is made. -/
def pushC (σ : Heap) (B : Option ABlk) : Heap := ⟨Nat.succ σ.next, put1 σ.m σ.next B⟩

theorem pushC_eq [Sy] (σ : Heap) (B : Option ABlk) : pushC σ B = σ.push B := by simp only [pushC, Heap.push, put1_eq]

def mkR (l : List AV) (e : TypeId) (sp : Bool) : ABlk := .cells l.length (ofListR l 0 .leaf) none e sp
theorem mkR_eq [Sy] (l : List AV) (e : TypeId) (sp : Bool) : mkR l e sp = mkCells l e sp := by simp only [mkR, mkCells, ofListR_eq]

def storeCellsR (σ : Heap) (b off : Nat) (l : List AV) : Option Heap :=
  match hget σ b with
  | some (.cells n t dz e sp) => match Nat.ble (Nat.add off l.length) n with
    | true => match l.all scalar with
      | true => some (setR σ b (.cells n (ofListR l off t) dz e sp))
      | false => none
    | false => none
  | _ => none

theorem storeCellsR_eq [Sy] (σ : Heap) (b off : Nat) (l : List AV) : storeCellsR σ b off l = storeCellsA σ b off l := by
  unfold storeCellsR storeCellsA
  rw [hget_eq]
  simp only [ofListR_eq, setR_eq]
  rfl

def growAR (σ : Heap) (old new : List AV) (need : Nat) (e : TypeId) : AV × Heap :=
  (.sl σ.next 0 need need true, pushC σ (some (mkR (old ++ new) e true)))
theorem growAR_eq [Sy] (σ : Heap) (old new : List AV) (need : Nat) (e : TypeId) : growAR σ old new need e = growA σ old new need e := by simp only [growAR, growA, pushC_eq, mkR_eq]

def growTR (σ : Heap) (t : Tr AV) (dz : Option AV) (olds : Nat) (new : List AV) (need : Nat) (e : TypeId) : AV × Heap :=
  (.sl σ.next 0 need need true, pushC σ (some (.cells (Nat.add olds new.length) (ofListR new olds t) dz e true)))
theorem growTR_eq [Sy] (σ : Heap) (t : Tr AV) (dz : Option AV) (olds : Nat) (new : List AV) (need : Nat) (e : TypeId) : growTR σ t dz olds new need e = growT σ t dz olds new need e := by simp only [growTR, growT, pushC_eq, ofListR_eq]

def growFromR (σ : Heap) (b off len cap : Nat) (sp : Bool) (size n : Nat) (new : List AV) (elem : TypeId) : Option (AV × Heap) :=
  match hget σ b with
  | some (.cells m t dz e _) => match Nat.ble (Nat.add off (Nat.mul len size)) m with
    | false => none
    | true => match okSp m off cap size e elem sp with
      | false => none
      | true => match Nat.beq off 0 with
        | true => some (growTR (killR σ b sp) t dz (Nat.mul len size) new (Nat.add len n) elem)
        | false => match cgetsR t dz (Nat.mul len size) off with
          | some old => some (growAR (killR σ b sp) old new (Nat.add len n) elem)
          | none => none
  | _ => none

theorem growFromR_eq [Sy] (σ : Heap) (b off len cap : Nat) (sp : Bool) (size n : Nat) (new : List AV) (elem : TypeId) : growFromR σ b off len cap sp size n new elem = growFrom σ b off len cap sp size n new elem := by
  unfold growFromR growFrom
  rw [hget_eq]
  simp only [growTR_eq, growAR_eq, killR_eq, cgetsR_eq]
  rfl

/-- 'append', where the element's type is settled: its bytes, its size. -/
def appendR (σ : Heap) (bytes size : Nat) (elem : TypeId) (s : AV) (n : Nat) (new : List AV) : Option (AV × Heap) :=
  match new.all scalar with
  | false => none
  | true => match s with
    | .lit (.slice none len cap) => match Nat.beq len 0 with
      | false => none
      | true => match Nat.ble n cap with
        | true => match Nat.beq n 0 with
          | true => some (.lit (.slice none 0 cap), σ)
          | false => none
        | false => match Nat.ble (Nat.mul (Nat.mul 2 n) bytes) 281474976710656 with
          | true => match Nat.ble n 4611686018427387904 with
            | true => some (growAR σ [] new n elem)
            | false => none
          | false => none
    | .sl b off len cap sp =>
      match Nat.ble (Nat.add len n) cap with
      | true => match storeCellsR σ b (Nat.add off (Nat.mul len size)) new with
        | some σ' => some (.sl b off (Nat.add len n) cap sp, σ')
        | none => none
      | false => match Nat.ble (Nat.mul (Nat.mul 2 (Nat.add len n)) bytes) 281474976710656 with
        | false => none
        | true => match Nat.ble (Nat.add len n) 4611686018427387904 with
          | false => none
          | true => growFromR σ b off len cap sp size n new elem
    | _ => none

/-- The element's bytes and size, where its zero fits. -/
def appInfo (P : Program) (elem : TypeId) : Option (Nat × Nat) := match P.info? elem with
  | none => none
  | some i => match zeroL P elem with
    | none => none
    | some z => match Nat.beq z.length i.size with
      | false => none
      | true => some (i.bytes, i.size)

theorem appendR_eq [Sy] {P : Program} {elem : TypeId} {bytes size : Nat} (h : appInfo P elem = some (bytes, size)) (σ : Heap) (s : AV) (n : Nat) (new : List AV) : appendR σ bytes size elem s n new = appendA P σ elem s n new := by
  unfold appInfo at h
  split at h
  · cases h
  · rename_i i hi
    split at h
    · cases h
    · rename_i z hz
      split at h
      · cases h
      · rename_i hb
        simp only [Option.some.injEq, Prod.mk.injEq] at h
        obtain ⟨rfl, rfl⟩ := h
        unfold appendR appendA
        simp only [hi, hz, hb, growAR_eq, storeCellsR_eq, growFromR_eq]
        rfl

def newCellsR (σ : Heap) (size : Nat) : AV → Option (Nat × List AV)
  | .sl b off len _ _ => match rangeR σ b off (Nat.mul len size) with
    | some l => some (len, l)
    | none => none
  | .lit (.slice none n _) => match Nat.beq n 0 with
    | true => some (0, [])
    | false => none
  | .str l => match Nat.beq size 1 with
    | true => some (l.length, l.map fun n => .int .u8 (.ofNat (Nat.mod n 256)))
    | false => none
  | _ => none

theorem appInfo_sz {P : Program} {elem : TypeId} {bytes size : Nat} (h : appInfo P elem = some (bytes, size)) : szOf P elem = some size := by
  unfold appInfo at h
  split at h
  · cases h
  · rename_i i hi
    split at h
    · cases h
    · split at h
      · cases h
      · simp only [Option.some.injEq, Prod.mk.injEq] at h
        simp only [szOf, hi, h.2]

theorem newCellsR_eq [Sy] (P : Program) (σ : Heap) (size : Nat) (x : AV) : newCellsR σ size x = newCellsA P σ size x := by
  unfold newCellsR newCellsA
  simp only [rangeR_eq]
  rfl

def copyR (σ : Heap) (size : Nat) (d s : AV) : Option (AV × Heap) :=
  match d with
    | .sl b off len _ _ => match s with
      | .sl b' off' len' _ _ => match rangeR σ b' off' (Nat.mul (Nat.min len' len) size) with
        | some l => match storeCellsR σ b off l with
          | some σ' => some (.int .i64 (.ofNat (Nat.min len' len)), σ')
          | none => none
        | none => none
      | .lit (.slice none n _) => match Nat.beq n 0 with
        | true => some (.int .i64 (.ofNat 0), σ)
        | false => none
      | _ => none
    | .lit (.slice none n _) => match Nat.beq n 0, s with
      | true, .sl _ _ _ _ _ => some (.int .i64 (.ofNat 0), σ)
      | true, .lit (.slice none _ _) => some (.int .i64 (.ofNat 0), σ)
      | _, _ => none
    | _ => none

theorem copyR_eq [Sy] {P : Program} {elem : TypeId} {size : Nat} (h : szOf P elem = some size) (σ : Heap) (d s : AV) : copyR σ size d s = copyA P σ elem d s := by
  unfold copyR copyA
  simp only [h, rangeR_eq, storeCellsR_eq]
  rfl

def liftNC (σ : Heap) : Option (Option ABlk × (Nat → AV)) → Option (AV × Heap)
  | some (B, mk) => some (mk σ.next, pushC σ B)
  | none => none

theorem liftNC_eq [Sy] (σ : Heap) (x : Option (Option ABlk × (Nat → AV))) : liftNC σ x = liftN σ x := by
  unfold liftNC liftN
  simp only [pushC_eq]
  rfl

/-- A value, or else a new name. -/
def liftVNC (σ : Heap) (n : Option (Option ABlk × (Nat → AV))) : Option AV → Option (AV × Heap)
  | some v => some (v, σ)
  | none => liftNC σ n

theorem liftVNC_eq [Sy] (σ : Heap) (n : Option (Option ABlk × (Nat → AV))) (v : Option AV) : liftVNC σ n v = liftVN σ n v := by
  unfold liftVNC liftVN
  simp only [liftNC_eq]
  rfl

/-! ## Operations laid ready: what does not hang on the state is settled once -/

structure Fop (S : Type) where
  run : CallF → S → Heap → Option (AV × Heap)

/-- How an operand is read off the state. -/
structure Rd (S : Type) where
  get : S → Option AV

abbrev Ev (S : Type) := Operand → Rd S

def Ev.at {S : Type} (ev : Ev S) (s : S) : Operand → Option AV := fun x => (ev x).get s

def tget (x : Option AV) : Option AV := Option.rec (motive := fun _ => Option AV) (some (.tup [])) some x

theorem tget_eq (x : Option AV) : tget x = match x with | some x => some x | none => some (.tup []) := by cases x <;> rfl

/-- The slots. -/
def evS : Ev (Tr AV) := fun x => match x with
  | .tmp t => ⟨fun tm => Option.rec (motive := fun _ => Option AV) (some (.tup [])) some ((gAt t).run tm)⟩
  | .const v => match ofValue v with
    | some a => ⟨fun _ => some a⟩
    | none => ⟨fun _ => none⟩
  | .global _ => ⟨fun _ => none⟩
  | .func f => ⟨fun _ => some (.func (.func f) [] [])⟩

theorem evS_at [Sy] (tm : Tr AV) : evS.at tm = evo tm := by
  funext x
  cases x with
  | tmp t =>
    simp only [Ev.at, evS, gAt_eq, evo]
    exact tget_eq _
  | const v =>
    simp only [Ev.at, evS, evo]
    split
    · rename_i a h; simp only [h]
    · rename_i h; simp only [h]
  | global g => rfl
  | func f => rfl

/-- A list of operands, read. -/
structure RdL (S : Type) where
  get : S → Option (List AV)

def consV (a : AV) : Option (List AV) → Option (List AV)
  | some l => some (a :: l)
  | none => none

def consL {S : Type} (k : RdL S) (s : S) : Option AV → Option (List AV)
  | some a => consV a (k.get s)
  | none => none

def evL {S : Type} (ev : Ev S) : List Operand → RdL S
  | [] => ⟨fun _ => some []⟩
  | x :: l => ⟨fun s => consL (evL ev l) s ((ev x).get s)⟩

theorem evL_get {S : Type} {ev : Ev S} {s : S} : ∀ l : List Operand, (evL ev l).get s = evos (ev.at s) l
  | [] => rfl
  | x :: l => by
    simp only [evL, evos, consL, Ev.at]
    split
    · rename_i a h
      simp only [h]
      have := evL_get (ev := ev) (s := s) l
      rw [this]
      simp only [consV]
      rfl
    · rename_i h; simp only [h]

def binFb {S : Type} (P : Program) (ev : Ev S) (tm : S) (σ : Heap) (o : Oper) (op : BinOp) (xt : TypeId) (v : AV) : Option AV → Option (AV × Heap)
  | some u => liftV σ (binA P (ev.at tm) o op xt v u)
  | none => none

def bin2y (g : IntKind → Int → Int → AV) (fb : Option AV → Option (AV × Heap)) (σ : Heap) (k : IntKind) (a : Int) : Option AV → Option (AV × Heap)
  | some (.int k' b) => match sameK k k' with
    | true => some (g k a b, σ)
    | false => none
  | oy => fb oy

def bin2 (g : IntKind → Int → Int → AV) (fb : AV → Option AV → Option (AV × Heap)) (σ : Heap) (oy : Option AV) : Option AV → Option (AV × Heap)
  | some (.int k a) => bin2y g (fb (.int k a)) σ k a oy
  | some v => fb v oy
  | none => none

def binC {S : Type} (P : Program) (ev : Ev S) (o : Oper) (op : BinOp) (xt : TypeId) (x y : Operand) (g : IntKind → Int → Int → AV) : Fop S :=
  ⟨fun _ tm σ => bin2 g (binFb P ev tm σ o op xt) σ ((ev y).get tm) ((ev x).get tm)⟩

/-- The plain integer operations. -/
def binG : BinOp → Option (IntKind → Int → Int → AV)
  | .add => some fun k a b => .int k (wrapF k (addI a b))
  | .sub => some fun k a b => .int k (wrapF k (subI a b))
  | .mul => some fun k a b => .int k (wrapF k (mulI a b))
  | .and => some fun k a b => .int k (bitI .and k a b)
  | .or => some fun k a b => .int k (bitI .or k a b)
  | .xor => some fun k a b => .int k (bitI .xor k a b)
  | .andNot => some fun k a b => .int k (bitI .andNot k a b)
  | .eql => some fun _ a b => .bool (eqI a b)
  | .neq => some fun _ a b => .bool (!eqI a b)
  | .lss => some fun _ a b => .bool (ltI a b)
  | .leq => some fun _ a b => .bool (!ltI b a)
  | .gtr => some fun _ a b => .bool (ltI b a)
  | .geq => some fun _ a b => .bool (!ltI a b)
  | _ => none

def othC {S : Type} (P : Program) (ev : Ev S) (o : Oper) : Fop S := ⟨fun F tm σ => anyA P F (ev.at tm) σ o⟩

def mvC {S : Type} (ev : Ev S) (x : Operand) : Fop S := ⟨fun _ tm σ => liftV σ ((ev x).get tm)⟩

def ld1 (fb : Option (AV × Heap)) (σ : Heap) : Option AV → Option (AV × Heap)
  | some (.ptr b off) => match hget σ b with
    | some (.cells n t dz _ _) => match Nat.ble (Nat.succ off) n with
      | true => liftV σ (cget1 t dz off)
      | false => none
    | _ => none
  | some _ => fb
  | none => none

def lds (s : Nat) (σ : Heap) : Option AV → Option (AV × Heap)
  | some (.ptr b off) => match hget σ b with
    | some (.cells n t dz _ _) => match Nat.ble (Nat.add off s) n with
      | true => match cgetsR t dz s off with
        | some l => some (.agg l, σ)
        | none => none
      | false => none
    | _ => none
  | _ => none

/-- One cell is written. -/
def st1 (fb : Option (AV × Heap)) (σ : Heap) (ov : Option AV) : Option AV → Option (AV × Heap)
  | some (.ptr b off) => match ov with
    | some v => match scalar v with
      | true => match hget σ b with
        | some (.cells n t dz e sp) => match Nat.ble (Nat.succ off) n with
          | true => some (.tup [], ⟨σ.next, put1 σ.m b (some (.cells n (put1 t off (some v)) dz e sp))⟩)
          | false => none
        | _ => none
      | false => fb
    | none => none
  | some _ => fb
  | none => none

def sts (s : Nat) (σ : Heap) (ov : Option AV) : Option AV → Option (AV × Heap)
  | some (.ptr b off) => match ov with
    | some v => match Nat.beq (cellsA v).length s with
      | true => match storeCellsR σ b off (cellsA v) with
        | some σ' => some (.tup [], σ')
        | none => none
      | false => none
    | none => none
  | _ => none

def fa (d : Nat) (σ : Heap) : Option AV → Option (AV × Heap)
  | some (.ptr b off) => some (.ptr b (Nat.add off d), σ)
  | _ => none

/-- A field's place, where it is not empty. -/
def fieldOff (P : Program) (s : TypeId) (i : Nat) : Option Nat := match P.underlying s with
  | some (.struct fields) => match nth fields.toList i with
    | some f => match szOf P f.type with
      | some n => match Nat.beq n 0 with
        | true => none
        | false => some f.offset
      | none => none
    | none => none
  | _ => none

def ixGo (fb : Option (AV × Heap)) (σ : Heap) (s b off len : Nat) : Option AV → Option (AV × Heap)
  | some (.int _ (.ofNat i)) => match Nat.ble (Nat.succ i) len with
    | true => some (.ptr b (Nat.add off (Nat.mul i s)), σ)
    | false => none
  | some (.sx _ _) => fb
  | _ => none

def ixS (fb : Option (AV × Heap)) (s : Nat) (σ : Heap) (oi : Option AV) : Option AV → Option (AV × Heap)
  | some (.sl b off len _ _) => ixGo fb σ s b off len oi
  | _ => none

def pkC (σ : Heap) (oa ob : Option AV) : Option AV → Option (AV × Heap)
  | some (.bool true) => liftV σ oa
  | some (.bool false) => liftV σ ob
  | _ => none

def boxC (e : TypeId) (σ : Heap) : Option AV → Option (AV × Heap)
  | some a => match scalar a with
    | true => some (.ptr σ.next 0, pushC σ (some (.cells 1 (put1 .leaf 0 (some a)) none e false)))
    | false => match (cellsA a).all scalar with
      | true => some (.ptr σ.next 0, pushC σ (some (mkR (cellsA a) e false)))
      | false => none
  | none => none

def lenC (sl st : Bool) (fb : Option (AV × Heap)) (σ : Heap) : Option AV → Option (AV × Heap)
  | some (.sl _ _ len _ _) => match sl with
    | true => some (.int .i64 (.ofNat len), σ)
    | false => none
  | some (.str l) => match st with
    | true => some (.int .i64 (.ofNat l.length), σ)
    | false => none
  | some _ => fb
  | none => none

def callV {S : Type} (k : RdL S) (F : CallF) (s : S) (σ : Heap) : Option AV → Option (AV × Heap)
  | some (.func (.func g) xs ys) => match k.get s with
    | some as => F g (xs ++ as ++ ys) σ
    | none => none
  | _ => none

def appG (σ : Heap) (elem : TypeId) (bytes size : Nat) (os : Option AV) : Option AV → Option (AV × Heap)
  | some x => match os with
    | some s => match newCellsR σ size x with
      | some (n, new) => appendR σ bytes size elem s n new
      | none => none
    | none => none
  | none => none

def isIntT (P : Program) (t : TypeId) : Option Bool := match P.underlying t with
  | some (.int _) => some true
  | some _ => some false
  | none => none

def isStrT (P : Program) (t : TypeId) : Bool := match P.underlying t with
  | some .string => true
  | _ => false

def sliceElem (P : Program) (t : TypeId) : Option TypeId := match P.underlying t with
  | some (.slice e) => some e
  | _ => none

/-- A slice literal that names all its cells, one each. -/
def inRow : List (Nat × Operand) → Nat → Bool
  | [], _ => true
  | (i, _) :: l, j => match Nat.beq i j with
    | true => inRow l (Nat.succ j)
    | false => false

/-- A slice literal of elements of one cell, which names them all in their order. -/
def oneRow (P : Program) (t : TypeId) (len : Nat) (parts : List (Nat × Operand)) : Option TypeId := match P.underlying t with
  | some (.slice elem) => match szOf P elem with
    | some 1 => match Nat.beq parts.length len with
      | true => match inRow parts 0 with
        | true => match Nat.ble len 16777216 with
          | true => match zeroL P elem with
            | some [_] => some elem
            | _ => none
          | false => none
        | false => none
      | false => none
    | _ => none
  | _ => none

def bsC (e : TypeId) (len : Nat) (fb : Option (AV × Heap)) (σ : Heap) : Option (List AV) → Option (AV × Heap)
  | some l => match l.all scalar with
    | true => some (.sl σ.next 0 len len false, pushC σ (some (mkR l e false)))
    | false => fb
  | none => none

def cvC (k : IntKind) (fb : AV → Option (AV × Heap)) (σ : Heap) : Option AV → Option (AV × Heap)
  | some (.int _ n) => some (.int k (wrapF k n), σ)
  | some v => fb v
  | none => none

def callG (F : CallF) (σ : Heap) (g : FuncId) : Option (List AV) → Option (AV × Heap)
  | some as => F g as σ
  | none => none

def exC (i : Nat) (σ : Heap) : Option AV → Option (AV × Heap)
  | some (.tup l) => liftV σ (nth l i)
  | _ => none

def notC (fb : Option (AV × Heap)) (σ : Heap) : Option AV → Option (AV × Heap)
  | some (.bool b) => some (.bool (!b), σ)
  | _ => fb

def nckC (fb : Option (AV × Heap)) (σ : Heap) : Option AV → Option (AV × Heap)
  | some (.ptr b off) => some (.ptr b off, σ)
  | _ => fb

theorem binG_spec {op : BinOp} {g : IntKind → Int → Int → AV} (h : binG op = some g) {k k' : IntKind} {a b : Int} (hk : sameK k k' = true) : intBin op k a k' b = some (g k a b) := by
  cases op <;> simp only [binG, Option.some.injEq, reduceCtorEq] at h <;> subst h <;> simp [intBin, hk]

theorem fieldOff_spec {P : Program} {s : TypeId} {i d : Nat} (h : fieldOff P s i = some d) : ∃ fields f n, P.underlying s = some (.struct fields) ∧ nth fields.toList i = some f ∧ szOf P f.type = some n ∧ Nat.beq n 0 = false ∧ f.offset = d := by
  unfold fieldOff at h
  split at h
  · rename_i fields hf
    split at h
    · rename_i f hn
      split at h
      · rename_i n hs
        split at h
        · simp at h
        · rename_i hz
          exact ⟨fields, f, n, hf, hn, hs, hz, by simpa using h⟩
      · simp at h
    · simp at h
  · simp at h

/-! Matches by the recursors themselves. -/

def onInt {α : Type} (d : α) (f : IntKind → Int → α) (x : AV) : α :=
  AV.rec (motive_1 := fun _ => α) (motive_2 := fun _ => α) (fun _ => d) f (fun _ => d) (fun _ => d) (fun _ _ => d) (fun _ _ _ _ _ => d) (fun _ => d) (fun _ _ _ _ _ => d) (fun _ _ _ => d) (fun _ _ => d) (fun _ _ => d) (fun _ _ => d) (fun _ _ _ _ => d) (fun _ _ => d) d d (fun _ _ _ _ => d) x

def onPtr {α : Type} (d : α) (f : Nat → Nat → α) (x : AV) : α :=
  AV.rec (motive_1 := fun _ => α) (motive_2 := fun _ => α) (fun _ => d) (fun _ _ => d) (fun _ => d) (fun _ => d) f (fun _ _ _ _ _ => d) (fun _ => d) (fun _ _ _ _ _ => d) (fun _ _ _ => d) (fun _ _ => d) (fun _ _ => d) (fun _ _ => d) (fun _ _ _ _ => d) (fun _ _ => d) d d (fun _ _ _ _ => d) x

def onBool {α : Type} (d : α) (f : Bool → α) (x : AV) : α :=
  AV.rec (motive_1 := fun _ => α) (motive_2 := fun _ => α) f (fun _ _ => d) (fun _ => d) (fun _ => d) (fun _ _ => d) (fun _ _ _ _ _ => d) (fun _ => d) (fun _ _ _ _ _ => d) (fun _ _ _ => d) (fun _ _ => d) (fun _ _ => d) (fun _ _ => d) (fun _ _ _ _ => d) (fun _ _ => d) d d (fun _ _ _ _ => d) x

def onSl {α : Type} (d : α) (f : Nat → Nat → Nat → Nat → Bool → α) (x : AV) : α :=
  AV.rec (motive_1 := fun _ => α) (motive_2 := fun _ => α) (fun _ => d) (fun _ _ => d) (fun _ => d) (fun _ => d) (fun _ _ => d) f (fun _ => d) (fun _ _ _ _ _ => d) (fun _ _ _ => d) (fun _ _ => d) (fun _ _ => d) (fun _ _ => d) (fun _ _ _ _ => d) (fun _ _ => d) d d (fun _ _ _ _ => d) x

def onTup {α : Type} (d : α) (f : List AV → α) (x : AV) : α :=
  AV.rec (motive_1 := fun _ => α) (motive_2 := fun _ => α) (fun _ => d) (fun _ _ => d) (fun _ => d) (fun _ => d) (fun _ _ => d) (fun _ _ _ _ _ => d) (fun _ => d) (fun _ _ _ _ _ => d) (fun _ _ _ => d) (fun _ _ => d) (fun l _ => f l) (fun _ _ => d) (fun _ _ _ _ => d) (fun _ _ => d) d d (fun _ _ _ _ => d) x

/-- A guard's answer: a truth, or that its operation was not wanted. -/
def onGrd {α : Type} (d : α) (f : Bool → α) (u : α) (x : AV) : α :=
  AV.rec (motive_1 := fun _ => α) (motive_2 := fun _ => α) f (fun _ _ => d) (fun _ => d) (fun _ => d) (fun _ _ => d) (fun _ _ _ _ _ => d) (fun _ => d) (fun _ _ _ _ _ => d) (fun _ _ _ => d) (fun _ _ => d) (fun l _ => List.rec (motive := fun _ => α) u (fun _ _ _ => d) l) (fun _ _ => d) (fun _ _ _ _ => d) (fun _ _ => d) d d (fun _ _ _ _ => d) x

def onCells {α : Type} (d : α) (f : Nat → Tr AV → Option AV → α) (x : ABlk) : α :=
  ABlk.rec (motive := fun _ => α) (fun n t dz _ _ => f n t dz) (fun _ _ _ _ _ _ => d) (fun _ _ => d) (fun _ _ _ _ => d) x

theorem onInt_cases {α : Type} {d : α} {f : IntKind → Int → α} {x : AV} {r : α} (h : onInt d f x = r) : (∃ k n, x = .int k n ∧ f k n = r) ∨ d = r := by
  cases x with
  | int k n => exact .inl ⟨k, n, rfl, h⟩
  | _ => exact .inr h
theorem onPtr_cases {α : Type} {d : α} {f : Nat → Nat → α} {x : AV} {r : α} (h : onPtr d f x = r) : (∃ b o, x = .ptr b o ∧ f b o = r) ∨ d = r := by
  cases x with
  | ptr k n => exact .inl ⟨k, n, rfl, h⟩
  | _ => exact .inr h
theorem onBool_cases {α : Type} {d : α} {f : Bool → α} {x : AV} {r : α} (h : onBool d f x = r) : (∃ b, x = .bool b ∧ f b = r) ∨ d = r := by
  cases x with
  | bool b => exact .inl ⟨b, rfl, h⟩
  | _ => exact .inr h
theorem onSl_cases {α : Type} {d : α} {f : Nat → Nat → Nat → Nat → Bool → α} {x : AV} {r : α} (h : onSl d f x = r) : (∃ b o l c s, x = .sl b o l c s ∧ f b o l c s = r) ∨ d = r := by
  cases x with
  | sl b o l c s => exact .inl ⟨b, o, l, c, s, rfl, h⟩
  | _ => exact .inr h
theorem onTup_cases {α : Type} {d : α} {f : List AV → α} {x : AV} {r : α} (h : onTup d f x = r) : (∃ l, x = .tup l ∧ f l = r) ∨ d = r := by
  cases x with
  | tup l => exact .inl ⟨l, rfl, h⟩
  | _ => exact .inr h
theorem onGrd_cases {α : Type} {d u : α} {f : Bool → α} {x : AV} {r : α} (h : onGrd d f u x = r) : (∃ b, x = .bool b ∧ f b = r) ∨ (x = .tup [] ∧ u = r) ∨ d = r := by
  cases x with
  | bool b => exact .inl ⟨b, rfl, h⟩
  | tup l => cases l with
    | nil => exact .inr (.inl ⟨rfl, h⟩)
    | cons y l => exact .inr (.inr h)
  | _ => exact .inr (.inr h)
theorem onCells_cases {α : Type} {d : α} {f : Nat → Tr AV → Option AV → α} {x : ABlk} {r : α} (h : onCells d f x = r) : (∃ n t dz e sp, x = .cells n t dz e sp ∧ f n t dz = r) ∨ d = r := by
  cases x with
  | cells n t dz e sp => exact .inl ⟨n, t, dz, e, sp, rfl, h⟩
  | _ => exact .inr h
theorem orec_some {α β : Type} {f : α → Option β} {x : Option α} {r : β} (h : Option.rec (motive := fun _ => Option β) none f x = some r) : ∃ v, x = some v ∧ f v = some r := by
  cases x with
  | none => cases h
  | some v => exact ⟨v, rfl, h⟩
theorem brec_cases {α : Type} {f t : α} {b : Bool} {r : α} (h : Bool.rec (motive := fun _ => α) f t b = r) : (b = true ∧ t = r) ∨ (b = false ∧ f = r) := by
  cases b with
  | true => exact .inl ⟨rfl, h⟩
  | false => exact .inr ⟨rfl, h⟩

/-- An operation that gives a value and leaves the rest alone. -/
structure Vop (S : Type) where
  run : S → Heap → Option AV

def bin3 (g : IntKind → Int → Int → AV) (fb : AV → AV → Option AV) (oy ox : Option AV) : Option AV :=
  Option.rec (motive := fun _ => Option AV) none (fun v => Option.rec (motive := fun _ => Option AV) none (fun u =>
    onInt (fb v u) (fun k a => onInt (fb v u) (fun k' b => Bool.rec (motive := fun _ => Option AV) none (some (g k a b)) (sameK k k')) u) v) oy) ox

def sh3 (g : IntKind → Int → Nat → AV) (fb : AV → AV → Option AV) (oy ox : Option AV) : Option AV :=
  Option.rec (motive := fun _ => Option AV) none (fun v => Option.rec (motive := fun _ => Option AV) none (fun u =>
    onInt (fb v u) (fun k a => onInt (fb v u) (fun _ b => Int.rec (motive := fun _ => Option AV) (fun n => some (g k a n)) (fun _ => none) b) u) v) oy) ox

def dv3 (g : IntKind → Int → Int → AV) (fb : AV → AV → Option AV) (oy ox : Option AV) : Option AV :=
  Option.rec (motive := fun _ => Option AV) none (fun v => Option.rec (motive := fun _ => Option AV) none (fun u =>
    onInt (fb v u) (fun k a => onInt (fb v u) (fun k' b => Bool.rec (motive := fun _ => Option AV) none (Bool.rec (motive := fun _ => Option AV) (some (g k a b)) none (eqI b 0)) (sameK k k')) u) v) oy) ox

def shG : BinOp → Option (IntKind → Int → Nat → AV)
  | .shl => some fun k a n => .int k (wrapF k (mulI a (.ofNat (Nat.pow 2 (capN k n)))))
  | .shr => some fun k a n => .int k (shrI a (capN k n))
  | _ => none

def dvG : BinOp → Option (IntKind → Int → Int → AV)
  | .quo => some fun k a b => .int k (wrapF k (divI a b))
  | .rem => some fun k a b => .int k (modI a b)
  | _ => none

def ld3 (fb : Option AV) (σ : Heap) (oa : Option AV) : Option AV :=
  Option.rec (motive := fun _ => Option AV) none (fun a => onPtr fb (fun b off => Option.rec (motive := fun _ => Option AV) none (fun B =>
    onCells fb (fun n t dz => Bool.rec (motive := fun _ => Option AV) none (Option.rec (motive := fun _ => Option AV) dz some (at1 t off)) (Nat.ble (Nat.succ off) n)) B) (hget σ b)) a) oa

def fa3 (d : Nat) (ox : Option AV) : Option AV :=
  Option.rec (motive := fun _ => Option AV) none (fun a => onPtr none (fun b off => some (.ptr b (Nat.add off d))) a) ox

def nz3 (s : Nat) (fb : Option AV) (oi ox : Option AV) : Option AV :=
  Option.rec (motive := fun _ => Option AV) none (fun a => onSl none (fun b off len _ _ => Option.rec (motive := fun _ => Option AV) none (fun i =>
    onInt fb (fun _ n => Int.rec (motive := fun _ => Option AV) (fun m => Bool.rec (motive := fun _ => Option AV) none (some (.ptr b (Nat.add off (Nat.mul m s)))) (Nat.ble (Nat.succ m) len)) (fun _ => none) n) i) oi) a) ox

def cv3 (k : IntKind) (fb : Option AV) (ox : Option AV) : Option AV :=
  Option.rec (motive := fun _ => Option AV) none (fun a => onInt fb (fun _ n => some (.int k (wrapF k n))) a) ox

/-- Bytes made a text. -/
def cs3 (fb : Option AV) (σ : Heap) (ox : Option AV) : Option AV :=
  Option.rec (motive := fun _ => Option AV) none (fun a => onSl fb (fun b off len _ _ => Option.rec (motive := fun _ => Option AV) none (fun cs => Option.rec (motive := fun _ => Option AV) fb (fun l => some (.str l)) (bytesA cs)) (rangeR σ b off len)) a) ox

def bytesT (P : Program) : TypeDesc → Bool
  | .slice e => isU8 P e
  | _ => false

def ex3 (i : Nat) (ox : Option AV) : Option AV :=
  Option.rec (motive := fun _ => Option AV) none (fun a => onTup none (fun l => nth l i) a) ox

def not3 (fb : Option AV) (ox : Option AV) : Option AV :=
  Option.rec (motive := fun _ => Option AV) none (fun a => onBool fb (fun b => some (.bool (!b))) a) ox

def nck3 (fb : Option AV) (ox : Option AV) : Option AV :=
  Option.rec (motive := fun _ => Option AV) none (fun a => onPtr fb (fun b off => some (.ptr b off)) a) ox

def pk3 (oa ob oc : Option AV) : Option AV :=
  Option.rec (motive := fun _ => Option AV) none (fun a => onBool none (fun b => Bool.rec (motive := fun _ => Option AV) ob oa b) a) oc

def len3 (sl : Bool) (fb : Option AV) (ox : Option AV) : Option AV :=
  Option.rec (motive := fun _ => Option AV) none (fun a => onSl fb (fun _ _ len _ _ => Bool.rec (motive := fun _ => Option AV) none (some (.int .i64 (.ofNat len))) sl) a) ox

/-- The operations that give a value and leave the rest alone, laid ready. -/
def vopC {S : Type} (P : Program) (ev : Ev S) (o : Oper) : Option (Vop S) := match o.op with
  | .move x => some ⟨fun s _ => (ev x).get s⟩
  | .assign x => some ⟨fun s _ => (ev x).get s⟩
  | .binOp op xt x y _ => match binG op with
    | some g => some ⟨fun s _ => bin3 g (fun v u => binA P (ev.at s) o op xt v u) ((ev y).get s) ((ev x).get s)⟩
    | none => match shG op with
      | some g => some ⟨fun s _ => sh3 g (fun v u => binA P (ev.at s) o op xt v u) ((ev y).get s) ((ev x).get s)⟩
      | none => match dvG op with
        | some g => some ⟨fun s _ => dv3 g (fun v u => binA P (ev.at s) o op xt v u) ((ev y).get s) ((ev x).get s)⟩
        | none => none
  | .load t a => match aggT P t with
    | some false => some ⟨fun s σ => ld3 (v_load P (ev.at s) σ o t a) σ ((ev a).get s)⟩
    | _ => none
  | .fieldAddr s x i => match fieldOff P s i with
    | some d => some ⟨fun s _ => fa3 d ((ev x).get s)⟩
    | none => none
  | .indexAddr t x ix => match sliceElem P t with
    | some elem => match szOf P elem with
      | some z => some ⟨fun s σ => nz3 z (v_indexAddr P (ev.at s) σ o t x ix) ((ev ix).get s) ((ev x).get s)⟩
      | none => none
    | none => none
  | .convert src dst x => match P.underlying src with
    | some us => match P.underlying dst with
      | some (.int k) => some ⟨fun s σ => cv3 k (v_convert P (ev.at s) σ o src dst x) ((ev x).get s)⟩
      | some .string => match bytesT P us with
        | true => some ⟨fun s σ => cs3 (v_convert P (ev.at s) σ o src dst x) σ ((ev x).get s)⟩
        | false => none
      | _ => none
    | none => none
  | .extract x i => some ⟨fun s _ => ex3 i ((ev x).get s)⟩
  | .unOp .not t x => some ⟨fun s σ => not3 (v_unOp P (ev.at s) σ o .not t x) ((ev x).get s)⟩
  | .nilCheck x => some ⟨fun s σ => nck3 (v_nilCheck P (ev.at s) σ o x) ((ev x).get s)⟩
  | .pick c a b => some ⟨fun s _ => pk3 ((ev a).get s) ((ev b).get s) ((ev c).get s)⟩
  | .call c => match c.callee with
    | .builtin .len => match c.args.toList with
      | [x] => match c.argTypes.toList with
        | [t] => some ⟨fun s σ => len3 (isSliceT P t) (v_call P (ev.at s) σ o c) ((ev x).get s)⟩
        | _ => none
      | _ => none
    | _ => none
  | _ => none

theorem vopC_ok [Sy] {S : Type} {P : Program} {ev : Ev S} {o : Oper} {F : CallF} {s : S} {σ : Heap} {g : Vop S} {v : AV} (hg : vopC P ev o = some g) (h : g.run s σ = some v) : anyA P F (ev.at s) σ o = some (v, σ) := by
  have e' : ∀ x, ev.at s x = (ev x).get s := fun _ => rfl
  unfold vopC at hg
  split at hg
  · rename_i x ho
    simp only [Option.some.injEq] at hg; subst hg
    have h : (ev x).get s = some v := h
    simp only [anyA, ho, e', h, liftV]
  · rename_i x ho
    simp only [Option.some.injEq] at hg; subst hg
    have h : (ev x).get s = some v := h
    simp only [anyA, ho, e', h, liftV]
  · rename_i op xt x y _ ho
    split at hg
    · rename_i gg hgg
      simp only [Option.some.injEq] at hg; subst hg
      obtain ⟨a, ha, h⟩ := orec_some h
      obtain ⟨b, hb, h⟩ := orec_some h
      have fin : binA P (ev.at s) o op xt a b = some v → anyA P F (ev.at s) σ o = some (v, σ) := fun hh => by
        simp only [anyA, ho, e', v_binOp, ha, hb, hh, liftV]
      rcases onInt_cases h with ⟨k, m, rfl, h⟩ | h
      · rcases onInt_cases h with ⟨k', n, rfl, h⟩ | h
        · rcases brec_cases h with ⟨hk, h⟩ | ⟨_, h⟩
          · exact fin (by simp only [binA, binG_spec hgg hk]; exact h)
          · cases h
        · exact fin h
      · exact fin h
    · have fin : ∀ a b, (ev x).get s = some a → (ev y).get s = some b → binA P (ev.at s) o op xt a b = some v → anyA P F (ev.at s) σ o = some (v, σ) := fun a b ha hb hh => by
        simp only [anyA, ho, e', v_binOp, ha, hb, hh, liftV]
      split at hg
      · rename_i gg hgg
        simp only [Option.some.injEq] at hg; subst hg
        obtain ⟨a, ha, h⟩ := orec_some h
        obtain ⟨b, hb, h⟩ := orec_some h
        rcases onInt_cases h with ⟨k, m, rfl, h⟩ | h
        · rcases onInt_cases h with ⟨k', n, rfl, h⟩ | h
          · cases n with
            | ofNat n =>
              refine fin _ _ ha hb ?_
              rw [← h]
              cases op <;> simp only [shG, Option.some.injEq, reduceCtorEq] at hgg <;> subst hgg <;> (simp only [binA, intBin]; try rfl)
            | negSucc n => cases h
          · exact fin _ _ ha hb h
        · exact fin _ _ ha hb h
      · split at hg
        · rename_i gg hgg
          simp only [Option.some.injEq] at hg; subst hg
          obtain ⟨a, ha, h⟩ := orec_some h
          obtain ⟨b, hb, h⟩ := orec_some h
          rcases onInt_cases h with ⟨k, m, rfl, h⟩ | h
          · rcases onInt_cases h with ⟨k', n, rfl, h⟩ | h
            · rcases brec_cases h with ⟨hk, h⟩ | ⟨_, h⟩
              · rcases brec_cases h with ⟨_, h⟩ | ⟨hz, h⟩
                · cases h
                · refine fin _ _ ha hb ?_
                  rw [← h]
                  cases op <;> simp only [dvG, Option.some.injEq, reduceCtorEq] at hgg <;> subst hgg <;> (simp only [binA, intBin, hk, hz]; try rfl)
              · cases h
            · exact fin _ _ ha hb h
          · exact fin _ _ ha hb h
        · cases hg
  · rename_i t a ho
    split at hg
    · rename_i hag
      simp only [Option.some.injEq] at hg; subst hg
      have fin : v_load P (ev.at s) σ o t a = some v → anyA P F (ev.at s) σ o = some (v, σ) := fun hh => by simp only [anyA, ho, hh, liftV]
      obtain ⟨x, hx, h⟩ := orec_some h
      rcases onPtr_cases h with ⟨b, off, rfl, h⟩ | h
      · obtain ⟨B, hB, h⟩ := orec_some h
        rw [hget_eq] at hB
        rcases onCells_cases h with ⟨n, t0, dz, el, sp, rfl, h⟩ | h
        · rcases brec_cases h with ⟨hb, h⟩ | ⟨_, h⟩
          · refine fin ?_
            simp only [v_load, e', hx, loadA, hB, hag, hb, cget]
            rw [← at1_eq]
            cases hq : at1 t0 off with
            | none => rw [hq] at h; exact h
            | some q => rw [hq] at h; exact h
          · cases h
        · exact fin h
      · exact fin h
    · cases hg
  · rename_i st x i ho
    split at hg
    · rename_i d hd
      simp only [Option.some.injEq] at hg; subst hg
      obtain ⟨fields, f, n, h1, h2, h3, h4, rfl⟩ := fieldOff_spec hd
      obtain ⟨a, ha, h⟩ := orec_some h
      rcases onPtr_cases h with ⟨b, off, rfl, h⟩ | h
      · have h := Option.some.inj h
        subst h
        simp only [anyA, ho, e', v_fieldAddr, ha, h1, h2, h3, h4, liftV]
      · cases h
    · cases hg
  · rename_i t x ix ho
    split at hg
    · rename_i elem hel
      have hel' : P.underlying t = some (.slice elem) := by
        unfold sliceElem at hel
        split at hel
        · rename_i hh; simp only [Option.some.injEq] at hel; subst hel; exact hh
        · cases hel
      split at hg
      · rename_i z hz
        simp only [Option.some.injEq] at hg; subst hg
        have fin : v_indexAddr P (ev.at s) σ o t x ix = some v → anyA P F (ev.at s) σ o = some (v, σ) := fun hh => by simp only [anyA, ho, hh, liftV]
        obtain ⟨a, ha, h⟩ := orec_some h
        rcases onSl_cases h with ⟨b, off, len, cap, sp, rfl, h⟩ | h
        · obtain ⟨i, hi, h⟩ := orec_some h
          rcases onInt_cases h with ⟨k, n, rfl, h⟩ | h
          · cases n with
            | ofNat m =>
              rcases brec_cases h with ⟨hb, h⟩ | ⟨_, h⟩
              · exact fin (by simp only [v_indexAddr, e', ha, hi, hel', hb, hz]; exact h)
              · cases h
            | negSucc m => cases h
          · exact fin h
        · cases h
      · cases hg
    · cases hg
  · rename_i src dst x ho
    have fin : v_convert P (ev.at s) σ o src dst x = some v → anyA P F (ev.at s) σ o = some (v, σ) := fun hh => by simp only [anyA, ho, hh, liftVN]
    split at hg
    · rename_i u hu
      split at hg
      · rename_i k hk
        simp only [Option.some.injEq] at hg; subst hg
        obtain ⟨a, ha, h⟩ := orec_some h
        rcases onInt_cases h with ⟨k', n, rfl, h⟩ | h
        · exact fin (by simp only [v_convert, e', ha, hu, hk]; exact h)
        · exact fin h
      · rename_i hk
        split at hg
        · rename_i hbt
          simp only [Option.some.injEq] at hg; subst hg
          obtain ⟨a, ha, h⟩ := orec_some h
          rcases onSl_cases h with ⟨b, off, len, cap, sp, rfl, h⟩ | h
          · obtain ⟨cs, hcs, h⟩ := orec_some h
            rw [rangeR_eq] at hcs
            unfold bytesT at hbt
            split at hbt
            · rename_i e
              cases hba : bytesA cs with
              | none => rw [hba] at h; exact fin h
              | some l =>
                rw [hba] at h
                exact fin (by simp only [v_convert, e', ha, hu, hk, hbt, hcs, hba]; exact h)
            · cases hbt
          · exact fin h
        · cases hg
      · cases hg
    · cases hg
  · rename_i x i ho
    simp only [Option.some.injEq] at hg; subst hg
    obtain ⟨a, ha, h⟩ := orec_some h
    rcases onTup_cases h with ⟨l, rfl, h⟩ | h
    · have h : nth l i = some v := h
      simp only [anyA, ho, e', v_extract, ha, h, liftV]
    · cases h
  · rename_i t x ho
    simp only [Option.some.injEq] at hg; subst hg
    have fin : v_unOp P (ev.at s) σ o .not t x = some v → anyA P F (ev.at s) σ o = some (v, σ) := fun hh => by simp only [anyA, ho, hh, liftV]
    obtain ⟨a, ha, h⟩ := orec_some h
    rcases onBool_cases h with ⟨b, rfl, h⟩ | h
    · exact fin (by simp only [v_unOp, e', ha]; exact h)
    · exact fin h
  · rename_i x ho
    simp only [Option.some.injEq] at hg; subst hg
    have fin : v_nilCheck P (ev.at s) σ o x = some v → anyA P F (ev.at s) σ o = some (v, σ) := fun hh => by simp only [anyA, ho, hh, liftV]
    obtain ⟨a, ha, h⟩ := orec_some h
    rcases onPtr_cases h with ⟨b, off, rfl, h⟩ | h
    · exact fin (by simp only [v_nilCheck, e', ha]; exact h)
    · exact fin h
  · rename_i c a b ho
    simp only [Option.some.injEq] at hg; subst hg
    obtain ⟨x, hx, h⟩ := orec_some h
    rcases onBool_cases h with ⟨t, rfl, h⟩ | h
    · cases t with
      | true => simp only [anyA, ho, e', v_pick, hx]; rw [show (ev a).get s = some v from h]; rfl
      | false => simp only [anyA, ho, e', v_pick, hx]; rw [show (ev b).get s = some v from h]; rfl
    · cases h
  · rename_i c ho
    split at hg
    · rename_i hcal
      split at hg
      · rename_i x hx
        split at hg
        · rename_i t ht
          simp only [Option.some.injEq] at hg; subst hg
          have he : isE o = false := by unfold isE; rw [ho]; simp only [hcal]
          have fin : v_call P (ev.at s) σ o c = some v → anyA P F (ev.at s) σ o = some (v, σ) := fun hh => by simp only [anyA, ho, callOp, he, hh, liftV]
          obtain ⟨a, ha, h⟩ := orec_some h
          rcases onSl_cases h with ⟨b, off, len, cap, sp, rfl, h⟩ | h
          · rcases brec_cases h with ⟨hb, h⟩ | ⟨_, h⟩
            · exact fin (by simp only [v_call, hcal, hx, e', ha, ht, hb]; exact h)
            · cases h
          · exact fin h
        · cases hg
      · cases hg
    · cases hg
  · cases hg

def compV {S : Type} (P : Program) (ev : Ev S) (o : Oper) : Fop S := match o.op with
  | .move x => mvC ev x
  | .assign x => mvC ev x
  | .binOp op xt x y _ => match binG op with
    | some g => binC P ev o op xt x y g
    | none => othC P ev o
  | .load t a => match aggT P t with
    | some false => ⟨fun F tm σ => ld1 (anyA P F (ev.at tm) σ o) σ ((ev a).get tm)⟩
    | some true => match szOf P t with
      | some s => ⟨fun _ tm σ => lds s σ ((ev a).get tm)⟩
      | none => othC P ev o
    | none => othC P ev o
  | .store t a x => match szOf P t with
    | some s => match Nat.beq s 1 with
      | true => ⟨fun F tm σ => st1 (anyA P F (ev.at tm) σ o) σ ((ev x).get tm) ((ev a).get tm)⟩
      | false => ⟨fun _ tm σ => sts s σ ((ev x).get tm) ((ev a).get tm)⟩
    | none => othC P ev o
  | .fieldAddr s x i => match fieldOff P s i with
    | some d => ⟨fun _ tm σ => fa d σ ((ev x).get tm)⟩
    | none => othC P ev o
  | .indexAddr t x ix => match P.underlying t with
    | some (.slice elem) => match szOf P elem with
      | some s => ⟨fun F tm σ => ixS (anyA P F (ev.at tm) σ o) s σ ((ev ix).get tm) ((ev x).get tm)⟩
      | none => othC P ev o
    | _ => othC P ev o
  | .convert src dst x => match P.underlying src with
    | some _ => match P.underlying dst with
      | some (.int k) => ⟨fun F tm σ => cvC k (fun _ => anyA P F (ev.at tm) σ o) σ ((ev x).get tm)⟩
      | _ => othC P ev o
    | none => othC P ev o
  | .extract x i => ⟨fun _ tm σ => exC i σ ((ev x).get tm)⟩
  | .unOp .not _ x => ⟨fun F tm σ => notC (anyA P F (ev.at tm) σ o) σ ((ev x).get tm)⟩
  | .nilCheck x => ⟨fun F tm σ => nckC (anyA P F (ev.at tm) σ o) σ ((ev x).get tm)⟩
  | .call c => match c.callee with
    | .value (.func g) => ⟨fun F tm σ => callG F σ g ((evL ev c.args.toList).get tm)⟩
    | .value f => ⟨fun F tm σ => callV (evL ev c.args.toList) F tm σ ((ev f).get tm)⟩
    | .builtin .len => match c.args.toList with
      | [x] => match c.argTypes.toList with
        | [t] => ⟨fun F tm σ => lenC (isSliceT P t) (isStrT P t) (anyA P F (ev.at tm) σ o) σ ((ev x).get tm)⟩
        | _ => othC P ev o
      | _ => othC P ev o
    | .builtin .append => match c.args.toList with
      | [s, x] => match c.argTypes.toList with
        | [st, xt] => match sliceElem P st with
          | some elem => match isIntT P xt with
            | some false => match appInfo P elem with
              | some (bytes, size) => ⟨fun _ tm σ => appG σ elem bytes size ((ev s).get tm) ((ev x).get tm)⟩
              | none => othC P ev o
            | _ => othC P ev o
          | none => othC P ev o
        | _ => othC P ev o
      | _ => othC P ev o
    | _ => othC P ev o
  | .pick c a b => ⟨fun _ tm σ => pkC σ ((ev a).get tm) ((ev b).get tm) ((ev c).get tm)⟩
  | .alloc e => match zeroL P e with
    | some z => ⟨fun _ _ σ => some (.ptr σ.next 0, pushC σ (some (mkCells z e false)))⟩
    | none => othC P ev o
  | .box e x => ⟨fun _ tm σ => boxC e σ ((ev x).get tm)⟩
  | .slice a b c d e => ⟨fun _ tm σ => liftVNC σ (n_slice P (ev.at tm) a b c d e) (v_slice P (ev.at tm) σ o a b c d e)⟩
  | .buildSlice t len parts => match oneRow P t len parts.toList with
    | some elem => ⟨fun _ tm σ => bsC elem len (liftNC σ (n_buildSlice P (ev.at tm) t len parts)) σ ((evL ev (parts.toList.map (·.2))).get tm)⟩
    | none => ⟨fun _ tm σ => liftNC σ (n_buildSlice P (ev.at tm) t len parts)⟩
  | .build a b => ⟨fun _ tm σ => liftV σ (v_build P (ev.at tm) σ o a b)⟩
  | .field a b c => ⟨fun _ tm σ => liftV σ (v_field P (ev.at tm) σ o a b c)⟩
  | .index a b c => ⟨fun _ tm σ => liftV σ (v_index P (ev.at tm) σ o a b c)⟩
  | .makeFunc a b c => ⟨fun _ tm σ => liftV σ (v_makeFunc P (ev.at tm) σ o a b c)⟩
  | .makeInterface a b => ⟨fun _ tm σ => liftV σ (v_makeInterface P (ev.at tm) σ o a b)⟩
  | .makeMap a b => ⟨fun _ tm σ => liftNC σ (n_makeMap P (ev.at tm) a b)⟩
  | .makeSlice a b c => ⟨fun _ tm σ => liftNC σ (n_makeSlice P (ev.at tm) a b c)⟩
  | .mapUpdate a b c d => ⟨fun _ tm σ => e_mapUpdate P (ev.at tm) σ a b c d⟩
  | .lookup a b c d => ⟨fun _ tm σ => liftV σ (v_lookup P (ev.at tm) σ a b c d)⟩
  | _ => othC P ev o

theorem bin2_spec {g : IntKind → Int → Int → AV} {fb : AV → Option AV → Option (AV × Heap)} {σ : Heap} {oy ox : Option AV} {r : AV × Heap} (h : bin2 g fb σ oy ox = some r) :
    (∃ k a k' b, ox = some (.int k a) ∧ oy = some (.int k' b) ∧ sameK k k' = true ∧ r = (g k a b, σ)) ∨ (∃ v, ox = some v ∧ fb v oy = some r) := by
  unfold bin2 at h
  split at h
  · rename_i k a
    unfold bin2y at h
    split at h
    · rename_i k' b
      split at h
      · rename_i hk
        exact .inl ⟨k, a, k', b, rfl, rfl, hk, by simpa using h.symm⟩
      · simp at h
    · exact .inr ⟨_, rfl, h⟩
  · exact .inr ⟨_, rfl, h⟩
  · simp at h

theorem cellsA_scalar {v : AV} (h : scalar v = true) : cellsA v = [v] := by
  cases v <;> first | rfl | (simp [scalar] at h)

theorem partsA_evos {E : Operand → Option AV} : ∀ {ps : List (Nat × Operand)} {l : List AV}, evos E (ps.map (·.2)) = some l → partsA E ps = some ((ps.map (·.1)).zip l) ∧ l.length = ps.length
  | [], l, h => by simp only [List.map_nil, evos, Option.some.injEq] at h; subst h; exact ⟨rfl, rfl⟩
  | (i, x) :: ps, l, h => by
    simp only [List.map_cons, evos] at h
    split at h
    · rename_i a ha
      split at h
      · rename_i as has
        simp only [Option.some.injEq] at h; subst h
        obtain ⟨h1, h2⟩ := partsA_evos has
        exact ⟨by simp only [partsA, ha, h1, List.map_cons, List.zip_cons_cons], by simp [h2]⟩
      · cases h
    · cases h

theorem inRow_spec : ∀ {ps : List (Nat × Operand)} {j : Nat}, inRow ps j = true → ps.map (·.1) = (List.range ps.length).map (· + j)
  | [], j, _ => rfl
  | (i, x) :: ps, j, h => by
    simp only [inRow] at h
    split at h
    · rename_i hb
      have hb := Nat.eq_of_beq_eq_true hb
      subst hb
      simp only [List.map_cons, List.length_cons, List.range_succ_eq_map, List.map_map, inRow_spec h]
      have e : (List.range ps.length).map (· + Nat.succ i) = (List.range ps.length).map ((· + i) ∘ Nat.succ) := by
        apply List.map_congr_left
        intro k _
        show k + Nat.succ i = Nat.succ k + i
        omega
      rw [e, Nat.zero_add]
    · cases h

theorem repeatL_one (z : AV) : ∀ n, repeatL [z] n = List.replicate n z
  | 0 => rfl
  | n + 1 => by simp [repeatL, repeatL_one z n, List.replicate_succ]

/-- Cells laid one by one into a row. -/
theorem fillA_row : ∀ (l done rest : List AV), l.all scalar = true → rest.length = l.length →
    fillA (fun i => some (Nat.mul i 1, 1)) (done ++ rest) ((List.range l.length).map (· + done.length) |>.zip l) = some (done ++ l)
  | [], done, rest, _, h => by
    have : rest = [] := List.eq_nil_of_length_eq_zero h
    subst this
    rfl
  | x :: l, done, [], _, h => by simp at h
  | x :: l, done, y :: rest, hs, h => by
    simp only [List.all_cons, Bool.and_eq_true] at hs
    have hc := cellsA_scalar hs.1
    simp only [List.length_cons, List.range_succ_eq_map, List.map_cons, List.map_map, List.zip_cons_cons, fillA, hc]
    have e1 : Nat.mul (0 + done.length) 1 = done.length := by show (0 + done.length) * 1 = _; omega
    rw [e1]
    have e2 : Nat.ble (Nat.add done.length 1) (done ++ y :: rest).length = true := by
      rw [ble_dec]; simp
    rw [e2]
    have hx : scalar x = true := hs.1
    simp only [List.length_nil, Nat.beq, List.all_cons, hx, List.all_nil, Bool.and_self, fillA.setMany]
    have e3 : (done ++ y :: rest).set done.length x = (done ++ [x]) ++ rest := by simp
    rw [e3]
    have ih := fillA_row l (done ++ [x]) rest hs.2 (by simpa using h)
    have e4 : ((List.range l.length).map ((fun k => k + done.length) ∘ Nat.succ)) = (List.range l.length).map (· + (done ++ [x]).length) := by
      apply List.map_congr_left
      intro k _
      simp; omega
    rw [e4, ih]
    simp

theorem oneRow_spec {P : Program} {E : Operand → Option AV} {t : TypeId} {len : Nat} {parts : Array (Nat × Operand)} {elem : TypeId} {l : List AV} (h : oneRow P t len parts.toList = some elem) (hl : evos E (parts.toList.map (·.2)) = some l)
    (hs : l.all scalar = true) : n_buildSlice P E t len parts = some (some (mkCells l elem false), fun n => .sl n 0 len len false) := by
  unfold oneRow at h
  split at h
  · rename_i el hd
    split at h
    · rename_i hsz
      split at h
      · rename_i hlen
        have hlen := Nat.eq_of_beq_eq_true hlen
        split at h
        · rename_i hrow
          split at h
          · rename_i hle
            split at h
            · rename_i z hz
              simp only [Option.some.injEq] at h; subst h
              obtain ⟨h1, h2⟩ := partsA_evos hl
              have h3 := inRow_spec hrow
              have hle' : Nat.ble (Nat.mul len 1) 16777216 = true := by
                rw [show Nat.mul len 1 = len from Nat.mul_one len]; exact hle
              unfold n_buildSlice
              simp only [hd, hsz, hle', hz, List.length_cons, List.length_nil, Nat.reduceAdd, Nat.beq, h1, h3]
              have := fillA_row l [] (repeatL [z] len) hs (by rw [repeatL_one]; simp [h2, hlen])
              simp only [List.nil_append, List.length_nil, h2] at this
              rw [this]
            · cases h
          · cases h
        · cases h
      · cases h
    · cases h
  · cases h

theorem compV_ok [Sy] {S : Type} {P : Program} {ev : Ev S} {o : Oper} {F : CallF} {tm : S} {σ : Heap} {r : AV × Heap} (hev : ∀ g s, ev.at s (.func g) = some (.func (.func g) [] [])) (h : (compV P ev o).run F tm σ = some r) : anyA P F (ev.at tm) σ o = some r := by
  have e' : ∀ x, ev.at tm x = (ev x).get tm := fun _ => rfl
  unfold compV at h
  split at h
  · rename_i x ho; simpa only [anyA, ho, mvC, e'] using h
  · rename_i x ho; simpa only [anyA, ho, mvC, e'] using h
  · rename_i op xt x y _ ho
    split at h
    · rename_i g hg
      simp only [binC] at h
      simp only [anyA, ho, e', v_binOp]
      rcases bin2_spec h with ⟨k, a, k', b, hx, hy, hk, rfl⟩ | ⟨v, hx, hf⟩
      · simp only [hx, hy, binA, binG_spec hg hk, liftV]
      · unfold binFb at hf
        split at hf
        · rename_i u hu
          simp only [hx, hu]; exact hf
        · simp at hf
    · exact h
  · rename_i t a ho
    split at h
    · rename_i hag
      simp only [ld1, hget_eq, cget1_eq] at h
      split at h
      · rename_i b off hx
        simp only [anyA, ho, e', v_load]
        simp only [hx, loadA]
        split at h
        · rename_i hb
          simp only [hb, hag]
          split at h
          · rename_i hl; simp only [hl]; exact h
          · simp at h
        · simp at h
      · exact h
      · simp at h
    · rename_i hag
      split at h
      · rename_i s hs
        simp only [anyA, ho, e', v_load]
        simp only [lds, hget_eq, cgetsR_eq] at h
        split at h
        · rename_i b off hx
          simp only [hx, loadA]
          split at h
          · rename_i hb
            simp only [hb, hag, hs]
            split at h
            · rename_i hl
              simp only [hl]
              split at h
              · rename_i l hc; simp only [hc, liftV]; exact h
              · simp at h
            · simp at h
          · simp at h
        · simp at h
      · exact h
    · exact h
  · rename_i t a x ho
    split at h
    · rename_i s hs
      split at h
      · rename_i h1
        have h1 : s = 1 := Nat.eq_of_beq_eq_true h1
        subst h1
        simp only [st1] at h
        split at h
        · rename_i b off hx
          split at h
          · rename_i v hv
            split at h
            · rename_i hsc
              have hcl := cellsA_scalar hsc
              split at h
              · rename_i n t0 dz e sp hb
                rw [hget_eq] at hb
                split at h
                · rename_i hl
                  simp only [anyA, ho, e', e_store, hx, hv, storeA, hs, hcl, storeCellsA, hb]
                  have hl' : Nat.ble (Nat.add off [v].length) n = true := hl
                  simp only [List.length_cons, List.length_nil, Nat.reduceAdd] at hl'
                  simp only [List.length_cons, List.length_nil, Nat.reduceAdd, Nat.beq, hl', List.all_cons, hsc, List.all_nil, Bool.and_self]
                  rw [← h]
                  simp only [Heap.set, Tr.ofList, put1_eq]
                · simp at h
              · simp at h
            · exact h
          · simp at h
        · exact h
        · simp at h
      · simp only [anyA, ho, e', e_store]
        simp only [sts, storeCellsR_eq] at h
        split at h
        · rename_i b off hx
          simp only [hx]
          split at h
          · rename_i v hv
            simp only [storeA, hs]
            split at h
            · rename_i hl
              rw [hv]
              simp only [hl]
              exact h
            · simp at h
          · simp at h
        · simp at h
    · exact h
  · rename_i s x i ho
    split at h
    · rename_i d hd
      obtain ⟨fields, f, n, h1, h2, h3, h4, rfl⟩ := fieldOff_spec hd
      simp only [anyA, ho, e', v_fieldAddr]
      simp only [fa] at h
      split at h
      · rename_i b off hx
        simp only [hx, h1, h2, h3, h4, liftV]; exact h
      · simp at h
    · exact h
  · rename_i t x ix ho
    split at h
    · rename_i elem he
      split at h
      · rename_i s hs
        simp only [ixS] at h
        split at h
        · rename_i b off len _ _ hx
          unfold ixGo at h
          split at h
          · rename_i i hi
            simp only [anyA, ho, e', v_indexAddr, hx, he]
            rw [hi]
            split at h
            · rename_i hl
              simp only [hl, hs, liftV]; exact h
            · simp at h
          · exact h
          · simp at h
        · simp at h
      · exact h
    · exact h
  · rename_i src dst x ho
    split at h
    · rename_i u hu
      split at h
      · rename_i k hk
        simp only [cvC] at h
        split at h
        · rename_i n hx
          simp only [anyA, ho, e', v_convert, hx, hu, hk, liftVN]; exact h
        · exact h
        · simp at h
      · exact h
    · exact h
  · rename_i x i ho
    simp only [anyA, ho, e', v_extract]
    simp only [exC] at h
    split at h
    · rename_i l hx; simp only [hx]; exact h
    · simp at h
  · rename_i t x ho
    simp only [notC] at h
    split at h
    · rename_i b hx
      simp only [anyA, ho, e', v_unOp, hx, liftV]; exact h
    · exact h
  · rename_i x ho
    simp only [nckC] at h
    split at h
    · rename_i b off hx
      simp only [anyA, ho, e', v_nilCheck, hx, liftV]; exact h
    · exact h
  · rename_i c ho
    split at h
    · rename_i g hg
      simp only [callG] at h
      split at h
      · rename_i as has
        rw [evL_get] at has
        have hgv : ev.at tm (.func g) = some (.func (.func g) [] []) := hev g tm
        have he : isE o = true := by unfold isE; rw [ho]; simp only [hg]
        simp only [anyA, ho, callOp, he, e_call, hg, calleeA, hgv, has, List.nil_append, List.append_nil]; exact h
      · simp at h
    · rename_i f hne hg
      have he : isE o = true := by unfold isE; rw [ho]; simp only [hg]
      simp only [callV] at h
      split at h
      · rename_i g xs ys hf
        split at h
        · rename_i as has
          rw [evL_get] at has
          simp only [anyA, ho, callOp, he, e_call, hg, calleeA, e', hf, has]; exact h
        · simp at h
      · simp at h
    · rename_i hg
      have he : isE o = false := by unfold isE; rw [ho]; simp only [hg]
      split at h
      · rename_i x hx
        split at h
        · rename_i t ht
          simp only [lenC] at h
          split at h
          · rename_i hv
            split at h
            · rename_i hsl
              simp only [anyA, ho, callOp, he, v_call, hg, hx, e', hv, ht, hsl, liftV]; exact h
            · simp at h
          · rename_i l hv
            split at h
            · rename_i hst
              have hst' : P.underlying t = some .string := by
                unfold isStrT at hst
                split at hst
                · assumption
                · cases hst
              simp only [anyA, ho, callOp, he, v_call, hg, hx, e', hv, ht, hst', liftV]; exact h
            · simp at h
          · exact h
          · simp at h
        · exact h
      · exact h
    · rename_i hg
      have he : isE o = true := by unfold isE; rw [ho]; simp only [hg]
      split at h
      · rename_i s x hx
        split at h
        · rename_i st xt ht
          split at h
          · rename_i elem hel
            have hel' : P.underlying st = some (.slice elem) := by
              unfold sliceElem at hel
              split at hel
              · rename_i hh; simp only [Option.some.injEq] at hel; subst hel; exact hh
              · cases hel
            split at h
            · rename_i hint
              split at h
              · rename_i bytes size hinf
                have hsz := appInfo_sz hinf
                simp only [appG, newCellsR_eq P, appendR_eq hinf] at h
                split at h
                · rename_i xv hxv
                  split at h
                  · rename_i sv hsv
                    unfold isIntT at hint
                    split at hint
                    · simp at hint
                    · rename_i d hd hne
                      simp only [anyA, ho, callOp, he, e_call, hg, hx, ht, hel', hne, e', hsv, hxv, hsz]
                      exact h
                    · cases hint
                  · simp at h
                · simp at h
              · exact h
            · exact h
          · exact h
        · exact h
      · exact h
    · exact h
  · rename_i c a b ho
    simp only [anyA, ho, e', v_pick]
    simp only [pkC] at h
    split at h
    · rename_i hc; simp only [hc]; exact h
    · rename_i hc; simp only [hc]; exact h
    · simp at h
  · rename_i e ho
    split at h
    · rename_i z hz
      simp only [anyA, ho, n_alloc, hz, liftN, ← pushC_eq]; exact h
    · exact h
  · rename_i e x ho
    simp only [anyA, ho, n_box, e']
    simp only [boxC] at h
    split at h
    · rename_i a ha
      simp only [ha]
      split at h
      · rename_i hsc
        have hcl := cellsA_scalar hsc
        simp only [hcl, List.all_cons, hsc, List.all_nil, Bool.and_self, liftN, ← pushC_eq]
        rw [← h]
        simp only [mkCells, List.length_cons, List.length_nil, Tr.ofList, put1_eq]
      · split at h
        · rename_i hall
          simp only [mkR_eq] at h
          simp only [hall, liftN, ← pushC_eq]; exact h
        · simp at h
    · simp at h
  · rename_i a b c d e ho
    simp only [liftVNC_eq] at h
    simp only [anyA, ho]; exact h
  · rename_i t len parts ho
    split at h
    · rename_i elem hrow
      simp only [bsC, liftNC_eq] at h
      simp only [anyA, ho]
      split at h
      · rename_i l hl
        split at h
        · rename_i hall
          rw [evL_get] at hl
          rw [oneRow_spec hrow hl hall]
          simp only [liftN, ← pushC_eq, ← mkR_eq]; exact h
        · exact h
      · simp at h
    · simp only [liftNC_eq] at h
      simp only [anyA, ho]; exact h
  · rename_i a b ho; simp only [anyA, ho]; exact h
  · rename_i a b c ho; simp only [anyA, ho]; exact h
  · rename_i a b c ho; simp only [anyA, ho]; exact h
  · rename_i a b c ho; simp only [anyA, ho]; exact h
  · rename_i a b ho; simp only [anyA, ho]; exact h
  · rename_i a b ho; simp only [liftNC_eq] at h; simp only [anyA, ho]; exact h
  · rename_i a b c ho; simp only [liftNC_eq] at h; simp only [anyA, ho]; exact h
  · rename_i a b c d ho; simp only [anyA, ho]; exact h
  · rename_i a b c d ho; simp only [anyA, ho]; exact h
  · exact h

/-! ## Regions that draw their order, laid ready -/

structure DS where
  tm : Tr AV
  R : Tr AV

def evDS (srcs : List (Tmp × Nat)) : Ev DS := fun x => match x with
  | .tmp t => match assoc srcs t with
    | some i => ⟨fun s => (gAt i).run s.R⟩
    | none => ⟨fun s => Option.rec (motive := fun _ => Option AV) (some (.tup [])) some ((gAt t).run s.tm)⟩
  | .const v => match ofValue v with
    | some a => ⟨fun _ => some a⟩
    | none => ⟨fun _ => none⟩
  | .global _ => ⟨fun _ => none⟩
  | .func f => ⟨fun _ => some (.func (.func f) [] [])⟩

theorem evDS_at [Sy] (srcs : List (Tmp × Nat)) (tm R : Tr AV) : (evDS srcs).at ⟨tm, R⟩ = evD tm R srcs := by
  funext x
  cases x with
  | tmp t =>
    simp only [Ev.at, evDS, evD]
    split
    · rename_i i h; simp only [gAt_eq, h]
    · rename_i h; simp only [gAt_eq, h, evo]; exact tget_eq _
  | const v =>
    simp only [Ev.at, evDS, evD, evo]
    split
    · rename_i a h; simp only [h]
    · rename_i h; simp only [h]
  | global g => rfl
  | func f => rfl

structure Fdr where
  run : CallF → Tr AV → Tr AV → Heap → Option (Tr AV × Heap)

def putR (i : Nat) (R : Tr AV) : Option (AV × Heap) → Option (Tr AV × Heap)
  | some (v, σ) => some ((pAt i).run R (some v), σ)
  | none => none

def grdD (want : Bool) (go : Fop DS) (i : Nat) (F : CallF) (tm R : Tr AV) (σ : Heap) : Option AV → Option (Tr AV × Heap)
  | some (.bool b) => match isTrueB b want with
    | true => putR i R (go.run F ⟨tm, R⟩ σ)
    | false => some ((pAt i).run R (some (.tup [])), σ)
  | some (.tup []) => some ((pAt i).run R (some (.tup [])), σ)
  | _ => none

def compX (P : Program) (d : DOp) : Fdr := match d.o.guard with
  | none => ⟨fun F tm R σ => putR d.idx R ((compV P (evDS d.srcs) d.o).run F ⟨tm, R⟩ σ)⟩
  | some (j, want) => ⟨fun F tm R σ => grdD want (compV P (evDS d.srcs) d.o) d.idx F tm R σ ((gAt j).run R)⟩

theorem compX_ok [Sy] {P : Program} {d : DOp} {F : CallF} {tm R : Tr AV} {σ : Heap} {r : Tr AV × Heap} (h : (compX P d).run F tm R σ = some r) : execD P F tm R σ d = some r := by
  have hgo : ∀ {x : Tr AV × Heap}, wantedD R d.o = some true → putR d.idx R ((compV P (evDS d.srcs) d.o).run F ⟨tm, R⟩ σ) = some x → execD P F tm R σ d = some x := by
    intro x hw hx
    simp only [putR, pAt_eq] at hx
    split at hx
    · rename_i v σ' hv
      have := compV_ok (fun _ _ => rfl) hv
      rw [evDS_at] at this
      simp only [execD, hw, this]; exact hx
    · simp at hx
  unfold compX at h
  split at h
  · rename_i hg
    exact hgo (by simp [wantedD, hg]) h
  · rename_i j want hg
    simp only [grdD, gAt_eq, pAt_eq] at h
    split at h
    · rename_i b hb
      split at h
      · rename_i ht
        exact hgo (by simp only [wantedD, hg, hb, ht]) h
      · rename_i ht
        have hw : wantedD R d.o = some false := by simp only [wantedD, hg, hb, ht]
        simp only [execD, hw]; exact h
    · rename_i hb
      have hw : wantedD R d.o = some false := by simp only [wantedD, hg, hb]
      simp only [execD, hw]; exact h
    · simp at h

structure Fag where
  run : Tr AV → Tr AV → Heap → Bool

def noF : CallF := fun _ _ _ => none

def agn (k : Fag) (i : Nat) (tm R : Tr AV) (σ : Heap) : Option (AV × Heap) → Bool
  | some (v, _) => match (gAt i).run R with
    | some v' => match beqS v v' with
      | true => k.run tm R σ
      | false => false
    | none => false
  | none => false

def agnG (want : Bool) (go : Fop DS) (k : Fag) (i : Nat) (tm R : Tr AV) (σ : Heap) : Option AV → Bool
  | some (.bool b) => match isTrueB b want with
    | true => agn k i tm R σ (go.run noF ⟨tm, R⟩ σ)
    | false => k.run tm R σ
  | some (.tup []) => k.run tm R σ
  | _ => false

def againC (P : Program) : List DOp → Fag
  | [] => ⟨fun _ _ _ => true⟩
  | d :: rest => match isLoad P d.o with
    | false => ⟨fun _ _ _ => false⟩
    | true => match isE d.o with
      | true => ⟨fun _ _ _ => false⟩
      | false => match d.o.guard with
        | none => ⟨fun tm R σ => agn (againC P rest) d.idx tm R σ ((compV P (evDS d.srcs) d.o).run noF ⟨tm, R⟩ σ)⟩
        | some (j, want) => ⟨fun tm R σ => agnG want (compV P (evDS d.srcs) d.o) (againC P rest) d.idx tm R σ ((gAt j).run R)⟩

theorem againC_ok [Sy] {P : Program} {tm R : Tr AV} {σ : Heap} : ∀ {l : List DOp}, (againC P l).run tm R σ = true → againA P tm R σ l = true
  | [], _ => rfl
  | d :: l, h => by
    simp only [againC] at h
    split at h
    · simp at h
    · rename_i hl
      split at h
      · simp at h
      · rename_i he
        have hgo : wantedD R d.o = some true → agn (againC P l) d.idx tm R σ ((compV P (evDS d.srcs) d.o).run noF ⟨tm, R⟩ σ) = true → againA P tm R σ (d :: l) = true := by
          intro hw hx
          simp only [agn, gAt_eq] at hx
          split at hx
          · rename_i v σ' hv
            have := compV_ok (fun _ _ => rfl) hv
            rw [evDS_at] at this
            have haV : aV P (evD tm R d.srcs) σ d.o = some v := by
              rcases anyA_cases this with ⟨_, h1, _⟩ | ⟨_, B, mk, h1, _, _⟩ | ⟨h0, _⟩
              · exact h1
              · rw [aN_nonload h1] at hl; cases hl
              · rw [he] at h0; cases h0
            split at hx
            · rename_i v' hv'
              split at hx
              · rename_i hb
                simp only [againA, hw, haV, hv', hb]
                exact againC_ok hx
              · cases hx
            · cases hx
          · cases hx
        split at h
        · rename_i hg
          exact hgo (by simp [wantedD, hg]) h
        · rename_i j want hg
          simp only [agnG, gAt_eq] at h
          split at h
          · rename_i b hb
            split at h
            · rename_i ht
              exact hgo (by simp only [wantedD, hg, hb, ht]) h
            · rename_i ht
              have hw : wantedD R d.o = some false := by simp only [wantedD, hg, hb, ht]
              simp only [againA, hw]; exact againC_ok h
          · rename_i hb
            have hw : wantedD R d.o = some false := by simp only [wantedD, hg, hb]
            simp only [againA, hw]; exact againC_ok h
          · cases h

def bindD (k : Fdr) (F : CallF) (tm : Tr AV) : Option (Tr AV × Heap) → Option (Tr AV × Heap)
  | some (R, σ) => k.run F tm R σ
  | none => none

def bindA (g : Fag) (k : Fdr) (F : CallF) (tm : Tr AV) : Option (Tr AV × Heap) → Option (Tr AV × Heap)
  | some (R, σ) => match g.run tm R σ with
    | true => k.run F tm R σ
    | false => none
  | none => none

def stepsC (P : Program) : List PStep → Fdr
  | [] => ⟨fun _ _ R σ => some (R, σ)⟩
  | .quiet d :: rest => ⟨fun F tm R σ => bindD (stepsC P rest) F tm ((compX P d).run F tm R σ)⟩
  | .act d again :: rest => ⟨fun F tm R σ => bindA (againC P again) (stepsC P rest) F tm ((compX P d).run F tm R σ)⟩

theorem stepsC_ok [Sy] {P : Program} {F : CallF} {tm : Tr AV} : ∀ {l : List PStep} {R : Tr AV} {σ : Heap} {r : Tr AV × Heap}, (stepsC P l).run F tm R σ = some r → stepsD P F tm l R σ = some r
  | [], R, σ, r, h => by simpa only [stepsC, stepsD] using h
  | .quiet d :: l, R, σ, r, h => by
    simp only [stepsC, bindD] at h
    split at h
    · rename_i R' σ' hx
      simp only [stepsD, compX_ok hx]
      exact stepsC_ok h
    · simp at h
  | .act d again :: l, R, σ, r, h => by
    simp only [stepsC, bindA] at h
    split at h
    · rename_i R' σ' hx
      split at h
      · rename_i hg
        simp only [stepsD, compX_ok hx, againC_ok hg]
        exact stepsC_ok h
      · simp at h
    · simp at h

structure Fly where
  run : Tr AV → Tr AV → Option (Tr AV)

def layN (k : Fly) (R tm : Tr AV) : Option AV → Option (Tr AV)
  | some _ => k.run R tm
  | none => none

def layP (t : Nat) (k : Fly) (R tm : Tr AV) : Option AV → Option (Tr AV)
  | some v => k.run R ((pAt t).run tm (some v))
  | none => none

def layC (nt : Nat) : List DOp → Fly
  | [] => ⟨fun _ tm => some tm⟩
  | d :: rest => match d.o.dst with
    | none => ⟨fun R tm => layN (layC nt rest) R tm ((gAt d.idx).run R)⟩
    | some t => match Nat.ble (Nat.succ t) nt with
      | true => ⟨fun R tm => layP t (layC nt rest) R tm ((gAt d.idx).run R)⟩
      | false => ⟨fun _ _ => none⟩

theorem layC_ok [Sy] {nt : Nat} {R : Tr AV} : ∀ {l : List DOp} {tm tm' : Tr AV}, (layC nt l).run R tm = some tm' → layD nt R l tm = some tm'
  | [], tm, tm', h => by simpa only [layC, layD] using h
  | d :: l, tm, tm', h => by
    simp only [layC] at h
    split at h
    · rename_i hd
      simp only [layN, gAt_eq] at h
      split at h
      · rename_i v hv
        simp only [layD, hv, putA, hd]; exact layC_ok h
      · simp at h
    · rename_i t hd
      split at h
      · rename_i hb
        simp only [layP, gAt_eq, pAt_eq] at h
        split at h
        · rename_i v hv
          simp only [layD, hv, putA, hd, hb]; exact layC_ok h
        · simp at h
      · simp at h

structure Fex where
  run : CallF → Tr AV → Heap → Option (Tr AV × Heap)

def layE (k : Fly) (tm : Tr AV) : Option (Tr AV × Heap) → Option (Tr AV × Heap)
  | some (R, σ) => match k.run R tm with
    | some tm' => some (tm', σ)
    | none => none
  | none => none

def drawC (P : Program) (nt : Nat) (ops : List Oper) : Fex := match planOf P ops with
  | some (ds, p) => ⟨fun F tm σ => layE (layC nt ds) tm ((stepsC P p).run F tm .leaf σ)⟩
  | none => ⟨fun _ _ _ => none⟩

theorem drawC_ok [Sy] {P : Program} {nt : Nat} {ops : List Oper} {F : CallF} {tm : Tr AV} {σ : Heap} {r : Tr AV × Heap} (h : (drawC P nt ops).run F tm σ = some r) : drawA P F nt ops tm σ = some r := by
  unfold drawC at h
  split at h
  · rename_i ds p hp
    simp only [layE] at h
    split at h
    · rename_i R σ' hs
      split at h
      · rename_i tm' hl
        simp only [drawA, hp, stepsC_ok hs, layC_ok hl]; exact h
      · simp at h
    · simp at h
  · simp at h

end
end Go.Ev
