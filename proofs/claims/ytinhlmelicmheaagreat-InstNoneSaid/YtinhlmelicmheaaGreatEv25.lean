import Derived.Test.YtinhlmelicmheaaGreatEv24
namespace Go.Ev
open Go

/-! ## Tries by their recursors: what the kernel runs quickest -/

noncomputable def tgetR {α : Type} (t : Tr α) : Nat → Option α :=
  Tr.rec (motive := fun _ => Nat → Option α) (fun _ => none) (fun _ v _ gl gr i => Bool.rec (Bool.rec (gr (Nat.div i 2)) (gl (Nat.div i 2)) (Nat.beq (Nat.mod i 2) 0)) v (Nat.beq i 1)) t

theorem tgetR_eq {α : Type} : ∀ (t : Tr α) (i : Nat), tgetR t i = t.get i
  | .leaf, _ => rfl
  | .node l v r, i => by
    have hl := tgetR_eq l (Nat.div i 2)
    have hr := tgetR_eq r (Nat.div i 2)
    simp only [Tr.get, ← hl, ← hr]
    show @Bool.rec (fun _ => Option α) (@Bool.rec (fun _ => Option α) (tgetR r (Nat.div i 2)) (tgetR l (Nat.div i 2)) (Nat.beq (Nat.mod i 2) 0)) v (Nat.beq i 1) = _
    cases Nat.beq i 1 <;> cases Nat.beq (Nat.mod i 2) 0 <;> rfl

noncomputable def tpathR {α : Type} (f : Nat) : Nat → Option α → Tr α :=
  Nat.rec (motive := fun _ => Nat → Option α → Tr α) (fun _ _ => .leaf) (fun _ g i x => Bool.rec (Bool.rec (.node .leaf none (g (Nat.div i 2) x)) (.node (g (Nat.div i 2) x) none .leaf) (Nat.beq (Nat.mod i 2) 0)) (.node .leaf x .leaf) (Nat.beq i 1)) f

theorem tpathR_eq {α : Type} : ∀ (f i : Nat) (x : Option α), tpathR f i x = Tr.putF f .leaf i x
  | 0, _, _ => rfl
  | f + 1, i, x => by
    have h := tpathR_eq f (Nat.div i 2) x
    simp only [Tr.putF, ← h]
    show @Bool.rec (fun _ => Tr α) (@Bool.rec (fun _ => Tr α) (Tr.node .leaf none (tpathR f (Nat.div i 2) x)) (.node (tpathR f (Nat.div i 2) x) none .leaf) (Nat.beq (Nat.mod i 2) 0)) (.node .leaf x .leaf) (Nat.beq i 1) = _
    cases Nat.beq i 1 <;> cases Nat.beq (Nat.mod i 2) 0 <;> rfl

noncomputable def tputR {α : Type} (t : Tr α) : Nat → Nat → Option α → Tr α :=
  Tr.rec (motive := fun _ => Nat → Nat → Option α → Tr α) (fun f i x => tpathR f i x)
    (fun l v r gl gr f i x => Nat.rec (motive := fun _ => Tr α) (.node l v r) (fun f' _ => Bool.rec (Bool.rec (.node l v (gr f' (Nat.div i 2) x)) (.node (gl f' (Nat.div i 2) x) v r) (Nat.beq (Nat.mod i 2) 0)) (.node l x r) (Nat.beq i 1)) f) t

theorem tputR_eq {α : Type} : ∀ (t : Tr α) (f i : Nat) (x : Option α), tputR t f i x = Tr.putF f t i x
  | .leaf, f, i, x => tpathR_eq f i x
  | .node l v r, 0, i, x => by simp only [Tr.putF]; rfl
  | .node l v r, f + 1, i, x => by
    have hl := tputR_eq l f (Nat.div i 2) x
    have hr := tputR_eq r f (Nat.div i 2) x
    simp only [Tr.putF, ← hl, ← hr]
    show @Bool.rec (fun _ => Tr α) (@Bool.rec (fun _ => Tr α) (Tr.node l v (tputR r f (Nat.div i 2) x)) (.node (tputR l f (Nat.div i 2) x) v r) (Nat.beq (Nat.mod i 2) 0)) (.node l x r) (Nat.beq i 1) = _
    cases Nat.beq i 1 <;> cases Nat.beq (Nat.mod i 2) 0 <;> rfl

noncomputable def at1 {α : Type} (t : Tr α) (i : Nat) : Option α := tgetR t (Nat.succ i)
noncomputable def put1 {α : Type} (t : Tr α) (i : Nat) (x : Option α) : Tr α := tputR t (Nat.succ i) (Nat.succ i) x

theorem at1_eq {α : Type} (t : Tr α) (i : Nat) : at1 t i = t.at0 i := tgetR_eq _ _
theorem put1_eq {α : Type} (t : Tr α) (i : Nat) (x : Option α) : put1 t i x = t.put0 i x := tputR_eq _ _ _ _

noncomputable def cget1 (t : Tr AV) (dz : Option AV) (i : Nat) : Option AV :=
  match at1 t i with
  | some x => some x
  | none => dz

theorem cget1_eq (t : Tr AV) (dz : Option AV) (i : Nat) : cget1 t dz i = cget t dz i := by
  simp only [cget1, cget, at1_eq]
  rfl

noncomputable def hget (σ : Heap) (b : Nat) : Option ABlk := at1 σ.m b
theorem hget_eq (σ : Heap) (b : Nat) : hget σ b = σ.get b := at1_eq _ _

noncomputable section

/-! ## Operations laid ready: what does not hang on the state is settled once -/

structure Fop (S : Type) where
  run : CallF → S → Heap → Option (AV × Heap)

/-- How an operand is read off the state. -/
structure Rd (S : Type) where
  get : S → Option AV

abbrev Ev (S : Type) := Operand → Rd S

def Ev.at {S : Type} (ev : Ev S) (s : S) : Operand → Option AV := fun x => (ev x).get s

def tget : Option AV → Option AV
  | some .bad => none
  | some x => some x
  | none => some (.tup [])

/-- The slots. -/
def evS : Ev (Tr AV) := fun x => match x with
  | .tmp t => ⟨fun tm => tget (at1 tm t)⟩
  | .const v => match ofValue v with
    | some a => ⟨fun _ => some a⟩
    | none => ⟨fun _ => none⟩
  | .global _ => ⟨fun _ => none⟩
  | .func f => ⟨fun _ => some (.func (.func f) [] [])⟩

theorem evS_at (tm : Tr AV) : evS.at tm = evo tm := by
  funext x
  cases x with
  | tmp t =>
    simp only [Ev.at, evS, at1_eq]
    rfl
  | const v =>
    simp only [Ev.at, evS, evo]
    split
    · rename_i a h; simp only [h]
    · rename_i h; simp only [h]
  | global g => rfl
  | func f => rfl

/-- A list of operands, read. -/
structure RdL (S : Type) where
  get : S → Option (List AV)

def consV (a : AV) : Option (List AV) → Option (List AV)
  | some l => some (a :: l)
  | none => none

def consL {S : Type} (k : RdL S) (s : S) : Option AV → Option (List AV)
  | some a => consV a (k.get s)
  | none => none

def evL {S : Type} (ev : Ev S) : List Operand → RdL S
  | [] => ⟨fun _ => some []⟩
  | x :: l => ⟨fun s => consL (evL ev l) s ((ev x).get s)⟩

theorem evL_get {S : Type} {ev : Ev S} {s : S} : ∀ l : List Operand, (evL ev l).get s = evos (ev.at s) l
  | [] => rfl
  | x :: l => by
    simp only [evL, evos, consL, Ev.at]
    split
    · rename_i a h
      simp only [h]
      have := evL_get (ev := ev) (s := s) l
      rw [this]
      simp only [consV]
      rfl
    · rename_i h; simp only [h]

def binFb {S : Type} (P : Program) (ev : Ev S) (tm : S) (σ : Heap) (o : Oper) (op : BinOp) (xt : TypeId) (v : AV) : Option AV → Option (AV × Heap)
  | some u => liftV σ (binA P (ev.at tm) o op xt v u)
  | none => none

def bin2y (g : IntKind → Int → Int → AV) (fb : Option AV → Option (AV × Heap)) (σ : Heap) (k : IntKind) (a : Int) : Option AV → Option (AV × Heap)
  | some (.int k' b) => match sameK k k' with
    | true => some (g k a b, σ)
    | false => none
  | oy => fb oy

def bin2 (g : IntKind → Int → Int → AV) (fb : AV → Option AV → Option (AV × Heap)) (σ : Heap) (oy : Option AV) : Option AV → Option (AV × Heap)
  | some (.int k a) => bin2y g (fb (.int k a)) σ k a oy
  | some v => fb v oy
  | none => none

def binC {S : Type} (P : Program) (ev : Ev S) (o : Oper) (op : BinOp) (xt : TypeId) (x y : Operand) (g : IntKind → Int → Int → AV) : Fop S :=
  ⟨fun _ tm σ => bin2 g (binFb P ev tm σ o op xt) σ ((ev y).get tm) ((ev x).get tm)⟩

/-- The plain integer operations. -/
def binG : BinOp → Option (IntKind → Int → Int → AV)
  | .add => some fun k a b => .int k (wrapF k (addI a b))
  | .sub => some fun k a b => .int k (wrapF k (subI a b))
  | .mul => some fun k a b => .int k (wrapF k (mulI a b))
  | .and => some fun k a b => .int k (bitI .and k a b)
  | .or => some fun k a b => .int k (bitI .or k a b)
  | .xor => some fun k a b => .int k (bitI .xor k a b)
  | .andNot => some fun k a b => .int k (bitI .andNot k a b)
  | .eql => some fun _ a b => .bool (eqI a b)
  | .neq => some fun _ a b => .bool (!eqI a b)
  | .lss => some fun _ a b => .bool (ltI a b)
  | .leq => some fun _ a b => .bool (!ltI b a)
  | .gtr => some fun _ a b => .bool (ltI b a)
  | .geq => some fun _ a b => .bool (!ltI a b)
  | _ => none

def othC {S : Type} (P : Program) (ev : Ev S) (o : Oper) : Fop S := ⟨fun F tm σ => anyA P F (ev.at tm) σ o⟩

def mvC {S : Type} (ev : Ev S) (x : Operand) : Fop S := ⟨fun _ tm σ => liftV σ ((ev x).get tm)⟩

def ld1 (σ : Heap) : Option AV → Option (AV × Heap)
  | some (.ptr b off) => match hget σ b with
    | some (.cells n t dz _ _) => match Nat.ble (Nat.succ off) n with
      | true => liftV σ (cget1 t dz off)
      | false => none
    | _ => none
  | _ => none

def lds (s : Nat) (σ : Heap) : Option AV → Option (AV × Heap)
  | some (.ptr b off) => match hget σ b with
    | some (.cells n t dz _ _) => match Nat.ble (Nat.add off s) n with
      | true => match cgets t dz off s with
        | some l => some (.agg l, σ)
        | none => none
      | false => none
    | _ => none
  | _ => none

def sts (s : Nat) (σ : Heap) (ov : Option AV) : Option AV → Option (AV × Heap)
  | some (.ptr b off) => match ov with
    | some v => match Nat.beq (cellsA v).length s with
      | true => match storeCellsA σ b off (cellsA v) with
        | some σ' => some (.tup [], σ')
        | none => none
      | false => none
    | none => none
  | _ => none

def fa (d : Nat) (σ : Heap) : Option AV → Option (AV × Heap)
  | some (.ptr b off) => some (.ptr b (Nat.add off d), σ)
  | _ => none

/-- A field's place, where it is not empty. -/
def fieldOff (P : Program) (s : TypeId) (i : Nat) : Option Nat := match P.underlying s with
  | some (.struct fields) => match nth fields.toList i with
    | some f => match szOf P f.type with
      | some n => match Nat.beq n 0 with
        | true => none
        | false => some f.offset
      | none => none
    | none => none
  | _ => none

def ixGo (σ : Heap) (s b off len : Nat) : Option AV → Option (AV × Heap)
  | some (.int _ (.ofNat i)) => match Nat.ble (Nat.succ i) len with
    | true => some (.ptr b (Nat.add off (Nat.mul i s)), σ)
    | false => none
  | _ => none

def ixS (s : Nat) (σ : Heap) (oi : Option AV) : Option AV → Option (AV × Heap)
  | some (.sl b off len _ _) => ixGo σ s b off len oi
  | _ => none

def cvC (k : IntKind) (fb : AV → Option (AV × Heap)) (σ : Heap) : Option AV → Option (AV × Heap)
  | some (.int _ n) => some (.int k (wrapF k n), σ)
  | some v => fb v
  | none => none

def callG (F : CallF) (σ : Heap) (g : FuncId) : Option (List AV) → Option (AV × Heap)
  | some as => F g as σ
  | none => none

def exC (i : Nat) (σ : Heap) : Option AV → Option (AV × Heap)
  | some (.tup l) => liftV σ (nth l i)
  | _ => none

def notC (fb : Option (AV × Heap)) (σ : Heap) : Option AV → Option (AV × Heap)
  | some (.bool b) => some (.bool (!b), σ)
  | _ => fb

def nckC (fb : Option (AV × Heap)) (σ : Heap) : Option AV → Option (AV × Heap)
  | some (.ptr b off) => some (.ptr b off, σ)
  | _ => fb

def compV {S : Type} (P : Program) (ev : Ev S) (o : Oper) : Fop S := match o.op with
  | .move x => mvC ev x
  | .assign x => mvC ev x
  | .binOp op xt x y _ => match binG op with
    | some g => binC P ev o op xt x y g
    | none => othC P ev o
  | .load t a => match aggT P t with
    | some false => ⟨fun _ tm σ => ld1 σ ((ev a).get tm)⟩
    | some true => match szOf P t with
      | some s => ⟨fun _ tm σ => lds s σ ((ev a).get tm)⟩
      | none => othC P ev o
    | none => othC P ev o
  | .store t a x => match szOf P t with
    | some s => ⟨fun _ tm σ => sts s σ ((ev x).get tm) ((ev a).get tm)⟩
    | none => othC P ev o
  | .fieldAddr s x i => match fieldOff P s i with
    | some d => ⟨fun _ tm σ => fa d σ ((ev x).get tm)⟩
    | none => othC P ev o
  | .indexAddr t x ix => match P.underlying t with
    | some (.slice elem) => match szOf P elem with
      | some s => ⟨fun _ tm σ => ixS s σ ((ev ix).get tm) ((ev x).get tm)⟩
      | none => othC P ev o
    | _ => othC P ev o
  | .convert src dst x => match P.underlying src with
    | some _ => match P.underlying dst with
      | some (.int k) => ⟨fun F tm σ => cvC k (fun _ => anyA P F (ev.at tm) σ o) σ ((ev x).get tm)⟩
      | _ => othC P ev o
    | none => othC P ev o
  | .extract x i => ⟨fun _ tm σ => exC i σ ((ev x).get tm)⟩
  | .unOp .not _ x => ⟨fun F tm σ => notC (anyA P F (ev.at tm) σ o) σ ((ev x).get tm)⟩
  | .nilCheck x => ⟨fun F tm σ => nckC (anyA P F (ev.at tm) σ o) σ ((ev x).get tm)⟩
  | .call c => match c.callee with
    | .value (.func g) => ⟨fun F tm σ => callG F σ g ((evL ev c.args.toList).get tm)⟩
    | _ => othC P ev o
  | _ => othC P ev o

theorem bin2_spec {g : IntKind → Int → Int → AV} {fb : AV → Option AV → Option (AV × Heap)} {σ : Heap} {oy ox : Option AV} {r : AV × Heap} (h : bin2 g fb σ oy ox = some r) :
    (∃ k a k' b, ox = some (.int k a) ∧ oy = some (.int k' b) ∧ sameK k k' = true ∧ r = (g k a b, σ)) ∨ (∃ v, ox = some v ∧ fb v oy = some r) := by
  unfold bin2 at h
  split at h
  · rename_i k a
    unfold bin2y at h
    split at h
    · rename_i k' b
      split at h
      · rename_i hk
        exact .inl ⟨k, a, k', b, rfl, rfl, hk, by simpa using h.symm⟩
      · simp at h
    · exact .inr ⟨_, rfl, h⟩
  · exact .inr ⟨_, rfl, h⟩
  · simp at h

theorem binG_spec {op : BinOp} {g : IntKind → Int → Int → AV} (h : binG op = some g) {k k' : IntKind} {a b : Int} (hk : sameK k k' = true) : intBin op k a k' b = some (g k a b) := by
  cases op <;> simp only [binG, Option.some.injEq, reduceCtorEq] at h <;> subst h <;> simp [intBin, hk]

theorem fieldOff_spec {P : Program} {s : TypeId} {i d : Nat} (h : fieldOff P s i = some d) : ∃ fields f n, P.underlying s = some (.struct fields) ∧ nth fields.toList i = some f ∧ szOf P f.type = some n ∧ Nat.beq n 0 = false ∧ f.offset = d := by
  unfold fieldOff at h
  split at h
  · rename_i fields hf
    split at h
    · rename_i f hn
      split at h
      · rename_i n hs
        split at h
        · simp at h
        · rename_i hz
          exact ⟨fields, f, n, hf, hn, hs, hz, by simpa using h⟩
      · simp at h
    · simp at h
  · simp at h

theorem compV_ok {S : Type} {P : Program} {ev : Ev S} {o : Oper} {F : CallF} {tm : S} {σ : Heap} {r : AV × Heap} (hev : ∀ g s, ev.at s (.func g) = some (.func (.func g) [] [])) (h : (compV P ev o).run F tm σ = some r) : anyA P F (ev.at tm) σ o = some r := by
  have e' : ∀ x, ev.at tm x = (ev x).get tm := fun _ => rfl
  unfold compV at h
  split at h
  · rename_i x ho; simpa only [anyA, ho, mvC, e'] using h
  · rename_i x ho; simpa only [anyA, ho, mvC, e'] using h
  · rename_i op xt x y _ ho
    split at h
    · rename_i g hg
      simp only [binC] at h
      simp only [anyA, ho, e', v_binOp]
      rcases bin2_spec h with ⟨k, a, k', b, hx, hy, hk, rfl⟩ | ⟨v, hx, hf⟩
      · simp only [hx, hy, binA, binG_spec hg hk, liftV]
      · unfold binFb at hf
        split at hf
        · rename_i u hu
          simp only [hx, hu]; exact hf
        · simp at hf
    · exact h
  · rename_i t a ho
    split at h
    · rename_i hag
      simp only [anyA, ho, e', v_load]
      simp only [ld1, hget_eq, cget1_eq] at h
      split at h
      · rename_i b off hx
        simp only [hx, loadA]
        split at h
        · rename_i hb
          simp only [hb, hag]
          split at h
          · rename_i hl; simp only [hl]; exact h
          · simp at h
        · simp at h
      · simp at h
    · rename_i hag
      split at h
      · rename_i s hs
        simp only [anyA, ho, e', v_load]
        simp only [lds, hget_eq] at h
        split at h
        · rename_i b off hx
          simp only [hx, loadA]
          split at h
          · rename_i hb
            simp only [hb, hag, hs]
            split at h
            · rename_i hl
              simp only [hl]
              split at h
              · rename_i l hc; simp only [hc, liftV]; exact h
              · simp at h
            · simp at h
          · simp at h
        · simp at h
      · exact h
    · exact h
  · rename_i t a x ho
    split at h
    · rename_i s hs
      simp only [anyA, ho, e', e_store]
      simp only [sts] at h
      split at h
      · rename_i b off hx
        simp only [hx]
        split at h
        · rename_i v hv
          simp only [storeA, hs]
          split at h
          · rename_i hl
            rw [hv]
            simp only [hl]
            exact h
          · simp at h
        · simp at h
      · simp at h
    · exact h
  · rename_i s x i ho
    split at h
    · rename_i d hd
      obtain ⟨fields, f, n, h1, h2, h3, h4, rfl⟩ := fieldOff_spec hd
      simp only [anyA, ho, e', v_fieldAddr]
      simp only [fa] at h
      split at h
      · rename_i b off hx
        simp only [hx, h1, h2, h3, h4, liftV]; exact h
      · simp at h
    · exact h
  · rename_i t x ix ho
    split at h
    · rename_i elem he
      split at h
      · rename_i s hs
        simp only [anyA, ho, e', v_indexAddr]
        simp only [ixS] at h
        split at h
        · rename_i b off len _ _ hx
          simp only [hx, he]
          unfold ixGo at h
          split at h
          · rename_i i hi
            rw [hi]
            split at h
            · rename_i hl
              simp only [hl, hs, liftV]; exact h
            · simp at h
          · simp at h
        · simp at h
      · exact h
    · exact h
  · rename_i src dst x ho
    split at h
    · rename_i u hu
      split at h
      · rename_i k hk
        simp only [cvC] at h
        split at h
        · rename_i n hx
          simp only [anyA, ho, e', v_convert, hx, hu, hk, liftVN]; exact h
        · exact h
        · simp at h
      · exact h
    · exact h
  · rename_i x i ho
    simp only [anyA, ho, e', v_extract]
    simp only [exC] at h
    split at h
    · rename_i l hx; simp only [hx]; exact h
    · simp at h
  · rename_i t x ho
    simp only [notC] at h
    split at h
    · rename_i b hx
      simp only [anyA, ho, e', v_unOp, hx, liftV]; exact h
    · exact h
  · rename_i x ho
    simp only [nckC] at h
    split at h
    · rename_i b off hx
      simp only [anyA, ho, e', v_nilCheck, hx, liftV]; exact h
    · exact h
  · rename_i c ho
    split at h
    · rename_i g hg
      simp only [callG] at h
      split at h
      · rename_i as has
        rw [evL_get] at has
        have hgv : ev.at tm (.func g) = some (.func (.func g) [] []) := hev g tm
        have he : isE o = true := by unfold isE; rw [ho]; simp only [hg]
        simp only [anyA, ho, callOp, he, e_call, hg, calleeA, hgv, has, List.nil_append, List.append_nil]; exact h
      · simp at h
    · exact h
  · exact h

/-! ## Regions that draw their order, laid ready -/

structure DS where
  tm : Tr AV
  R : Tr AV

def evDS (srcs : List (Tmp × Nat)) : Ev DS := fun x => match x with
  | .tmp t => match assoc srcs t with
    | some i => ⟨fun s => at1 s.R i⟩
    | none => ⟨fun s => tget (at1 s.tm t)⟩
  | .const v => match ofValue v with
    | some a => ⟨fun _ => some a⟩
    | none => ⟨fun _ => none⟩
  | .global _ => ⟨fun _ => none⟩
  | .func f => ⟨fun _ => some (.func (.func f) [] [])⟩

theorem evDS_at (srcs : List (Tmp × Nat)) (tm R : Tr AV) : (evDS srcs).at ⟨tm, R⟩ = evD tm R srcs := by
  funext x
  cases x with
  | tmp t =>
    simp only [Ev.at, evDS, evD]
    split
    · rename_i i h; simp only [at1_eq, h]
    · rename_i h; simp only [at1_eq, h]; rfl
  | const v =>
    simp only [Ev.at, evDS, evD, evo]
    split
    · rename_i a h; simp only [h]
    · rename_i h; simp only [h]
  | global g => rfl
  | func f => rfl

structure Fdr where
  run : CallF → Tr AV → Tr AV → Heap → Option (Tr AV × Heap)

def putR (i : Nat) (R : Tr AV) : Option (AV × Heap) → Option (Tr AV × Heap)
  | some (v, σ) => some (put1 R i (some v), σ)
  | none => none

def grdD (want : Bool) (go : Fop DS) (i : Nat) (F : CallF) (tm R : Tr AV) (σ : Heap) : Option AV → Option (Tr AV × Heap)
  | some (.bool b) => match isTrueB b want with
    | true => putR i R (go.run F ⟨tm, R⟩ σ)
    | false => some (put1 R i (some (.tup [])), σ)
  | some (.tup []) => some (put1 R i (some (.tup [])), σ)
  | _ => none

def compX (P : Program) (d : DOp) : Fdr := match d.o.guard with
  | none => ⟨fun F tm R σ => putR d.idx R ((compV P (evDS d.srcs) d.o).run F ⟨tm, R⟩ σ)⟩
  | some (j, want) => ⟨fun F tm R σ => grdD want (compV P (evDS d.srcs) d.o) d.idx F tm R σ (at1 R j)⟩

theorem compX_ok {P : Program} {d : DOp} {F : CallF} {tm R : Tr AV} {σ : Heap} {r : Tr AV × Heap} (h : (compX P d).run F tm R σ = some r) : execD P F tm R σ d = some r := by
  have hgo : ∀ {x : Tr AV × Heap}, wantedD R d.o = some true → putR d.idx R ((compV P (evDS d.srcs) d.o).run F ⟨tm, R⟩ σ) = some x → execD P F tm R σ d = some x := by
    intro x hw hx
    simp only [putR, put1_eq] at hx
    split at hx
    · rename_i v σ' hv
      have := compV_ok (fun _ _ => rfl) hv
      rw [evDS_at] at this
      simp only [execD, hw, this]; exact hx
    · simp at hx
  unfold compX at h
  split at h
  · rename_i hg
    exact hgo (by simp [wantedD, hg]) h
  · rename_i j want hg
    simp only [grdD, at1_eq, put1_eq] at h
    split at h
    · rename_i b hb
      split at h
      · rename_i ht
        exact hgo (by simp only [wantedD, hg, hb, ht]) h
      · rename_i ht
        have hw : wantedD R d.o = some false := by simp only [wantedD, hg, hb, ht]
        simp only [execD, hw]; exact h
    · rename_i hb
      have hw : wantedD R d.o = some false := by simp only [wantedD, hg, hb]
      simp only [execD, hw]; exact h
    · simp at h

structure Fag where
  run : Tr AV → Tr AV → Heap → Bool

def noF : CallF := fun _ _ _ => none

def agn (k : Fag) (i : Nat) (tm R : Tr AV) (σ : Heap) : Option (AV × Heap) → Bool
  | some (v, _) => match at1 R i with
    | some v' => match beqS v v' with
      | true => k.run tm R σ
      | false => false
    | none => false
  | none => false

def agnG (want : Bool) (go : Fop DS) (k : Fag) (i : Nat) (tm R : Tr AV) (σ : Heap) : Option AV → Bool
  | some (.bool b) => match isTrueB b want with
    | true => agn k i tm R σ (go.run noF ⟨tm, R⟩ σ)
    | false => k.run tm R σ
  | some (.tup []) => k.run tm R σ
  | _ => false

def againC (P : Program) : List DOp → Fag
  | [] => ⟨fun _ _ _ => true⟩
  | d :: rest => match isLoad P d.o with
    | false => ⟨fun _ _ _ => false⟩
    | true => match isE d.o with
      | true => ⟨fun _ _ _ => false⟩
      | false => match d.o.guard with
        | none => ⟨fun tm R σ => agn (againC P rest) d.idx tm R σ ((compV P (evDS d.srcs) d.o).run noF ⟨tm, R⟩ σ)⟩
        | some (j, want) => ⟨fun tm R σ => agnG want (compV P (evDS d.srcs) d.o) (againC P rest) d.idx tm R σ (at1 R j)⟩

theorem againC_ok {P : Program} {tm R : Tr AV} {σ : Heap} : ∀ {l : List DOp}, (againC P l).run tm R σ = true → againA P tm R σ l = true
  | [], _ => rfl
  | d :: l, h => by
    simp only [againC] at h
    split at h
    · simp at h
    · rename_i hl
      split at h
      · simp at h
      · rename_i he
        have hgo : wantedD R d.o = some true → agn (againC P l) d.idx tm R σ ((compV P (evDS d.srcs) d.o).run noF ⟨tm, R⟩ σ) = true → againA P tm R σ (d :: l) = true := by
          intro hw hx
          simp only [agn, at1_eq] at hx
          split at hx
          · rename_i v σ' hv
            have := compV_ok (fun _ _ => rfl) hv
            rw [evDS_at] at this
            have haV : aV P (evD tm R d.srcs) σ d.o = some v := by
              rcases anyA_cases this with ⟨_, h1, _⟩ | ⟨_, B, mk, h1, _, _⟩ | ⟨h0, _⟩
              · exact h1
              · rw [aN_nonload h1] at hl; cases hl
              · rw [he] at h0; cases h0
            split at hx
            · rename_i v' hv'
              split at hx
              · rename_i hb
                simp only [againA, hw, haV, hv', hb]
                exact againC_ok hx
              · cases hx
            · cases hx
          · cases hx
        split at h
        · rename_i hg
          exact hgo (by simp [wantedD, hg]) h
        · rename_i j want hg
          simp only [agnG, at1_eq] at h
          split at h
          · rename_i b hb
            split at h
            · rename_i ht
              exact hgo (by simp only [wantedD, hg, hb, ht]) h
            · rename_i ht
              have hw : wantedD R d.o = some false := by simp only [wantedD, hg, hb, ht]
              simp only [againA, hw]; exact againC_ok h
          · rename_i hb
            have hw : wantedD R d.o = some false := by simp only [wantedD, hg, hb]
            simp only [againA, hw]; exact againC_ok h
          · cases h

def bindD (k : Fdr) (F : CallF) (tm : Tr AV) : Option (Tr AV × Heap) → Option (Tr AV × Heap)
  | some (R, σ) => k.run F tm R σ
  | none => none

def bindA (g : Fag) (k : Fdr) (F : CallF) (tm : Tr AV) : Option (Tr AV × Heap) → Option (Tr AV × Heap)
  | some (R, σ) => match g.run tm R σ with
    | true => k.run F tm R σ
    | false => none
  | none => none

def stepsC (P : Program) : List PStep → Fdr
  | [] => ⟨fun _ _ R σ => some (R, σ)⟩
  | .quiet d :: rest => ⟨fun F tm R σ => bindD (stepsC P rest) F tm ((compX P d).run F tm R σ)⟩
  | .act d again :: rest => ⟨fun F tm R σ => bindA (againC P again) (stepsC P rest) F tm ((compX P d).run F tm R σ)⟩

theorem stepsC_ok {P : Program} {F : CallF} {tm : Tr AV} : ∀ {l : List PStep} {R : Tr AV} {σ : Heap} {r : Tr AV × Heap}, (stepsC P l).run F tm R σ = some r → stepsD P F tm l R σ = some r
  | [], R, σ, r, h => by simpa only [stepsC, stepsD] using h
  | .quiet d :: l, R, σ, r, h => by
    simp only [stepsC, bindD] at h
    split at h
    · rename_i R' σ' hx
      simp only [stepsD, compX_ok hx]
      exact stepsC_ok h
    · simp at h
  | .act d again :: l, R, σ, r, h => by
    simp only [stepsC, bindA] at h
    split at h
    · rename_i R' σ' hx
      split at h
      · rename_i hg
        simp only [stepsD, compX_ok hx, againC_ok hg]
        exact stepsC_ok h
      · simp at h
    · simp at h

structure Fly where
  run : Tr AV → Tr AV → Option (Tr AV)

def layN (k : Fly) (R tm : Tr AV) : Option AV → Option (Tr AV)
  | some _ => k.run R tm
  | none => none

def layP (t : Nat) (k : Fly) (R tm : Tr AV) : Option AV → Option (Tr AV)
  | some v => k.run R (put1 tm t (some v))
  | none => none

def layC (nt : Nat) : List DOp → Fly
  | [] => ⟨fun _ tm => some tm⟩
  | d :: rest => match d.o.dst with
    | none => ⟨fun R tm => layN (layC nt rest) R tm (at1 R d.idx)⟩
    | some t => match Nat.ble (Nat.succ t) nt with
      | true => ⟨fun R tm => layP t (layC nt rest) R tm (at1 R d.idx)⟩
      | false => ⟨fun _ _ => none⟩

theorem layC_ok {nt : Nat} {R : Tr AV} : ∀ {l : List DOp} {tm tm' : Tr AV}, (layC nt l).run R tm = some tm' → layD nt R l tm = some tm'
  | [], tm, tm', h => by simpa only [layC, layD] using h
  | d :: l, tm, tm', h => by
    simp only [layC] at h
    split at h
    · rename_i hd
      simp only [layN, at1_eq] at h
      split at h
      · rename_i v hv
        simp only [layD, hv, putA, hd]; exact layC_ok h
      · simp at h
    · rename_i t hd
      split at h
      · rename_i hb
        simp only [layP, at1_eq, put1_eq] at h
        split at h
        · rename_i v hv
          simp only [layD, hv, putA, hd, hb]; exact layC_ok h
        · simp at h
      · simp at h

structure Fex where
  run : CallF → Tr AV → Heap → Option (Tr AV × Heap)

def layE (k : Fly) (tm : Tr AV) : Option (Tr AV × Heap) → Option (Tr AV × Heap)
  | some (R, σ) => match k.run R tm with
    | some tm' => some (tm', σ)
    | none => none
  | none => none

def drawC (P : Program) (nt : Nat) (ops : List Oper) : Fex := match planOf P ops with
  | some (ds, p) => ⟨fun F tm σ => layE (layC nt ds) tm ((stepsC P p).run F tm .leaf σ)⟩
  | none => ⟨fun _ _ _ => none⟩

theorem drawC_ok {P : Program} {nt : Nat} {ops : List Oper} {F : CallF} {tm : Tr AV} {σ : Heap} {r : Tr AV × Heap} (h : (drawC P nt ops).run F tm σ = some r) : drawA P F nt ops tm σ = some r := by
  unfold drawC at h
  split at h
  · rename_i ds p hp
    simp only [layE] at h
    split at h
    · rename_i R σ' hs
      split at h
      · rename_i tm' hl
        simp only [drawA, hp, stepsC_ok hs, layC_ok hl]; exact h
      · simp at h
    · simp at h
  · simp at h

end
end Go.Ev
