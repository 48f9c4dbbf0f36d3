import Derived.Test.YtinhlmelicmheaaGreatEv3
namespace Go.Ev
open Go

/-- Where a block's name stands in the world: a block, its first cell, how many elements it has beyond what is known. -/
structure Loc where
  blk : Nat
  base : Nat
  spare : Nat

abbrev Ren := Nat → Option Loc

inductive AV where
  | bool (b : Bool)
  | int (k : IntKind) (n : Int)
  | str (l : List Nat)
  | lit (v : Value)
  | ptr (b off : Nat)
  | sl (b off len cap : Nat) (sp : Bool)
  | map (b : Nat)
  | func (fn : Fn) (xs ys : List AV)
  | iface (t : TypeId) (x : AV)
  | agg (l : List AV)
  | tup (l : List AV)
  | sx (k : IntKind) (e : SE)
  | spt (b off s : Nat) (e : SE)
  | sstr (l : List AV)
  | bad

def capOf (L : Loc) (cap : Nat) : Bool → Nat
  | true => cap + L.spare
  | false => cap

def bytesOf (l : List Nat) : ByteArray := ⟨(l.map UInt8.ofNat).toArray⟩

/-- A number from 0 on. -/
def natI : Int → Option Nat
  | .ofNat n => some n
  | _ => none

theorem natI_spec {i : Int} {n : Nat} : natI i = some n ↔ i = (n : Int) := by
  cases i with
  | ofNat m => simp only [natI, Option.some.injEq, Int.ofNat_eq_natCast]; omega
  | negSucc m => simp only [natI, reduceCtorEq]

/-- Bytes, as a text's. -/
def bytesV : List Value → Option (List Nat)
  | [] => some []
  | .int .u8 (.ofNat n) :: l => (bytesV l).map fun r => n :: r
  | _ => none

mutual
def con [Sy] (ρ : Ren) : AV → Option Value
  | .bool b => some (.bool b)
  | .int k n => some (.int k n)
  | .str l => some (.string (bytesOf l))
  | .lit v => some v
  | .ptr b off => (ρ b).map fun L => .pointer (some ⟨L.blk, L.base + off, none⟩)
  | .sl b off len cap sp => (ρ b).map fun L => .slice (some ⟨L.blk, L.base + off, none⟩) len (capOf L cap sp)
  | .map b => (ρ b).map fun L => .map (some L.blk)
  | .func fn xs ys => (conL ρ xs).bind fun vs => (conL ρ ys).map fun us => .func fn vs.toArray us.toArray
  | .iface t x => (con ρ x).map fun v => .iface t v
  | .agg l => (conL ρ l).map fun vs => .agg vs.toArray
  | .tup l => (conL ρ l).map fun vs => .tuple vs.toArray
  | .sx k e => e.eval.map fun n => .int k n
  | .spt b off s e => (ρ b).bind fun L => (e.eval.bind natI).map fun i => .pointer (some ⟨L.blk, L.base + (off + i * s), none⟩)
  | .sstr l => ((conL ρ l).bind bytesV).map fun bs => .string (bytesOf bs)
  | .bad => none
def conL [Sy] (ρ : Ren) : List AV → Option (List Value)
  | [] => some []
  | x :: l => (con ρ x).bind fun v => (conL ρ l).map fun vs => v :: vs
end

def Le (ρ ρ' : Ren) : Prop := ∀ b L, ρ b = some L → ρ' b = some L

theorem Le.refl (ρ : Ren) : Le ρ ρ := fun _ _ h => h
theorem Le.trans {ρ ρ' ρ'' : Ren} (h : Le ρ ρ') (h' : Le ρ' ρ'') : Le ρ ρ'' := fun b L hb => h' b L (h b L hb)

mutual
theorem con_mono [Sy] {ρ ρ' : Ren} (h : Le ρ ρ') : ∀ (x : AV) (v : Value), con ρ x = some v → con ρ' x = some v
  | .bool b, v, hx => by simpa [con] using hx
  | .int k n, v, hx => by simpa [con] using hx
  | .str l, v, hx => by simpa [con] using hx
  | .lit u, v, hx => by simpa [con] using hx
  | .ptr b off, v, hx => by
    simp only [con, Option.map_eq_some_iff] at hx ⊢
    obtain ⟨L, hL, e⟩ := hx
    exact ⟨L, h b L hL, e⟩
  | .sl b off len cap sp, v, hx => by
    simp only [con, Option.map_eq_some_iff] at hx ⊢
    obtain ⟨L, hL, e⟩ := hx
    exact ⟨L, h b L hL, e⟩
  | .map b, v, hx => by
    simp only [con, Option.map_eq_some_iff] at hx ⊢
    obtain ⟨L, hL, e⟩ := hx
    exact ⟨L, h b L hL, e⟩
  | .func fn xs ys, v, hx => by
    simp only [con, Option.bind_eq_some_iff, Option.map_eq_some_iff] at hx ⊢
    obtain ⟨vs, hvs, us, hus, e⟩ := hx
    exact ⟨vs, conL_mono h xs vs hvs, us, conL_mono h ys us hus, e⟩
  | .iface t x, v, hx => by
    simp only [con, Option.map_eq_some_iff] at hx ⊢
    obtain ⟨u, hu, e⟩ := hx
    exact ⟨u, con_mono h x u hu, e⟩
  | .agg l, v, hx => by
    simp only [con, Option.map_eq_some_iff] at hx ⊢
    obtain ⟨vs, hvs, e⟩ := hx
    exact ⟨vs, conL_mono h l vs hvs, e⟩
  | .sx k e, v, hx => by simpa only [con] using hx
  | .spt b off s e, v, hx => by
    simp only [con, Option.bind_eq_some_iff, Option.map_eq_some_iff] at hx ⊢
    obtain ⟨L, hL, e⟩ := hx
    exact ⟨L, h b L hL, e⟩
  | .sstr l, v, hx => by
    simp only [con, Option.bind_eq_some_iff, Option.map_eq_some_iff] at hx ⊢
    obtain ⟨bs, ⟨vs, hvs, hb⟩, e⟩ := hx
    exact ⟨bs, ⟨vs, conL_mono h l vs hvs, hb⟩, e⟩
  | .tup l, v, hx => by
    simp only [con, Option.map_eq_some_iff] at hx ⊢
    obtain ⟨vs, hvs, e⟩ := hx
    exact ⟨vs, conL_mono h l vs hvs, e⟩
  | .bad, v, hx => by simp only [con, reduceCtorEq] at hx
theorem conL_mono [Sy] {ρ ρ' : Ren} (h : Le ρ ρ') : ∀ (l : List AV) (vs : List Value), conL ρ l = some vs → conL ρ' l = some vs
  | [], vs, hx => by simpa [conL] using hx
  | x :: l, vs, hx => by
    simp only [conL, Option.bind_eq_some_iff, Option.map_eq_some_iff] at hx ⊢
    obtain ⟨v, hv, us, hus, e⟩ := hx
    exact ⟨v, con_mono h x v hv, us, conL_mono h l us hus, e⟩
end

theorem conL_nil [Sy] (ρ : Ren) : conL ρ [] = some [] := by simp only [conL]
theorem conL_cons [Sy] {ρ : Ren} {x : AV} {l : List AV} {vs : List Value} : conL ρ (x :: l) = some vs ↔ ∃ v us, con ρ x = some v ∧ conL ρ l = some us ∧ vs = v :: us := by
  simp only [conL, Option.bind_eq_some_iff, Option.map_eq_some_iff]
  constructor
  · rintro ⟨v, hv, us, hus, e⟩; exact ⟨v, us, hv, hus, e.symm⟩
  · rintro ⟨v, us, hv, hus, e⟩; exact ⟨v, hv, us, hus, e.symm⟩

theorem conL_length [Sy] {ρ : Ren} : ∀ {l : List AV} {vs : List Value}, conL ρ l = some vs → vs.length = l.length
  | [], vs, h => by simp only [conL, Option.some.injEq] at h; subst h; rfl
  | x :: l, vs, h => by
    obtain ⟨v, us, _, hus, rfl⟩ := conL_cons.1 h
    simp [conL_length hus]

theorem conL_get [Sy] {ρ : Ren} : ∀ {l : List AV} {vs : List Value} (_ : conL ρ l = some vs) (i : Nat) (x : AV), l[i]? = some x → ∃ v, vs[i]? = some v ∧ con ρ x = some v
  | [], vs, h, i, x, hx => by simp at hx
  | y :: l, vs, h, i, x, hx => by
    obtain ⟨v, us, hv, hus, rfl⟩ := conL_cons.1 h
    cases i with
    | zero => simp only [List.getElem?_cons_zero, Option.some.injEq] at hx; subst hx; exact ⟨v, by simp, hv⟩
    | succ i =>
      simp only [List.getElem?_cons_succ] at hx ⊢
      exact conL_get hus i x hx

theorem conL_mk [Sy] {ρ : Ren} : ∀ {l : List AV} {vs : List Value}, vs.length = l.length → (∀ (i : Nat) (x : AV), l[i]? = some x → ∃ v, vs[i]? = some v ∧ con ρ x = some v) → conL ρ l = some vs
  | [], vs, h, _ => by
    have : vs = [] := by simpa using h
    subst this; simp only [conL]
  | x :: l, vs, h, hg => by
    cases vs with
    | nil => simp at h
    | cons v us =>
      obtain ⟨v', hv', hc⟩ := hg 0 x (by simp)
      simp only [List.getElem?_cons_zero, Option.some.injEq] at hv'
      subst hv'
      exact conL_cons.2 ⟨v, us, hc, conL_mk (by simpa using h) (fun i y hy => by
        have := hg (i + 1) y (by simpa using hy)
        simpa using this), rfl⟩

theorem conL_append [Sy] {ρ : Ren} {l l' : List AV} {vs vs' : List Value} (h : conL ρ l = some vs) (h' : conL ρ l' = some vs') : conL ρ (l ++ l') = some (vs ++ vs') := by
  induction l generalizing vs with
  | nil => simp only [conL, Option.some.injEq] at h; subst h; simpa using h'
  | cons x l ih =>
    obtain ⟨v, us, hv, hus, rfl⟩ := conL_cons.1 h
    exact conL_cons.2 ⟨v, us ++ vs', hv, ih hus, rfl⟩

theorem conL_set [Sy] {ρ : Ren} {l : List AV} {vs : List Value} {x : AV} {v : Value} (h : conL ρ l = some vs) (hx : con ρ x = some v) (i : Nat) : conL ρ (l.set i x) = some (vs.set i v) := by
  induction l generalizing vs i with
  | nil => simp only [conL, Option.some.injEq] at h; subst h; simp [conL]
  | cons y l ih =>
    obtain ⟨u, us, hu, hus, rfl⟩ := conL_cons.1 h
    cases i with
    | zero => exact conL_cons.2 ⟨v, us, hx, hus, rfl⟩
    | succ i => exact conL_cons.2 ⟨u, us.set i v, hu, ih hus i, rfl⟩

theorem conL_drop [Sy] {ρ : Ren} {l : List AV} {vs : List Value} (h : conL ρ l = some vs) (n : Nat) : conL ρ (l.drop n) = some (vs.drop n) := by
  induction n generalizing l vs with
  | zero => simpa using h
  | succ n ih =>
    cases l with
    | nil => simp only [conL, Option.some.injEq] at h; subst h; simp [conL]
    | cons x l => obtain ⟨v, us, _, hus, rfl⟩ := conL_cons.1 h; simpa using ih hus

theorem conL_take [Sy] {ρ : Ren} {l : List AV} {vs : List Value} (h : conL ρ l = some vs) (n : Nat) : conL ρ (l.take n) = some (vs.take n) := by
  induction n generalizing l vs with
  | zero => simp [conL]
  | succ n ih =>
    cases l with
    | nil => simp only [conL, Option.some.injEq] at h; subst h; simp [conL]
    | cons x l => obtain ⟨v, us, hv, hus, rfl⟩ := conL_cons.1 h; simpa using conL_cons.2 ⟨v, _, hv, ih hus, rfl⟩

/-- A value without an address, from the program's text. -/
def ofV : Value → Option AV
  | .bool b => some (.bool b)
  | .int k n => some (.int k n)
  | .string s => some (.str (s.data.toList.map UInt8.toNat))
  | .float k b => some (.lit (.float k b))
  | .complex k a b => some (.lit (.complex k a b))
  | .pointer none => some (.lit (.pointer none))
  | .slice none n c => some (.lit (.slice none n c))
  | .map none => some (.lit (.map none))
  | .nilFunc => some (.lit .nilFunc)
  | .nilIface => some (.lit .nilIface)
  | _ => none

def ofVs : List Value → Option (List AV)
  | [] => some []
  | v :: l => match ofV v with
    | some x => match ofVs l with
      | some xs => some (x :: xs)
      | none => none
    | none => none

/-- The same, an aggregate too. -/
def ofValue : Value → Option AV
  | .agg cs => match ofVs cs.toList with
    | some l => some (.agg l)
    | none => none
  | .tuple cs => match ofVs cs.toList with
    | some l => some (.tup l)
    | none => none
  | v => ofV v

theorem bytesOf_toNat (s : ByteArray) : bytesOf (s.data.toList.map UInt8.toNat) = s := by
  unfold bytesOf
  rw [List.map_map]
  have : (UInt8.ofNat ∘ UInt8.toNat) = id := by funext x; simp
  rw [this, List.map_id]

theorem con_ofV [Sy] {ρ : Ren} {v : Value} {x : AV} (h : ofV v = some x) : con ρ x = some v := by
  unfold ofV at h
  split at h <;> simp only [Option.some.injEq, reduceCtorEq] at h <;> subst h <;> simp only [con, bytesOf_toNat]

theorem conL_ofVs [Sy] {ρ : Ren} : ∀ {l : List Value} {xs : List AV}, ofVs l = some xs → conL ρ xs = some l
  | [], xs, h => by simp only [ofVs, Option.some.injEq] at h; subst h; simp only [conL]
  | v :: l, xs, h => by
    simp only [ofVs] at h
    split at h
    · rename_i x hx
      split at h
      · rename_i ys hys
        simp only [Option.some.injEq] at h
        subst h
        exact conL_cons.2 ⟨v, l, con_ofV hx, conL_ofVs hys, rfl⟩
      · simp at h
    · simp at h

theorem con_ofValue [Sy] {ρ : Ren} {v : Value} {x : AV} (h : ofValue v = some x) : con ρ x = some v := by
  unfold ofValue at h
  split at h
  · split at h
    · rename_i l hl
      simp only [Option.some.injEq] at h; subst h
      simp only [con, conL_ofVs hl, Option.map_some]
    · simp at h
  · split at h
    · rename_i l hl
      simp only [Option.some.injEq] at h; subst h
      simp only [con, conL_ofVs hl, Option.map_some]
    · simp at h
  · exact con_ofV h

/-- The value of what bears no block's name. -/
def con0 : AV → Option Value
  | .bool b => some (.bool b)
  | .int k n => some (.int k n)
  | .str l => some (.string (bytesOf l))
  | .lit v => some v
  | _ => none

theorem con_of_con0 [Sy] {ρ : Ren} {x : AV} {v : Value} (h : con0 x = some v) : con ρ x = some v := by
  cases x <;> simp_all [con0, con]

/-- A write at a place known by its bounds: the cell off + e * s holds v. -/
structure SW where
  off : Nat
  s : Nat
  e : SE
  v : AV

inductive ABlk where
  | cells (n : Nat) (t : Tr AV) (dz : Option AV) (elem : TypeId) (sp : Bool)
  | ov (n : Nat) (t : Tr AV) (dz : Option AV) (elem : TypeId) (sp : Bool) (ws : List SW)
  | map (es : List (AV × AV × Nat)) (clock : Nat)
  | mit (m : Nat) (since : Nat) (seen : List Nat) (last : Nat)

def cget (t : Tr AV) (dz : Option AV) (i : Nat) : Option AV :=
  match t.at0 i with
  | some x => some x
  | none => dz

/-- The place of a write. -/
def SW.place [Sy] (x : SW) : Option Nat := (x.e.eval.bind natI).map fun i => x.off + i * x.s

/-- A cell below the writes laid over it, the last one first. -/
def oget [Sy] (t : Tr AV) (dz : Option AV) : List SW → Nat → Option AV
  | [], i => cget t dz i
  | x :: ws, i => if x.place = some i then some x.v else oget t dz ws i

structure Heap where
  next : Nat
  m : Tr ABlk

def Heap.get (σ : Heap) (b : Nat) : Option ABlk := σ.m.at0 b
def Heap.set (σ : Heap) (b : Nat) (B : ABlk) : Heap := { next := σ.next, m := σ.m.put0 b (some B) }
def Heap.kill (σ : Heap) (b : Nat) : Heap := { next := σ.next, m := σ.m.put0 b none }
def Heap.push (σ : Heap) (B : Option ABlk) : Heap := { next := Nat.succ σ.next, m := σ.m.put0 σ.next B }

theorem Heap.get_set (σ : Heap) (b : Nat) (B : ABlk) (b' : Nat) : (σ.set b B).get b' = if b = b' then some B else σ.get b' := Tr.at0_put0 _ _ _ _
theorem Heap.get_kill (σ : Heap) (b b' : Nat) : (σ.kill b).get b' = if b = b' then none else σ.get b' := Tr.at0_put0 _ _ _ _
theorem Heap.get_push (σ : Heap) (B : Option ABlk) (b' : Nat) : (σ.push B).get b' = if σ.next = b' then B else σ.get b' := Tr.at0_put0 _ _ _ _
@[simp] theorem Heap.next_set (σ : Heap) (b : Nat) (B : ABlk) : (σ.set b B).next = σ.next := rfl
@[simp] theorem Heap.next_kill (σ : Heap) (b : Nat) : (σ.kill b).next = σ.next := rfl
@[simp] theorem Heap.next_push (σ : Heap) (B : Option ABlk) : (σ.push B).next = σ.next + 1 := rfl

def EsRel [Sy] (ρ : Ren) : List (AV × AV × Nat) → List MapEntry → Prop
  | [], [] => True
  | (k, v, b) :: l, e :: l' => con ρ k = some e.key ∧ con ρ v = some e.val ∧ b = e.born ∧ EsRel ρ l l'
  | _, _ => False

theorem EsRel.mono [Sy] {ρ ρ' : Ren} (h : Le ρ ρ') : ∀ {l : List (AV × AV × Nat)} {l' : List MapEntry}, EsRel ρ l l' → EsRel ρ' l l'
  | [], [], _ => trivial
  | (_, _, _) :: _, _ :: _, ⟨h1, h2, h3, h4⟩ => ⟨con_mono h _ _ h1, con_mono h _ _ h2, h3, EsRel.mono h h4⟩
  | [], _ :: _, hh => hh.elim
  | _ :: _, [], hh => hh.elim

def BlkRel [Sy] (P : Program) (ρ : Ren) (L : Loc) : ABlk → Obj → Prop
  | .cells n t dz elem sp, o => ∃ c f, o = .cells c elem f ∧ c.size = L.base + n + L.spare * P.cellsOf elem ∧ (sp = false → L.spare = 0) ∧
      (∀ i, i < n → ∃ av v, cget t dz i = some av ∧ con ρ av = some v ∧ c[L.base + i]? = some v) ∧
      (f.1 = f.2 ∨ c.size ≤ f.1)
  | .ov n t dz elem sp ws, o => ∃ c f, o = .cells c elem f ∧ c.size = L.base + n + L.spare * P.cellsOf elem ∧ (sp = false → L.spare = 0) ∧
      (∀ i, i < n → ∃ av v, oget t dz ws i = some av ∧ con ρ av = some v ∧ c[L.base + i]? = some v) ∧
      (f.1 = f.2 ∨ c.size ≤ f.1) ∧ (∀ x, x ∈ ws → ∃ i : Nat, x.e.eval = some (.ofNat i))
  | .map es clock, o => ∃ es', o = .map es' clock ∧ EsRel ρ es es'.toList
  | .mit m since seen last, o => ∃ M, ρ m = some M ∧ o = .mapIter (some M.blk) since seen.toArray last

theorem BlkRel.mono [Sy] {P : Program} {ρ ρ' : Ren} (h : Le ρ ρ') {L : Loc} {B : ABlk} {o : Obj} (hB : BlkRel P ρ L B o) : BlkRel P ρ' L B o := by
  cases B with
  | cells n t dz elem sp =>
    obtain ⟨c, f, e, hs, hp, hc, hf⟩ := hB
    exact ⟨c, f, e, hs, hp, fun i hi => let ⟨av, v, h1, h2, h3⟩ := hc i hi; ⟨av, v, h1, con_mono h _ _ h2, h3⟩, hf⟩
  | ov n t dz elem sp ws =>
    obtain ⟨c, f, e, hs, hp, hc, hf⟩ := hB
    exact ⟨c, f, e, hs, hp, fun i hi => let ⟨av, v, h1, h2, h3⟩ := hc i hi; ⟨av, v, h1, con_mono h _ _ h2, h3⟩, hf⟩
  | map es clock => obtain ⟨es', e, he⟩ := hB; exact ⟨es', e, he.mono h⟩
  | mit m since seen last => obtain ⟨M, hM, e⟩ := hB; exact ⟨M, h _ _ hM, e⟩

/-- The abstract heap stands in the world: every named block that has a place. Names without a place (not yet made) say nothing. -/
structure Rep [Sy] (P : Program) (N : Nat) (ρ : Ren) (σ : Heap) (w : World) : Prop where
  blk : ∀ b B L, σ.get b = some B → ρ b = some L → ∃ o, w.heap[L.blk]? = some o ∧ BlkRel P ρ L B o
  inj : ∀ b b' B B' L L', σ.get b = some B → σ.get b' = some B' → ρ b = some L → ρ b' = some L' → L.blk = L'.blk → b = b'
  low : ∀ b L, ρ b = some L → N ≤ L.blk ∧ L.blk < w.heap.size
  fresh : ∀ b, σ.next ≤ b → ρ b = none
  freshσ : ∀ b, σ.next ≤ b → σ.get b = none
  room : N ≤ w.heap.size

def upd (ρ : Ren) (n : Nat) (L : Loc) : Ren := fun b => if b = n then some L else ρ b

theorem upd_same (ρ : Ren) (n : Nat) (L : Loc) : upd ρ n L n = some L := by simp [upd]
theorem upd_ne (ρ : Ren) {n b : Nat} (L : Loc) (h : b ≠ n) : upd ρ n L b = ρ b := by simp [upd, h]
theorem le_upd [Sy] {ρ : Ren} {n : Nat} (L : Loc) (h : ρ n = none) : Le ρ (upd ρ n L) := fun b M hb => by
  by_cases e : b = n
  · subst e; rw [h] at hb; cases hb
  · rw [upd_ne _ _ e]; exact hb

/-- What a piece of a run leaves: names that were there keep their places, what has no place is left alone. -/
structure Ext [Sy] (P : Program) (N : Nat) (ρ : Ren) (σ : Heap) (w : World) (ρ' : Ren) (σ' : Heap) (w' : World) : Prop where
  agree : ∀ b, b < σ.next → ρ' b = ρ b
  next : σ.next ≤ σ'.next
  pend : ∀ b, b < σ.next → ρ b = none → σ'.get b = σ.get b
  rep : Rep P N ρ' σ' w'
  below : RowKit.Below N w w'

theorem Ext.le [Sy] {P : Program} {N : Nat} {ρ : Ren} {σ : Heap} {w : World} {ρ' : Ren} {σ' : Heap} {w' : World} (h : Ext P N ρ σ w ρ' σ' w') (hr : Rep P N ρ σ w) : Le ρ ρ' := by
  intro b L hb
  have : b < σ.next := by
    rcases Nat.lt_or_ge b σ.next with h' | h'
    · exact h'
    · rw [hr.fresh b h'] at hb; cases hb
  rw [h.agree b this]; exact hb

theorem Ext.refl [Sy] {P : Program} {N : Nat} {ρ : Ren} {σ : Heap} {w : World} (h : Rep P N ρ σ w) : Ext P N ρ σ w ρ σ w :=
  ⟨fun _ _ => rfl, Nat.le_refl _, fun _ _ _ => rfl, h, RowKit.Below.refl _ _⟩

theorem Ext.trans [Sy] {P : Program} {N : Nat} {ρ : Ren} {σ : Heap} {w : World} {ρ' : Ren} {σ' : Heap} {w' : World} {ρ'' : Ren} {σ'' : Heap} {w'' : World}
    (h : Ext P N ρ σ w ρ' σ' w') (k : Ext P N ρ' σ' w' ρ'' σ'' w'') : Ext P N ρ σ w ρ'' σ'' w'' where
  agree b hb := by rw [k.agree b (Nat.lt_of_lt_of_le hb h.next), h.agree b hb]
  next := Nat.le_trans h.next k.next
  pend b hb hn := by rw [k.pend b (Nat.lt_of_lt_of_le hb h.next) (by rw [h.agree b hb]; exact hn), h.pend b hb hn]
  rep := k.rep
  below := h.below.trans k.below

theorem Rep.drew [Sy] {P : Program} {N : Nat} {ρ : Ren} {σ : Heap} {w : World} (h : Rep P N ρ σ w) : Rep P N ρ σ w.drew :=
  ⟨h.blk, h.inj, h.low, h.fresh, h.freshσ, h.room⟩

theorem Ext.drew [Sy] {P : Program} {N : Nat} {ρ : Ren} {σ : Heap} {w : World} (h : Rep P N ρ σ w) : Ext P N ρ σ w ρ σ w.drew :=
  ⟨fun _ _ => rfl, Nat.le_refl _, fun _ _ _ => rfl, h.drew, (RowKit.Below.refl _ _).drew⟩

/-- A name is pushed; it has no place yet. -/
theorem Rep.push [Sy] {P : Program} {N : Nat} {ρ : Ren} {σ : Heap} {w : World} (h : Rep P N ρ σ w) (B : Option ABlk) : Rep P N ρ (σ.push B) w where
  blk b B' L hb hL := by
    rw [Heap.get_push] at hb
    split at hb
    · rename_i e; subst e; rw [h.fresh _ (Nat.le_refl _)] at hL; cases hL
    · exact h.blk b B' L hb hL
  inj b b' B1 B2 L L' h1 h2 h3 h4 h5 := by
    rw [Heap.get_push] at h1 h2
    split at h1
    · rename_i e; subst e; rw [h.fresh _ (Nat.le_refl _)] at h3; cases h3
    · split at h2
      · rename_i e; subst e; rw [h.fresh _ (Nat.le_refl _)] at h4; cases h4
      · exact h.inj b b' B1 B2 L L' h1 h2 h3 h4 h5
  low := h.low
  fresh b hb := h.fresh b (by simp at hb; omega)
  freshσ b hb := by
    simp at hb
    rw [Heap.get_push, if_neg (by omega)]; exact h.freshσ b (by omega)
  room := h.room

/-- A name that waits is given a new block. -/
theorem Rep.late [Sy] {P : Program} {N : Nat} {ρ : Ren} {σ : Heap} {w : World} (h : Rep P N ρ σ w) {n : Nat} (hn : ρ n = none) (hlt : n < σ.next) (o : Obj) (base spare : Nat)
    (hB : ∀ B, σ.get n = some B → BlkRel P (upd ρ n ⟨w.heap.size, base, spare⟩) ⟨w.heap.size, base, spare⟩ B o) :
    Rep P N (upd ρ n ⟨w.heap.size, base, spare⟩) σ (w.alloc o) where
  blk b B L hb hL := by
    by_cases e : b = n
    · subst e
      rw [upd_same] at hL
      cases hL
      exact ⟨o, by show (w.heap.push o)[w.heap.size]? = _; simp, hB B hb⟩
    · rw [upd_ne _ _ e] at hL
      obtain ⟨o', ho', hr⟩ := h.blk b B L hb hL
      refine ⟨o', ?_, hr.mono (le_upd _ hn)⟩
      rw [RowKit.Below.heap_alloc _ _ _ (h.low b L hL).2]; exact ho'
  inj b b' B B' L L' h1 h2 h3 h4 h5 := by
    by_cases e : b = n
    · subst e
      rw [upd_same] at h3; cases h3
      by_cases e' : b' = b
      · exact e'.symm
      · rw [upd_ne _ _ e'] at h4
        have := (h.low b' L' h4).2
        simp at h5; omega
    · rw [upd_ne _ _ e] at h3
      by_cases e' : b' = n
      · subst e'
        rw [upd_same] at h4; cases h4
        have := (h.low b L h3).2
        simp at h5; omega
      · rw [upd_ne _ _ e'] at h4
        exact h.inj b b' B B' L L' h1 h2 h3 h4 h5
  low b L hL := by
    by_cases e : b = n
    · subst e; rw [upd_same] at hL; cases hL
      exact ⟨h.room, by simp⟩
    · rw [upd_ne _ _ e] at hL
      have := h.low b L hL
      exact ⟨this.1, by simp; omega⟩
  fresh b hb := by rw [upd_ne _ _ (by omega)]; exact h.fresh b hb
  freshσ := h.freshσ
  room := by have := h.room; simp; omega

end Go.Ev
