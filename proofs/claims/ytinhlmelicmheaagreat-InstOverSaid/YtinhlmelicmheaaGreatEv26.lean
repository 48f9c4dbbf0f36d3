import Derived.Test.YtinhlmelicmheaaGreatEv25
namespace Go.Ev
open Go

noncomputable section

/-! ## Code laid ready -/

structure Fco where
  run : Nat → CallF → Tr AV → Heap → Option St

def thenC (k : Fco) (n : Nat) (F : CallF) : Option St → Option St
  | some ⟨.normal, tm', σ'⟩ => k.run n F tm' σ'
  | r => r

def condC (x y : Fco) (n : Nat) (F : CallF) (tm : Tr AV) (σ : Heap) : Option AV → Option St
  | some (.bool true) => x.run n F tm σ
  | some (.bool false) => y.run n F tm σ
  | _ => none

def loopC (b : Fco) (F : CallF) : Nat → Tr AV → Heap → Option St
  | 0, _, _ => none
  | n + 1, tm, σ => match b.run n F tm σ with
    | some ⟨.normal, tm', σ'⟩ => loopC b F n tm' σ'
    | r => r

/-- A scope: 'R' lays code ready. -/
def scopeC (R : Code → Fco) (body : Code) (F : CallF) : Nat → Code → Tr AV → Heap → Option St
  | 0, _, _, _ => none
  | n + 1, c, tm, σ => match (R c).run n F tm σ with
    | some ⟨.goto l, tm', σ'⟩ => match findLabel body l with
      | some rest => scopeC R body F n rest tm' σ'
      | none => some ⟨.goto l, tm', σ'⟩
    | r => r

/-- Code laid ready; k: how deep scopes may lie. -/
def compC (P : Program) (nt : Nat) : Nat → Code → Fco
  | 0, _ => ⟨fun _ _ _ _ => none⟩
  | k + 1, c => match c with
    | .skip => ⟨fun _ _ tm σ => some ⟨.normal, tm, σ⟩⟩
    | .label _ => ⟨fun _ _ tm σ => some ⟨.normal, tm, σ⟩⟩
    | .exit id => ⟨fun _ _ tm σ => some ⟨.exit id, tm, σ⟩⟩
    | .goto l => ⟨fun _ _ tm σ => some ⟨.goto l, tm, σ⟩⟩
    | .ret => ⟨fun _ _ tm σ => some ⟨.ret, tm, σ⟩⟩
    | .region _ ops d => ⟨fun _ F tm σ => norA (regB P F nt ops tm σ d)⟩
    | .seq a b => ⟨fun n F tm σ => thenC (compC P nt k b) n F ((compC P nt k a).run n F tm σ)⟩
    | .cond x a b => ⟨fun n F tm σ => condC (compC P nt k a) (compC P nt k b) n F tm σ ((evS x).get tm)⟩
    | .block id b => ⟨fun n F tm σ => outA id ((compC P nt k b).run n F tm σ)⟩
    | .loop b => ⟨fun n F tm σ => loopC (compC P nt k b) F n tm σ⟩
    | .scope b => ⟨fun n F tm σ => scopeC (compC P nt k) b F n b tm σ⟩
    | _ => ⟨fun _ _ _ _ => none⟩

section
variable {P : Program} {N : Nat} {nt : Nat} {ρ : Ren} {σ : Heap} {w : World} {F : CallF} {Q : Exit → Act → World → Prop}

def FcOk [Sy] (P : Program) (N : Nat) (nt : Nat) (F : CallF) (c : Code) (g : Fco) : Prop :=
  ∀ n tm σ s, g.run n F tm σ = some s → ∀ ρ (a : Act) w Q, Rep P N ρ σ w → TmRel ρ nt tm a → PostQ P N ρ σ w nt a.defers s Q → c.wp P Q a w

theorem loopC_ok [Sy] {b : Code} {g : Fco} (hb : FcOk P N nt F b g) : ∀ (n : Nat) (tm : Tr AV) (σ : Heap) (s : St), loopC g F n tm σ = some s → ∀ ρ (a : Act) w Q, Rep P N ρ σ w → TmRel ρ nt tm a → PostQ P N ρ σ w nt a.defers s Q → Code.rounds P b Q n a w
  | 0, tm, σ, s, h, _, _, _, _, _, _, _ => by simp [loopC] at h
  | n + 1, tm, σ, s, h, ρ, a, w, Q, hr, ht, hQ => by
    simp only [loopC] at h
    rw [rounds_succ]
    split at h
    · rename_i tm' σ' hg
      refine hb n tm σ _ hg ρ a w _ hr ht fun ρ' a' w' he ht' hd => ?_
      simp only [toExit, Exit.then]
      refine loopC_ok hb n tm' σ' s h ρ' a' w' Q he.rep ht' ?_
      rw [hd]; exact hQ.trans he
    · rename_i hne
      refine hb n tm σ s h ρ a w _ hr ht fun ρ' a' w' he ht' hd => ?_
      obtain ⟨ex, tm', σ'⟩ := s
      cases ex with
      | normal => exact absurd h (hne tm' σ')
      | exit id => exact hQ ρ' a' w' he ht' hd
      | goto l => exact hQ ρ' a' w' he ht' hd
      | ret => exact hQ ρ' a' w' he ht' hd

theorem scopeC_ok [Sy] {R : Code → Fco} (hR : ∀ c, FcOk P N nt F c (R c)) {body : Code} : ∀ (n : Nat) (c : Code) (tm : Tr AV) (σ : Heap) (s : St), scopeC R body F n c tm σ = some s → ∀ ρ (a : Act) w Q, Rep P N ρ σ w → TmRel ρ nt tm a → PostQ P N ρ σ w nt a.defers s Q →
    jumps P body Q n c a w
  | 0, c, tm, σ, s, h, _, _, _, _, _, _, _ => by simp [scopeC] at h
  | n + 1, c, tm, σ, s, h, ρ, a, w, Q, hr, ht, hQ => by
    simp only [scopeC] at h
    unfold jumps
    split at h
    · rename_i l tm' σ' hRc
      refine hR c n tm σ _ hRc ρ a w _ hr ht fun ρ' a' w' he ht' hd => ?_
      simp only [toExit]
      split at h
      · rename_i rest hf
        simp only [hf]
        exact scopeC_ok hR n rest tm' σ' s h ρ' a' w' Q he.rep ht' (by rw [hd]; exact hQ.trans he)
      · rename_i hf
        simp only [hf]
        simp only [Option.some.injEq] at h; subst h
        exact hQ ρ' a' w' he ht' hd
    · rename_i hne
      refine hR c n tm σ s h ρ a w _ hr ht fun ρ' a' w' he ht' hd => ?_
      have hq := hQ ρ' a' w' he ht' hd
      cases hx : s.ex with
      | goto l =>
        exfalso
        obtain ⟨ex, tm2, σ2⟩ := s
        simp only at hx; subst hx
        exact hne l tm2 σ2 h
      | normal => rw [hx] at hq; exact hq
      | exit id => rw [hx] at hq; exact hq
      | ret => rw [hx] at hq; exact hq

theorem compC_ok [Sy] (hm : P.follows .mixedOrders = true) (hF : FOk P N F) : ∀ k c, FcOk P N nt F c (compC P nt k c)
  | 0, c => fun n tm σ s h => by simp [compC] at h
  | k + 1, c => by
    have ih := compC_ok hm hF k
    intro n tm σ s h ρ a w Q hr ht hQ
    cases c with
    | skip =>
      simp only [compC, Option.some.injEq] at h; subst h
      exact wp_skip (hQ ρ a w (Ext.refl hr) ht rfl)
    | label l =>
      simp only [compC, Option.some.injEq] at h; subst h
      exact wp_label (hQ ρ a w (Ext.refl hr) ht rfl)
    | exit id =>
      simp only [compC, Option.some.injEq] at h; subst h
      exact wp_exit (hQ ρ a w (Ext.refl hr) ht rfl)
    | goto l =>
      simp only [compC, Option.some.injEq] at h; subst h
      exact wp_goto (hQ ρ a w (Ext.refl hr) ht rfl)
    | ret =>
      simp only [compC, Option.some.injEq] at h; subst h
      exact wp_ret (hQ ρ a w (Ext.refl hr) ht rfl)
    | region id ops d =>
      simp only [compC] at h
      obtain ⟨tm', σ', hreg, rfl⟩ := norA_some h
      cases d with
      | false =>
        simp only [regB] at hreg
        exact wp_region_list (seqA_wp hF _ tm σ ρ a w tm' σ' hreg hr ht fun ρ' a' w' he ht' hd => hQ ρ' a' w' he ht' hd)
      | true =>
        simp only [regB] at hreg
        split at hreg
        · rename_i hsel
          exact drawA_wp hm hF hreg hr ht (noSelL_spec hsel) fun ρ' a' w' he ht' hd => hQ ρ' a' w' he ht' hd
        · simp at hreg
    | seq x y =>
      simp only [compC, thenC] at h
      split at h
      · rename_i tm' σ' hx
        refine wp_seq (ih x n tm σ _ hx ρ a w _ hr ht fun ρ' a' w' he ht' hd => ?_)
        simp only [toExit, Exit.then]
        refine ih y n tm' σ' s h ρ' a' w' Q he.rep ht' ?_
        rw [hd]; exact hQ.trans he
      · rename_i hne
        refine wp_seq (ih x n tm σ s h ρ a w _ hr ht fun ρ' a' w' he ht' hd => ?_)
        obtain ⟨ex, tm', σ'⟩ := s
        cases ex with
        | normal => exact absurd h (hne tm' σ')
        | exit id => exact hQ ρ' a' w' he ht' hd
        | goto l => exact hQ ρ' a' w' he ht' hd
        | ret => exact hQ ρ' a' w' he ht' hd
    | cond x p q =>
      simp only [compC] at h
      unfold condC at h
      split at h
      · rename_i hx
        have hx' := hx
        rw [show (evS x).get tm = evo tm x from congrFun (evS_at tm) x] at hx'
        have := con_bool (ht.eval x _ hx')
        exact wp_cond (t := true) this (ih p n tm σ s h ρ a w Q hr ht hQ)
      · rename_i hx
        have hx' := hx
        rw [show (evS x).get tm = evo tm x from congrFun (evS_at tm) x] at hx'
        have := con_bool (ht.eval x _ hx')
        exact wp_cond (t := false) this (ih q n tm σ s h ρ a w Q hr ht hQ)
      · simp at h
    | block id b =>
      simp only [compC] at h
      refine wp_block ?_
      cases hb : (compC P nt k b).run n F tm σ with
      | none => rw [hb] at h; simp [outA] at h
      | some s0 =>
        rw [hb] at h
        refine ih b n tm σ s0 hb ρ a w _ hr ht fun ρ' a' w' he ht' hd => ?_
        obtain ⟨ex, tm', σ'⟩ := s0
        cases ex with
        | normal =>
          simp only [outA, Option.some.injEq] at h; subst h
          exact hQ ρ' a' w' he ht' hd
        | exit id' =>
          simp only [outA] at h
          simp only [toExit, Exit.inBlock]
          split at h
          · rename_i hid
            simp only [Option.some.injEq] at h; subst h
            rw [if_pos (Nat.eq_of_beq_eq_true hid)]
            exact hQ ρ' a' w' he ht' hd
          · rename_i hid
            simp only [Option.some.injEq] at h; subst h
            rw [if_neg (fun e => by rw [e] at hid; simp at hid)]
            exact hQ ρ' a' w' he ht' hd
        | goto l =>
          simp only [outA, Option.some.injEq] at h; subst h
          exact hQ ρ' a' w' he ht' hd
        | ret =>
          simp only [outA, Option.some.injEq] at h; subst h
          exact hQ ρ' a' w' he ht' hd
    | loop b =>
      simp only [compC] at h
      exact wp_loop_rounds n (loopC_ok (ih b) n tm σ s h ρ a w Q hr ht hQ)
    | scope b =>
      simp only [compC] at h
      exact wp_scope_jumps' n (scopeC_ok (fun c => ih c) n b tm σ s h ρ a w Q hr ht hQ)
    | _ => simp [compC] at h

end

/-! ## Code laid ready with what comes behind it -/

def noK : Fco := ⟨fun _ _ _ _ => none⟩
def retK : Fco := ⟨fun _ _ tm σ => some ⟨.normal, tm, σ⟩⟩

/-- An operation that is wanted. -/
def opG (P : Program) (nt : Nat) (o : Oper) (k : Fco) : Fco := match vopC P evS o with
  | some g => match o.dst with
    | none => ⟨fun n F tm σ => Option.rec (motive := fun _ => Option St) none (fun _ => k.run n F tm σ) (g.run tm σ)⟩
    | some d => match Nat.ble (Nat.succ d) nt with
      | true => ⟨fun n F tm σ => Option.rec (motive := fun _ => Option St) none (fun v => k.run n F ((pAt d).run tm (some v)) σ) (g.run tm σ)⟩
      | false => noK
  | none => match o.dst with
    | none => ⟨fun n F tm σ => Option.rec (motive := fun _ => Option St) none (fun p => Prod.rec (motive := fun _ => Option St) (fun _ σ' => k.run n F tm σ') p) ((compV P evS o).run F tm σ)⟩
    | some d => match Nat.ble (Nat.succ d) nt with
      | true => ⟨fun n F tm σ => Option.rec (motive := fun _ => Option St) none (fun p => Prod.rec (motive := fun _ => Option St) (fun v σ' => k.run n F ((pAt d).run tm (some v)) σ') p) ((compV P evS o).run F tm σ)⟩
      | false => noK

/-- A value moved from place to place. -/
def mvK (t d : Nat) (k : Fco) : Fco :=
  ⟨fun n F tm σ => Option.rec (motive := fun _ => Option St) (k.run n F ((pAt d).run tm (some (.tup []))) σ) (fun v => k.run n F ((pAt d).run tm (some v)) σ) ((gAt t).run tm)⟩

def mvT (o : Oper) : Option Nat := match o.op with
  | .move (.tmp t) => some t
  | .assign (.tmp t) => some t
  | _ => none

def opK (P : Program) (nt : Nat) (o : Oper) (k : Fco) : Fco := match mvT o with
  | none => opG P nt o k
  | some t => match o.dst with
    | none => opG P nt o k
    | some d => match Nat.ble (Nat.succ d) nt with
      | true => mvK t d k
      | false => noK

/-- An operation that is not wanted. -/
def skK (nt : Nat) (o : Oper) (k : Fco) : Fco := match o.dst with
  | none => k
  | some d => match Nat.ble (Nat.succ d) nt with
    | true => ⟨fun n F tm σ => k.run n F ((pAt d).run tm (some (.tup []))) σ⟩
    | false => noK

def grdK (j : Nat) (go skip : Fco) : Bool → Fco
  | true => ⟨fun n F tm σ => Option.rec (motive := fun _ => Option St) (skip.run n F tm σ) (fun v => onGrd none (fun b => Bool.rec (motive := fun _ => Option St) (skip.run n F tm σ) (go.run n F tm σ) b) (skip.run n F tm σ) v) ((gAt j).run tm)⟩
  | false => ⟨fun n F tm σ => Option.rec (motive := fun _ => Option St) (skip.run n F tm σ) (fun v => onGrd none (fun b => Bool.rec (motive := fun _ => Option St) (go.run n F tm σ) (skip.run n F tm σ) b) (skip.run n F tm σ) v) ((gAt j).run tm)⟩

def exK (P : Program) (nt : Nat) (ops : List Oper) (o : Oper) (k : Fco) : Fco := match o.guard with
  | none => opK P nt o k
  | some (j, want) => match nth ops j with
    | some oj => match oj.dst with
      | some d => grdK d (opK P nt o k) (skK nt o k) want
      | none => noK
    | none => noK

def seqK (P : Program) (nt : Nat) (ops : List Oper) : List Oper → Fco → Fco
  | [], k => k
  | o :: rest, k => exK P nt ops o (seqK P nt ops rest k)

def drK (g : Fex) (k : Fco) : Fco := ⟨fun n F tm σ => Option.rec (motive := fun _ => Option St) none (fun p => Prod.rec (motive := fun _ => Option St) (fun tm' σ' => k.run n F tm' σ') p) (g.run F tm σ)⟩

def thenK (k : Fco) (n : Nat) (F : CallF) (r : Option St) : Option St :=
  Option.rec (motive := fun _ => Option St) none (fun s => St.rec (motive := fun _ => Option St) (fun ex tm' σ' => EX.rec (motive := fun _ => Option St) (k.run n F tm' σ') (fun id => some ⟨.exit id, tm', σ'⟩) (fun l => some ⟨.goto l, tm', σ'⟩) (some ⟨.ret, tm', σ'⟩) ex) s) r

def blkK (id : Nat) (k : Fco) (n : Nat) (F : CallF) (r : Option St) : Option St :=
  Option.rec (motive := fun _ => Option St) none (fun s => St.rec (motive := fun _ => Option St) (fun ex tm' σ' => EX.rec (motive := fun _ => Option St) (k.run n F tm' σ') (fun id' => Bool.rec (motive := fun _ => Option St) (some ⟨.exit id', tm', σ'⟩) (k.run n F tm' σ') (Nat.beq id' id)) (fun l => some ⟨.goto l, tm', σ'⟩) (some ⟨.ret, tm', σ'⟩) ex) s) r

def condK (x y : Fco) (n : Nat) (F : CallF) (tm : Tr AV) (σ : Heap) (ov : Option AV) : Option St :=
  Option.rec (motive := fun _ => Option St) none (fun v => onBool none (fun t => Bool.rec (motive := fun _ => Option St) (y.run n F tm σ) (x.run n F tm σ) t) v) ov

/-- The same loops and scopes, by the recursors. -/
def loopStep (b : Fco) (F : CallF) (m : Nat) (ih : Tr AV → Heap → Option St) (tm : Tr AV) (σ : Heap) : Option St :=
  Option.rec (motive := fun _ => Option St) none (fun s => St.rec (motive := fun _ => Option St) (fun ex tm' σ' => EX.rec (motive := fun _ => Option St) (ih tm' σ') (fun id => some ⟨.exit id, tm', σ'⟩) (fun l => some ⟨.goto l, tm', σ'⟩) (some ⟨.ret, tm', σ'⟩) ex) s) (b.run m F tm σ)

def loopR (b : Fco) (F : CallF) (n : Nat) : Tr AV → Heap → Option St :=
  Nat.rec (motive := fun _ => Tr AV → Heap → Option St) (fun _ _ => none) (fun m ih => loopStep b F m ih) n

def scopeStep (R : Code → Fco) (body : Code) (F : CallF) (m : Nat) (ih : Code → Tr AV → Heap → Option St) (c : Code) (tm : Tr AV) (σ : Heap) : Option St :=
  Option.rec (motive := fun _ => Option St) none (fun s => St.rec (motive := fun _ => Option St) (fun ex tm' σ' => EX.rec (motive := fun _ => Option St) (some ⟨.normal, tm', σ'⟩) (fun id => some ⟨.exit id, tm', σ'⟩)
    (fun l => Option.rec (motive := fun _ => Option St) (some ⟨.goto l, tm', σ'⟩) (fun rest => ih rest tm' σ') (findLabel body l)) (some ⟨.ret, tm', σ'⟩) ex) s) ((R c).run m F tm σ)

def scopeR (R : Code → Fco) (body : Code) (F : CallF) (n : Nat) : Code → Tr AV → Heap → Option St :=
  Nat.rec (motive := fun _ => Code → Tr AV → Heap → Option St) (fun _ _ _ => none) (fun m ih => scopeStep R body F m ih) n

theorem loopR_eq [Sy] (b : Fco) (F : CallF) : ∀ (n : Nat) (tm : Tr AV) (σ : Heap), loopR b F n tm σ = loopC b F n tm σ
  | 0, _, _ => rfl
  | n + 1, tm, σ => by
    show loopStep b F n (loopR b F n) tm σ = _
    unfold loopStep
    simp only [loopC]
    cases hb : b.run n F tm σ with
    | none => rfl
    | some s =>
      obtain ⟨ex, tm', σ'⟩ := s
      cases ex with
      | normal => exact loopR_eq b F n tm' σ'
      | exit id => rfl
      | goto l => rfl
      | ret => rfl

theorem scopeR_eq [Sy] (R : Code → Fco) (body : Code) (F : CallF) : ∀ (n : Nat) (c : Code) (tm : Tr AV) (σ : Heap), scopeR R body F n c tm σ = scopeC R body F n c tm σ
  | 0, _, _, _ => rfl
  | n + 1, c, tm, σ => by
    show scopeStep R body F n (scopeR R body F n) c tm σ = _
    unfold scopeStep
    simp only [scopeC]
    cases hb : (R c).run n F tm σ with
    | none => rfl
    | some s =>
      obtain ⟨ex, tm', σ'⟩ := s
      cases ex with
      | normal => rfl
      | exit id => rfl
      | goto l =>
        simp only
        cases findLabel body l with
        | none => rfl
        | some rest => exact scopeR_eq R body F n rest tm' σ'
      | ret => rfl

def compK (P : Program) (nt : Nat) : Nat → Code → Fco → Fco
  | 0, _, _ => noK
  | d + 1, c, k => match c with
    | .skip => k
    | .label _ => k
    | .exit id => ⟨fun _ _ tm σ => some ⟨.exit id, tm, σ⟩⟩
    | .goto l => ⟨fun _ _ tm σ => some ⟨.goto l, tm, σ⟩⟩
    | .ret => ⟨fun _ _ tm σ => some ⟨.ret, tm, σ⟩⟩
    | .region _ ops dr => match dr with
      | false => seqK P nt ops.toList ops.toList k
      | true => match noSelL ops.toList with
        | true => drK (drawC P nt ops.toList) k
        | false => noK
    | .seq a b => compK P nt d a (compK P nt d b k)
    | .cond x a b => ⟨fun n F tm σ => condK (compK P nt d a k) (compK P nt d b k) n F tm σ ((evS x).get tm)⟩
    | .block id b => ⟨fun n F tm σ => blkK id k n F ((compK P nt d b retK).run n F tm σ)⟩
    | .loop b => ⟨fun n F tm σ => thenK k n F (loopR (compK P nt d b retK) F n tm σ)⟩
    | .scope b => ⟨fun n F tm σ => thenK k n F (scopeR (fun c => compK P nt d c retK) b F n b tm σ)⟩
    | _ => noK

section
variable {P : Program} {nt : Nat} {F : CallF}

theorem opG_ok [Sy] {o : Oper} {k : Fco} {n : Nat} {tm : Tr AV} {σ : Heap} {s : St} (h : (opG P nt o k).run n F tm σ = some s) :
    ∃ v tm' σ', anyA P F (evo tm) σ o = some (v, σ') ∧ putA nt tm o.dst v = some tm' ∧ k.run n F tm' σ' = some s := by
  unfold opG at h
  split at h
  · rename_i g hg
    split at h
    · rename_i hd
      obtain ⟨v, hv, h⟩ := orec_some h
      exact ⟨v, tm, σ, evS_at tm ▸ vopC_ok hg hv, by simp only [putA, hd], h⟩
    · rename_i d hd
      split at h
      · rename_i hb
        obtain ⟨v, hv, h⟩ := orec_some h
        exact ⟨v, _, σ, evS_at tm ▸ vopC_ok hg hv, by simp only [putA, hd, hb]; rw [← pAt_eq], h⟩
      · cases h
  · split at h
    · rename_i hd
      obtain ⟨⟨v, σ'⟩, hp, h⟩ := orec_some h
      exact ⟨v, tm, σ', evS_at tm ▸ compV_ok (fun _ _ => rfl) hp, by simp only [putA, hd], h⟩
    · rename_i d hd
      split at h
      · rename_i hb
        obtain ⟨⟨v, σ'⟩, hp, h⟩ := orec_some h
        exact ⟨v, _, σ', evS_at tm ▸ compV_ok (fun _ _ => rfl) hp, by simp only [putA, hd, hb]; rw [← pAt_eq], h⟩
      · cases h

theorem mvT_any {o : Oper} {t : Nat} (h : mvT o = some t) (E : Operand → Option AV) (σ : Heap) : anyA P F E σ o = liftV σ (E (.tmp t)) := by
  unfold mvT at h
  split at h
  · rename_i ho; simp only [Option.some.injEq] at h; subst h; simp only [anyA, ho]
  · rename_i ho; simp only [Option.some.injEq] at h; subst h; simp only [anyA, ho]
  · cases h

theorem opK_ok [Sy] {o : Oper} {k : Fco} {n : Nat} {tm : Tr AV} {σ : Heap} {s : St} (h : (opK P nt o k).run n F tm σ = some s) :
    ∃ v tm' σ', anyA P F (evo tm) σ o = some (v, σ') ∧ putA nt tm o.dst v = some tm' ∧ k.run n F tm' σ' = some s := by
  unfold opK at h
  split at h
  · exact opG_ok h
  · rename_i t ht
    split at h
    · exact opG_ok h
    · rename_i d hd
      split at h
      · rename_i hb
        rw [mvT_any ht]
        have key : ∀ v, evo tm (.tmp t) = some v → k.run n F ((pAt d).run tm (some v)) σ = some s → ∃ v tm' σ', liftV σ (evo tm (.tmp t)) = some (v, σ') ∧ putA nt tm o.dst v = some tm' ∧ k.run n F tm' σ' = some s := fun v hv hk =>
          ⟨v, _, σ, by rw [hv]; rfl, by simp only [putA, hd, hb]; rw [← pAt_eq], hk⟩
        cases hq : (gAt t).run tm with
        | none =>
          simp only [mvK, hq] at h
          rw [gAt_eq] at hq
          exact key (.tup []) (by simp only [evo, hq]) h
        | some v =>
          simp only [mvK, hq] at h
          rw [gAt_eq] at hq
          exact key v (by simp only [evo, hq]) h
      · cases h

theorem skK_ok [Sy] {o : Oper} {k : Fco} {n : Nat} {tm : Tr AV} {σ : Heap} {s : St} (h : (skK nt o k).run n F tm σ = some s) :
    ∃ tm', putA nt tm o.dst (.tup []) = some tm' ∧ k.run n F tm' σ = some s := by
  unfold skK at h
  split at h
  · rename_i hd
    exact ⟨tm, by simp only [putA, hd], h⟩
  · rename_i d hd
    split at h
    · rename_i hb
      exact ⟨_, by simp only [putA, hd, hb]; rw [← pAt_eq], h⟩
    · cases h

theorem exK_ok [Sy] {ops : List Oper} {o : Oper} {k : Fco} {n : Nat} {tm : Tr AV} {σ : Heap} {s : St} (h : (exK P nt ops o k).run n F tm σ = some s) :
    ∃ tm' σ', execA P F nt ops tm σ o = some (tm', σ') ∧ k.run n F tm' σ' = some s := by
  have hgo : wantedA ops tm o = some true → (opK P nt o k).run n F tm σ = some s → ∃ tm' σ', execA P F nt ops tm σ o = some (tm', σ') ∧ k.run n F tm' σ' = some s := by
    intro hw hx
    obtain ⟨v, tm1, σ1, h1, h2, h3⟩ := opK_ok hx
    exact ⟨tm1, σ1, by simp only [execA, hw, h1, h2], h3⟩
  have hskip : wantedA ops tm o = some false → (skK nt o k).run n F tm σ = some s → ∃ tm' σ', execA P F nt ops tm σ o = some (tm', σ') ∧ k.run n F tm' σ' = some s := by
    intro hw hx
    obtain ⟨tm1, h1, h2⟩ := skK_ok hx
    exact ⟨tm1, σ, by simp only [execA, hw, h1], h2⟩
  unfold exK at h
  split at h
  · rename_i hg
    exact hgo (by simp [wantedA, hg]) h
  · rename_i j want hg
    split at h
    · rename_i oj hj
      split at h
      · rename_i d hd
        have hw : ∀ {b : Option Bool}, (match tm.at0 d with | some (.bool b) => some (isTrueB b want) | some (.tup []) => some false | none => some false | _ => none) = b → wantedA ops tm o = b := fun hh => by
          simp only [wantedA, hg, hj, hd]; exact hh
        cases hq : (gAt d).run tm with
        | none =>
          have hq' := hq
          rw [gAt_eq] at hq'
          have hs : (skK nt o k).run n F tm σ = some s := by
            cases want with
            | true => simp only [grdK, hq] at h; exact h
            | false => simp only [grdK, hq] at h; exact h
          exact hskip (hw (by rw [hq'])) hs
        | some v =>
          have hq' := hq
          rw [gAt_eq] at hq'
          cases want with
          | true =>
            simp only [grdK, hq] at h
            rcases onGrd_cases h with ⟨b, rfl, h⟩ | ⟨rfl, h⟩ | h
            · cases b with
              | true => exact hgo (hw (by rw [hq']; rfl)) h
              | false => exact hskip (hw (by rw [hq']; rfl)) h
            · exact hskip (hw (by rw [hq'])) h
            · cases h
          | false =>
            simp only [grdK, hq] at h
            rcases onGrd_cases h with ⟨b, rfl, h⟩ | ⟨rfl, h⟩ | h
            · cases b with
              | true => exact hskip (hw (by rw [hq']; rfl)) h
              | false => exact hgo (hw (by rw [hq']; rfl)) h
            · exact hskip (hw (by rw [hq'])) h
            · cases h
      · cases h
    · cases h

theorem seqK_ok [Sy] {ops : List Oper} {k : Fco} {n : Nat} {s : St} : ∀ {l : List Oper} {tm : Tr AV} {σ : Heap}, (seqK P nt ops l k).run n F tm σ = some s → ∃ tm' σ', seqA P F nt ops l tm σ = some (tm', σ') ∧ k.run n F tm' σ' = some s
  | [], tm, σ, h => ⟨tm, σ, rfl, h⟩
  | o :: l, tm, σ, h => by
    obtain ⟨tm1, σ1, h1, h2⟩ := exK_ok h
    obtain ⟨tm2, σ2, h3, h4⟩ := seqK_ok h2
    exact ⟨tm2, σ2, by simp only [seqA, h1, h3], h4⟩

/-- What comes behind is run, if the code came to its end. -/
def After (k : Fco) (n : Nat) (F : CallF) (s0 s : St) : Prop := (s0.ex = .normal ∧ k.run n F s0.tm s0.hp = some s) ∨ (s0.ex ≠ .normal ∧ s = s0)

theorem after_ret [Sy] {n : Nat} {s0 s : St} (h : After retK n F s0 s) : s = s0 := by
  rcases h with ⟨h1, h2⟩ | ⟨_, h2⟩
  · obtain ⟨ex, tm, σ⟩ := s0
    simp only at h1; subst h1
    simp only [retK, Option.some.injEq] at h2
    exact h2.symm
  · exact h2

theorem thenK_ok [Sy] {k : Fco} {n : Nat} {r : Option St} {s : St} (h : thenK k n F r = some s) : ∃ s0, r = some s0 ∧ After k n F s0 s := by
  obtain ⟨s0, h0, h⟩ := orec_some h
  refine ⟨s0, h0, ?_⟩
  obtain ⟨ex, tm, σ⟩ := s0
  cases ex with
  | normal => exact .inl ⟨rfl, h⟩
  | exit id => exact .inr ⟨by simp, (Option.some.inj h).symm⟩
  | goto l => exact .inr ⟨by simp, (Option.some.inj h).symm⟩
  | ret => exact .inr ⟨by simp, (Option.some.inj h).symm⟩

theorem blkK_ok [Sy] {id : Nat} {k : Fco} {n : Nat} {r : Option St} {s : St} (h : blkK id k n F r = some s) : ∃ s0, outA id r = some s0 ∧ After k n F s0 s := by
  obtain ⟨s0, h0, h⟩ := orec_some h
  subst h0
  obtain ⟨ex, tm, σ⟩ := s0
  cases ex with
  | normal => exact ⟨_, rfl, .inl ⟨rfl, h⟩⟩
  | exit id' =>
    rcases brec_cases h with ⟨hb, h⟩ | ⟨hb, h⟩
    · exact ⟨⟨.normal, tm, σ⟩, by simp only [outA, hb], .inl ⟨rfl, h⟩⟩
    · exact ⟨⟨.exit id', tm, σ⟩, by simp only [outA, hb], .inr ⟨by simp, (Option.some.inj h).symm⟩⟩
  | goto l => exact ⟨_, rfl, .inr ⟨by simp, (Option.some.inj h).symm⟩⟩
  | ret => exact ⟨_, rfl, .inr ⟨by simp, (Option.some.inj h).symm⟩⟩

def RunLe (F : CallF) (g g' : Fco) : Prop := ∀ n tm σ s, g.run n F tm σ = some s → g'.run n F tm σ = some s

theorem loopC_le [Sy] {g g' : Fco} (hg : RunLe F g g') : ∀ (n : Nat) (tm : Tr AV) (σ : Heap) (s : St), loopC g F n tm σ = some s → loopC g' F n tm σ = some s
  | 0, tm, σ, s, h => by simp [loopC] at h
  | n + 1, tm, σ, s, h => by
    simp only [loopC] at h ⊢
    split at h
    · rename_i tm' σ' hx
      rw [hg _ _ _ _ hx]
      exact loopC_le hg n tm' σ' s h
    · rename_i hne
      rw [hg _ _ _ _ h]
      split
      · rename_i tm' σ' hx
        exact absurd (h.trans hx) (hne tm' σ')
      · rfl

theorem scopeC_le [Sy] {R R' : Code → Fco} (hR : ∀ c, RunLe F (R c) (R' c)) {body : Code} : ∀ (n : Nat) (c : Code) (tm : Tr AV) (σ : Heap) (s : St), scopeC R body F n c tm σ = some s → scopeC R' body F n c tm σ = some s
  | 0, c, tm, σ, s, h => by simp [scopeC] at h
  | n + 1, c, tm, σ, s, h => by
    simp only [scopeC] at h ⊢
    split at h
    · rename_i l tm' σ' hx
      rw [hR c _ _ _ _ hx]
      split at h
      · rename_i rest hf
        simp only [hf]
        exact scopeC_le hR n rest tm' σ' s h
      · rename_i hf
        simp only [hf]; exact h
    · rename_i hne
      rw [hR c _ _ _ _ h]
      split
      · rename_i l tm' σ' hx
        exact absurd (h.trans hx) (hne l tm' σ')
      · rfl

theorem compK_split [Sy] : ∀ (d : Nat) (c : Code) (k : Fco) (n : Nat) (tm : Tr AV) (σ : Heap) (s : St), (compK P nt d c k).run n F tm σ = some s → ∃ s0, (compC P nt d c).run n F tm σ = some s0 ∧ After k n F s0 s
  | 0, c, k, n, tm, σ, s, h => by simp [compK, noK] at h
  | d + 1, c, k, n, tm, σ, s, h => by
    have ih := compK_split d
    have ret : ∀ c, RunLe F (compK P nt d c retK) (compC P nt d c) := fun c n tm σ s hh => by
      obtain ⟨s0, h1, h2⟩ := ih c retK n tm σ s hh
      rw [after_ret h2]; exact h1
    cases c with
    | skip => exact ⟨_, rfl, .inl ⟨rfl, h⟩⟩
    | label l => exact ⟨_, rfl, .inl ⟨rfl, h⟩⟩
    | exit id => exact ⟨_, rfl, .inr ⟨by simp, (Option.some.inj h).symm⟩⟩
    | goto l => exact ⟨_, rfl, .inr ⟨by simp, (Option.some.inj h).symm⟩⟩
    | ret => exact ⟨_, rfl, .inr ⟨by simp, (Option.some.inj h).symm⟩⟩
    | region id ops dr =>
      cases dr with
      | false =>
        obtain ⟨tm', σ', h1, h2⟩ := seqK_ok (show (seqK P nt ops.toList ops.toList k).run n F tm σ = some s from h)
        exact ⟨⟨.normal, tm', σ'⟩, by simp only [compC, regB, h1, norA], .inl ⟨rfl, h2⟩⟩
      | true =>
        simp only [compK] at h
        split at h
        · rename_i hs
          obtain ⟨⟨tm', σ'⟩, hp, h⟩ := orec_some h
          exact ⟨⟨.normal, tm', σ'⟩, by simp only [compC, regB, hs, drawC_ok hp, norA], .inl ⟨rfl, h⟩⟩
        · cases h
    | seq a b =>
      obtain ⟨s0, h1, h2⟩ := ih a _ n tm σ s (show (compK P nt d a (compK P nt d b k)).run n F tm σ = some s from h)
      obtain ⟨ex, tm', σ'⟩ := s0
      rcases h2 with ⟨h2, h3⟩ | ⟨h2, h3⟩
      · simp only at h2; subst h2
        obtain ⟨s1, h4, h5⟩ := ih b k n tm' σ' s h3
        exact ⟨s1, by simp only [compC, h1, thenC, h4], h5⟩
      · subst h3
        refine ⟨⟨ex, tm', σ'⟩, ?_, .inr ⟨h2, rfl⟩⟩
        simp only [compC, h1]
        cases ex with
        | normal => exact absurd rfl h2
        | _ => rfl
    | cond x a b =>
      simp only [compK, condK] at h
      obtain ⟨v, hv, h⟩ := orec_some h
      rcases onBool_cases h with ⟨t, rfl, h⟩ | h
      · cases t with
        | true =>
          obtain ⟨s0, h1, h2⟩ := ih a k n tm σ s h
          exact ⟨s0, by simp only [compC, hv, condC, h1], h2⟩
        | false =>
          obtain ⟨s0, h1, h2⟩ := ih b k n tm σ s h
          exact ⟨s0, by simp only [compC, hv, condC, h1], h2⟩
      · cases h
    | block id b =>
      simp only [compK] at h
      obtain ⟨s0, h1, h2⟩ := blkK_ok h
      refine ⟨s0, ?_, h2⟩
      simp only [compC]
      cases hb : (compK P nt d b retK).run n F tm σ with
      | none => rw [hb] at h1; simp [outA] at h1
      | some s1 =>
        rw [hb] at h1
        rw [ret b _ _ _ _ hb]; exact h1
    | loop b =>
      simp only [compK] at h
      obtain ⟨s0, h1, h2⟩ := thenK_ok h
      rw [loopR_eq] at h1
      exact ⟨s0, by simp only [compC]; exact loopC_le (ret b) n tm σ s0 h1, h2⟩
    | scope b =>
      simp only [compK] at h
      obtain ⟨s0, h1, h2⟩ := thenK_ok h
      rw [scopeR_eq] at h1
      exact ⟨s0, by simp only [compC]; exact scopeC_le ret n b tm σ s0 h1, h2⟩
    | _ => simp [compK, noK] at h

theorem compK_le [Sy] (d : Nat) (c : Code) : RunLe F (compK P nt d c retK) (compC P nt d c) := fun n tm σ s h => by
  obtain ⟨s0, h1, h2⟩ := compK_split d c retK n tm σ s h
  rw [after_ret h2]; exact h1

end
end
end Go.Ev
