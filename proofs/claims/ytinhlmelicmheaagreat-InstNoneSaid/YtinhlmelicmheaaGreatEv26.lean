import Derived.Test.YtinhlmelicmheaaGreatEv25
namespace Go.Ev
open Go

noncomputable section

def dropV (tm : Tr AV) : Option (AV × Heap) → Option (Tr AV × Heap)
  | some (_, σ) => some (tm, σ)
  | none => none

def putV (d : Nat) (tm : Tr AV) : Option (AV × Heap) → Option (Tr AV × Heap)
  | some (v, σ) => some (put1 tm d (some v), σ)
  | none => none

/-- An operation that is wanted. -/
def compW (P : Program) (nt : Nat) (o : Oper) : Fex := match o.dst with
  | none => ⟨fun F tm σ => dropV tm ((compV P evS o).run F tm σ)⟩
  | some d => match Nat.ble (Nat.succ d) nt with
    | true => ⟨fun F tm σ => putV d tm ((compV P evS o).run F tm σ)⟩
    | false => ⟨fun _ _ _ => none⟩

/-- An operation that is not wanted. -/
def compN (nt : Nat) (o : Oper) : Fex := match o.dst with
  | none => ⟨fun _ tm σ => some (tm, σ)⟩
  | some d => match Nat.ble (Nat.succ d) nt with
    | true => ⟨fun _ tm σ => some (put1 tm d (some (.tup [])), σ)⟩
    | false => ⟨fun _ _ _ => none⟩

def grdV (want : Bool) (go skip : Fex) (F : CallF) (tm : Tr AV) (σ : Heap) : Option AV → Option (Tr AV × Heap)
  | some (.bool b) => match isTrueB b want with
    | true => go.run F tm σ
    | false => skip.run F tm σ
  | some (.tup []) => skip.run F tm σ
  | none => skip.run F tm σ
  | _ => none

def compE (P : Program) (nt : Nat) (ops : List Oper) (o : Oper) : Fex := match o.guard with
  | none => compW P nt o
  | some (j, want) => match nth ops j with
    | some oj => match oj.dst with
      | some d => ⟨fun F tm σ => grdV want (compW P nt o) (compN nt o) F tm σ (at1 tm d)⟩
      | none => ⟨fun _ _ _ => none⟩
    | none => ⟨fun _ _ _ => none⟩

def bindE (k : Fex) (F : CallF) : Option (Tr AV × Heap) → Option (Tr AV × Heap)
  | some (tm', σ') => k.run F tm' σ'
  | none => none

def compS (P : Program) (nt : Nat) (ops : List Oper) : List Oper → Fex
  | [] => ⟨fun _ tm σ => some (tm, σ)⟩
  | o :: rest => ⟨fun F tm σ => bindE (compS P nt ops rest) F ((compE P nt ops o).run F tm σ)⟩

theorem compW_ok {P : Program} {nt : Nat} {o : Oper} {F : CallF} {tm : Tr AV} {σ : Heap} {r : Tr AV × Heap} (h : (compW P nt o).run F tm σ = some r) :
    ∃ v tm', anyA P F (evo tm) σ o = some (v, r.2) ∧ putA nt tm o.dst v = some tm' ∧ r.1 = tm' := by
  unfold compW at h
  split at h
  · rename_i hd
    simp only [dropV] at h
    split at h
    · rename_i v σ' hv
      simp only [Option.some.injEq] at h; subst h
      exact ⟨v, tm, (evS_at tm ▸ compV_ok (fun _ _ => rfl) hv), by simp [putA, hd], rfl⟩
    · simp at h
  · rename_i d hd
    split at h
    · rename_i hb
      simp only [putV, put1_eq] at h
      split at h
      · rename_i v σ' hv
        simp only [Option.some.injEq] at h; subst h
        exact ⟨v, _, (evS_at tm ▸ compV_ok (fun _ _ => rfl) hv), by simp only [putA, hd, hb], rfl⟩
      · simp at h
    · simp at h

theorem compN_ok {nt : Nat} {o : Oper} {F : CallF} {tm : Tr AV} {σ : Heap} {r : Tr AV × Heap} (h : (compN nt o).run F tm σ = some r) :
    putA nt tm o.dst (.tup []) = some r.1 ∧ r.2 = σ := by
  unfold compN at h
  split at h
  · rename_i hd
    simp only [Option.some.injEq] at h; subst h
    exact ⟨by simp [putA, hd], rfl⟩
  · rename_i d hd
    split at h
    · rename_i hb
      simp only [Option.some.injEq, put1_eq] at h; subst h
      exact ⟨by simp only [putA, hd, hb], rfl⟩
    · simp at h

theorem compE_ok {P : Program} {nt : Nat} {ops : List Oper} {o : Oper} {F : CallF} {tm : Tr AV} {σ : Heap} {r : Tr AV × Heap} (h : (compE P nt ops o).run F tm σ = some r) : execA P F nt ops tm σ o = some r := by
  obtain ⟨tm', σ'⟩ := r
  have hgo : ∀ {x : Tr AV × Heap}, wantedA ops tm o = some true → (compW P nt o).run F tm σ = some x → execA P F nt ops tm σ o = some x := by
    intro x hw hx
    obtain ⟨v, tm1, h1, h2, h3⟩ := compW_ok hx
    obtain ⟨x1, x2⟩ := x
    simp only at h1 h3; subst h3
    simp only [execA, hw, h1, h2]
  have hskip : ∀ {x : Tr AV × Heap}, wantedA ops tm o = some false → (compN nt o).run F tm σ = some x → execA P F nt ops tm σ o = some x := by
    intro x hw hx
    obtain ⟨h1, h2⟩ := compN_ok hx
    obtain ⟨x1, x2⟩ := x
    simp only at h1 h2; subst h2
    simp only [execA, hw, h1]
  unfold compE at h
  split at h
  · rename_i hg
    exact hgo (by simp [wantedA, hg]) h
  · rename_i j want hg
    split at h
    · rename_i oj hj
      split at h
      · rename_i d hd
        simp only [grdV, at1_eq] at h
        split at h
        · rename_i b hb
          split at h
          · rename_i ht
            exact hgo (by simp only [wantedA, hg, hj, hd, hb, ht]) h
          · rename_i ht
            exact hskip (by simp only [wantedA, hg, hj, hd, hb, ht]) h
        · rename_i hb
          exact hskip (by simp only [wantedA, hg, hj, hd, hb]) h
        · rename_i hb
          exact hskip (by simp only [wantedA, hg, hj, hd, hb]) h
        · simp at h
      · simp at h
    · simp at h

theorem compS_ok {P : Program} {nt : Nat} {ops : List Oper} {F : CallF} : ∀ {l : List Oper} {tm : Tr AV} {σ : Heap} {r : Tr AV × Heap}, (compS P nt ops l).run F tm σ = some r → seqA P F nt ops l tm σ = some r
  | [], tm, σ, r, h => by simpa only [compS, seqA] using h
  | o :: l, tm, σ, r, h => by
    simp only [compS, bindE] at h
    split at h
    · rename_i tm' σ' hx
      simp only [seqA, compE_ok hx]
      exact compS_ok h
    · simp at h

/-! ## Code laid ready -/

structure Fco where
  run : Nat → CallF → Tr AV → Heap → Option St

def regC (P : Program) (nt : Nat) (ops : Array Oper) : Bool → Fex
  | false => compS P nt ops.toList ops.toList
  | true => match noSelL ops.toList with
    | true => drawC P nt ops.toList
    | false => ⟨fun _ _ _ => none⟩

def thenC (k : Fco) (n : Nat) (F : CallF) : Option St → Option St
  | some ⟨.normal, tm', σ'⟩ => k.run n F tm' σ'
  | r => r

def condC (x y : Fco) (n : Nat) (F : CallF) (tm : Tr AV) (σ : Heap) : Option AV → Option St
  | some (.bool true) => x.run n F tm σ
  | some (.bool false) => y.run n F tm σ
  | _ => none

def loopC (b : Fco) (F : CallF) : Nat → Tr AV → Heap → Option St
  | 0, _, _ => none
  | n + 1, tm, σ => match b.run n F tm σ with
    | some ⟨.normal, tm', σ'⟩ => loopC b F n tm' σ'
    | r => r

/-- A scope: 'R' lays code ready. -/
def scopeC (R : Code → Fco) (body : Code) (F : CallF) : Nat → Code → Tr AV → Heap → Option St
  | 0, _, _, _ => none
  | n + 1, c, tm, σ => match (R c).run n F tm σ with
    | some ⟨.goto l, tm', σ'⟩ => match findLabel body l with
      | some rest => scopeC R body F n rest tm' σ'
      | none => some ⟨.goto l, tm', σ'⟩
    | r => r

/-- Code laid ready; k: how deep scopes may lie. -/
def compC (P : Program) (nt : Nat) : Nat → Code → Fco
  | 0, _ => ⟨fun _ _ _ _ => none⟩
  | k + 1, c => match c with
    | .skip => ⟨fun _ _ tm σ => some ⟨.normal, tm, σ⟩⟩
    | .label _ => ⟨fun _ _ tm σ => some ⟨.normal, tm, σ⟩⟩
    | .exit id => ⟨fun _ _ tm σ => some ⟨.exit id, tm, σ⟩⟩
    | .goto l => ⟨fun _ _ tm σ => some ⟨.goto l, tm, σ⟩⟩
    | .ret => ⟨fun _ _ tm σ => some ⟨.ret, tm, σ⟩⟩
    | .region _ ops d => ⟨fun _ F tm σ => norA ((regC P nt ops d).run F tm σ)⟩
    | .seq a b => ⟨fun n F tm σ => thenC (compC P nt k b) n F ((compC P nt k a).run n F tm σ)⟩
    | .cond x a b => ⟨fun n F tm σ => condC (compC P nt k a) (compC P nt k b) n F tm σ ((evS x).get tm)⟩
    | .block id b => ⟨fun n F tm σ => outA id ((compC P nt k b).run n F tm σ)⟩
    | .loop b => ⟨fun n F tm σ => loopC (compC P nt k b) F n tm σ⟩
    | .scope b => ⟨fun n F tm σ => scopeC (compC P nt k) b F n b tm σ⟩
    | _ => ⟨fun _ _ _ _ => none⟩

section
variable {P : Program} {N : Nat} {nt : Nat} {ρ : Ren} {σ : Heap} {w : World} {F : CallF} {Q : Exit → Act → World → Prop}

theorem regC_ok {ops : Array Oper} {d : Bool} {tm : Tr AV} {r : Tr AV × Heap} (h : (regC P nt ops d).run F tm σ = some r) : regB P F nt ops tm σ d = some r := by
  cases d with
  | false => exact compS_ok h
  | true =>
    simp only [regC] at h
    split at h
    · rename_i hs; simp only [regB, hs]; exact drawC_ok h
    · simp at h

def FcOk (P : Program) (N : Nat) (nt : Nat) (F : CallF) (c : Code) (g : Fco) : Prop :=
  ∀ n tm σ s, g.run n F tm σ = some s → ∀ ρ (a : Act) w Q, Rep P N ρ σ w → TmRel ρ nt tm a → PostQ P N ρ σ w nt a.defers s Q → c.wp P Q a w

theorem loopC_ok {b : Code} {g : Fco} (hb : FcOk P N nt F b g) : ∀ (n : Nat) (tm : Tr AV) (σ : Heap) (s : St), loopC g F n tm σ = some s → ∀ ρ (a : Act) w Q, Rep P N ρ σ w → TmRel ρ nt tm a → PostQ P N ρ σ w nt a.defers s Q → Code.rounds P b Q n a w
  | 0, tm, σ, s, h, _, _, _, _, _, _, _ => by simp [loopC] at h
  | n + 1, tm, σ, s, h, ρ, a, w, Q, hr, ht, hQ => by
    simp only [loopC] at h
    rw [rounds_succ]
    split at h
    · rename_i tm' σ' hg
      refine hb n tm σ _ hg ρ a w _ hr ht fun ρ' a' w' he ht' hd => ?_
      simp only [toExit, Exit.then]
      refine loopC_ok hb n tm' σ' s h ρ' a' w' Q he.rep ht' ?_
      rw [hd]; exact hQ.trans he
    · rename_i hne
      refine hb n tm σ s h ρ a w _ hr ht fun ρ' a' w' he ht' hd => ?_
      obtain ⟨ex, tm', σ'⟩ := s
      cases ex with
      | normal => exact absurd h (hne tm' σ')
      | exit id => exact hQ ρ' a' w' he ht' hd
      | goto l => exact hQ ρ' a' w' he ht' hd
      | ret => exact hQ ρ' a' w' he ht' hd

theorem scopeC_ok {R : Code → Fco} (hR : ∀ c, FcOk P N nt F c (R c)) {body : Code} : ∀ (n : Nat) (c : Code) (tm : Tr AV) (σ : Heap) (s : St), scopeC R body F n c tm σ = some s → ∀ ρ (a : Act) w Q, Rep P N ρ σ w → TmRel ρ nt tm a → PostQ P N ρ σ w nt a.defers s Q →
    jumps P body Q n c a w
  | 0, c, tm, σ, s, h, _, _, _, _, _, _, _ => by simp [scopeC] at h
  | n + 1, c, tm, σ, s, h, ρ, a, w, Q, hr, ht, hQ => by
    simp only [scopeC] at h
    unfold jumps
    split at h
    · rename_i l tm' σ' hRc
      refine hR c n tm σ _ hRc ρ a w _ hr ht fun ρ' a' w' he ht' hd => ?_
      simp only [toExit]
      split at h
      · rename_i rest hf
        simp only [hf]
        exact scopeC_ok hR n rest tm' σ' s h ρ' a' w' Q he.rep ht' (by rw [hd]; exact hQ.trans he)
      · rename_i hf
        simp only [hf]
        simp only [Option.some.injEq] at h; subst h
        exact hQ ρ' a' w' he ht' hd
    · rename_i hne
      refine hR c n tm σ s h ρ a w _ hr ht fun ρ' a' w' he ht' hd => ?_
      have hq := hQ ρ' a' w' he ht' hd
      cases hx : s.ex with
      | goto l =>
        exfalso
        obtain ⟨ex, tm2, σ2⟩ := s
        simp only at hx; subst hx
        exact hne l tm2 σ2 h
      | normal => rw [hx] at hq; exact hq
      | exit id => rw [hx] at hq; exact hq
      | ret => rw [hx] at hq; exact hq

theorem compC_ok (hm : P.follows .mixedOrders = true) (hF : FOk P N F) : ∀ k c, FcOk P N nt F c (compC P nt k c)
  | 0, c => fun n tm σ s h => by simp [compC] at h
  | k + 1, c => by
    have ih := compC_ok hm hF k
    intro n tm σ s h ρ a w Q hr ht hQ
    cases c with
    | skip =>
      simp only [compC, Option.some.injEq] at h; subst h
      exact wp_skip (hQ ρ a w (Ext.refl hr) ht rfl)
    | label l =>
      simp only [compC, Option.some.injEq] at h; subst h
      exact wp_label (hQ ρ a w (Ext.refl hr) ht rfl)
    | exit id =>
      simp only [compC, Option.some.injEq] at h; subst h
      exact wp_exit (hQ ρ a w (Ext.refl hr) ht rfl)
    | goto l =>
      simp only [compC, Option.some.injEq] at h; subst h
      exact wp_goto (hQ ρ a w (Ext.refl hr) ht rfl)
    | ret =>
      simp only [compC, Option.some.injEq] at h; subst h
      exact wp_ret (hQ ρ a w (Ext.refl hr) ht rfl)
    | region id ops d =>
      simp only [compC] at h
      obtain ⟨tm', σ', hreg, rfl⟩ := norA_some h
      have hreg := regC_ok hreg
      cases d with
      | false =>
        simp only [regB] at hreg
        exact wp_region_list (seqA_wp hF _ tm σ ρ a w tm' σ' hreg hr ht fun ρ' a' w' he ht' hd => hQ ρ' a' w' he ht' hd)
      | true =>
        simp only [regB] at hreg
        split at hreg
        · rename_i hsel
          exact drawA_wp hm hF hreg hr ht (noSelL_spec hsel) fun ρ' a' w' he ht' hd => hQ ρ' a' w' he ht' hd
        · simp at hreg
    | seq x y =>
      simp only [compC, thenC] at h
      split at h
      · rename_i tm' σ' hx
        refine wp_seq (ih x n tm σ _ hx ρ a w _ hr ht fun ρ' a' w' he ht' hd => ?_)
        simp only [toExit, Exit.then]
        refine ih y n tm' σ' s h ρ' a' w' Q he.rep ht' ?_
        rw [hd]; exact hQ.trans he
      · rename_i hne
        refine wp_seq (ih x n tm σ s h ρ a w _ hr ht fun ρ' a' w' he ht' hd => ?_)
        obtain ⟨ex, tm', σ'⟩ := s
        cases ex with
        | normal => exact absurd h (hne tm' σ')
        | exit id => exact hQ ρ' a' w' he ht' hd
        | goto l => exact hQ ρ' a' w' he ht' hd
        | ret => exact hQ ρ' a' w' he ht' hd
    | cond x p q =>
      simp only [compC] at h
      unfold condC at h
      split at h
      · rename_i hx
        have hx' := hx
        rw [show (evS x).get tm = evo tm x from congrFun (evS_at tm) x] at hx'
        have := con_bool (ht.eval x _ hx')
        exact wp_cond (t := true) this (ih p n tm σ s h ρ a w Q hr ht hQ)
      · rename_i hx
        have hx' := hx
        rw [show (evS x).get tm = evo tm x from congrFun (evS_at tm) x] at hx'
        have := con_bool (ht.eval x _ hx')
        exact wp_cond (t := false) this (ih q n tm σ s h ρ a w Q hr ht hQ)
      · simp at h
    | block id b =>
      simp only [compC] at h
      refine wp_block ?_
      cases hb : (compC P nt k b).run n F tm σ with
      | none => rw [hb] at h; simp [outA] at h
      | some s0 =>
        rw [hb] at h
        refine ih b n tm σ s0 hb ρ a w _ hr ht fun ρ' a' w' he ht' hd => ?_
        obtain ⟨ex, tm', σ'⟩ := s0
        cases ex with
        | normal =>
          simp only [outA, Option.some.injEq] at h; subst h
          exact hQ ρ' a' w' he ht' hd
        | exit id' =>
          simp only [outA] at h
          simp only [toExit, Exit.inBlock]
          split at h
          · rename_i hid
            simp only [Option.some.injEq] at h; subst h
            rw [if_pos (Nat.eq_of_beq_eq_true hid)]
            exact hQ ρ' a' w' he ht' hd
          · rename_i hid
            simp only [Option.some.injEq] at h; subst h
            rw [if_neg (fun e => by rw [e] at hid; simp at hid)]
            exact hQ ρ' a' w' he ht' hd
        | goto l =>
          simp only [outA, Option.some.injEq] at h; subst h
          exact hQ ρ' a' w' he ht' hd
        | ret =>
          simp only [outA, Option.some.injEq] at h; subst h
          exact hQ ρ' a' w' he ht' hd
    | loop b =>
      simp only [compC] at h
      exact wp_loop_rounds n (loopC_ok (ih b) n tm σ s h ρ a w Q hr ht hQ)
    | scope b =>
      simp only [compC] at h
      exact wp_scope_jumps' n (scopeC_ok (fun c => ih c) n b tm σ s h ρ a w Q hr ht hQ)
    | _ => simp [compC] at h

end
end
end Go.Ev
