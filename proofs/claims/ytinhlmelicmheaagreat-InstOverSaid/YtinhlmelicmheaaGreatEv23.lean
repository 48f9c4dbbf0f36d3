import Derived.Test.YtinhlmelicmheaaGreatEv22
namespace Go.Ev
open Go

section
variable {P : Program} {N : Nat} {nt : Nat} {ρ : Ren} {σ : Heap} {w : World} {F : CallF} {Q : Exit → Act → World → Prop}

def isSel : Op → Bool
  | .select .. => true
  | _ => false

def noSelL : List Oper → Bool
  | [] => true
  | o :: l => match isSel o.op with
    | true => false
    | false => noSelL l

theorem noSelL_spec {ops : Array Oper} (h : noSelL ops.toList = true) : Region.noSelect ops = true := by
  have key : ∀ l : List Oper, noSelL l = true → ∀ o ∈ l, isSel o.op = false := by
    intro l
    induction l with
    | nil => intro _ o ho; simp at ho
    | cons x l ih =>
      intro h o ho
      simp only [noSelL] at h
      split at h
      · simp at h
      · rename_i hx
        rcases List.mem_cons.1 ho with rfl | ho
        · exact hx
        · exact ih h o ho
  unfold Region.noSelect
  rw [Array.all_eq_true_iff_forall_mem]
  intro o ho
  have := key _ h o (Array.mem_toList_iff.2 ho)
  unfold isSel at this
  split at this
  · simp at this
  · rename_i hne
    split
    · rename_i heq; exact absurd heq (hne _ _)
    · rfl

def regB (P : Program) (F : CallF) (nt : Nat) (ops : Array Oper) (tm : Tr AV) (σ : Heap) : Bool → Option (Tr AV × Heap)
  | false => seqA P F nt ops.toList ops.toList tm σ
  | true => match noSelL ops.toList with
    | true => drawA P F nt ops.toList tm σ
    | false => none

def stepB (P : Program) (F : CallF) (nt : Nat) (R : RecC) (n : Nat) (c : Code) (tm : Tr AV) (σ : Heap) : Option St :=
  match c with
  | .skip => some ⟨.normal, tm, σ⟩
  | .label _ => some ⟨.normal, tm, σ⟩
  | .exit id => some ⟨.exit id, tm, σ⟩
  | .goto l => some ⟨.goto l, tm, σ⟩
  | .ret => some ⟨.ret, tm, σ⟩
  | .region _ ops d => norA (regB P F nt ops tm σ d)
  | .seq a b => thenA R b (R a tm σ)
  | .cond x a b => condA R a b tm σ (evo tm x)
  | .block id b => outA id (R b tm σ)
  | .loop b => thenA R (.loop b) (R b tm σ)
  | .scope b => scopeA R b n b tm σ
  | _ => none

def codeB (P : Program) (F : CallF) (nt : Nat) : Nat → RecC
  | 0, _, _, _ => none
  | n + 1, c, tm, σ => stepB P F nt (codeB P F nt n) n c tm σ

def bodyB (P : Program) (F : CallF) (fuel : Nat) (fn : Func) (args : List AV) (σ : Heap) : Option (AV × Heap) :=
  match decide (fn.name = "runtime.NumGoroutine") with
  | true => none
  | false => match fn.body with
    | some c => endA P fn (codeB P F (Nat.max fn.ntmps args.length) fuel c (Tr.ofList args 0 .leaf) σ)
    | none => none

def goB (P : Program) (S : Sums) (F : CallF) (fuel : Nat) (f : FuncId) (args : List AV) (σ : Heap) : Option (AV × Heap) :=
  match S f with
  | some s => s args σ
  | none => match P.funcs[f]? with
    | some fn => bodyB P F fuel fn args σ
    | none => none

def callB (P : Program) (S : Sums) (fuel : Nat) : Nat → CallF
  | 0, _, _, _ => none
  | d + 1, f, args, σ => goB P S (callB P S fuel d) fuel f args σ

/-! ## The laws -/

theorem thenA_ok [Sy] {R : RecC} (hR : ROk P N nt R) {b : Code} {r : Option St} {s : St} (h : thenA R b r = some s) {s0 : St} (hr0 : r = some s0)
    {ρ' : Ren} {w' : World} {a' : Act} {d0 : List Deferred} (he : Ext P N ρ σ w ρ' s0.hp w') (ht : TmRel ρ' nt s0.tm a') (hd : a'.defers = d0) (hQ : PostQ P N ρ σ w nt d0 s Q) :
    Exit.then (b.wp P Q) Q (toExit s0.ex) a' w' := by
  subst hr0
  obtain ⟨ex, tm', σ'⟩ := s0
  cases ex with
  | normal =>
    simp only [toExit, Exit.then]
    refine hR b tm' σ' s h ρ' a' w' Q he.rep ht ?_
    rw [hd]; exact hQ.trans he
  | exit id =>
    simp only [thenA, Option.some.injEq] at h; subst h
    exact hQ ρ' a' w' he ht hd
  | goto l =>
    simp only [thenA, Option.some.injEq] at h; subst h
    exact hQ ρ' a' w' he ht hd
  | ret =>
    simp only [thenA, Option.some.injEq] at h; subst h
    exact hQ ρ' a' w' he ht hd

theorem thenA_some {R : RecC} {b : Code} {r : Option St} {s : St} (h : thenA R b r = some s) : ∃ s0, r = some s0 := by
  cases r with
  | none => simp [thenA] at h
  | some s0 => exact ⟨s0, rfl⟩

def LOk [Sy] (P : Program) (N : Nat) (nt : Nat) (n : Nat) (R : RecC) : Prop :=
  ∀ b tm σ s, R (.loop b) tm σ = some s → ∀ ρ (a : Act) w Q, Rep P N ρ σ w → TmRel ρ nt tm a → PostQ P N ρ σ w nt a.defers s Q → Code.rounds P b Q n a w

theorem norA_some {r : Option (Tr AV × Heap)} {s : St} (h : norA r = some s) : ∃ tm' σ', r = some (tm', σ') ∧ s = ⟨.normal, tm', σ'⟩ := by
  cases r with
  | none => simp [norA] at h
  | some x =>
    obtain ⟨tm', σ'⟩ := x
    simp only [norA, Option.some.injEq] at h
    exact ⟨tm', σ', rfl, h.symm⟩

theorem codeB_ok [Sy] (hm : P.follows .mixedOrders = true) (hF : FOk P N F) : ∀ n, ROk P N nt (codeB P F nt n) ∧ LOk P N nt n (codeB P F nt n)
  | 0 => ⟨fun c tm σ s h => by simp [codeB] at h, fun b tm σ s h => by simp [codeB] at h⟩
  | n + 1 => by
    obtain ⟨ihR, ihL⟩ := codeB_ok hm hF n
    have hL : LOk P N nt (n + 1) (codeB P F nt (n + 1)) := by
      intro b tm σ s h ρ a w Q hr ht hQ
      simp only [codeB, stepB] at h
      obtain ⟨s0, hs0⟩ := thenA_some h
      rw [rounds_succ]
      refine ihR b tm σ s0 hs0 ρ a w _ hr ht fun ρ' a' w' he ht' hd => ?_
      obtain ⟨ex, tm', σ'⟩ := s0
      rw [hs0] at h
      cases ex with
      | normal =>
        simp only [toExit, Exit.then]
        refine ihL b tm' σ' s h ρ' a' w' Q he.rep ht' ?_
        rw [hd]; exact hQ.trans he
      | exit id =>
        simp only [thenA, Option.some.injEq] at h; subst h
        exact hQ ρ' a' w' he ht' hd
      | goto l =>
        simp only [thenA, Option.some.injEq] at h; subst h
        exact hQ ρ' a' w' he ht' hd
      | ret =>
        simp only [thenA, Option.some.injEq] at h; subst h
        exact hQ ρ' a' w' he ht' hd
    refine ⟨?_, hL⟩
    intro c tm σ s h ρ a w Q hr ht hQ
    cases c with
    | skip =>
      simp only [codeB, stepB, Option.some.injEq] at h; subst h
      exact wp_skip (hQ ρ a w (Ext.refl hr) ht rfl)
    | label l =>
      simp only [codeB, stepB, Option.some.injEq] at h; subst h
      exact wp_label (hQ ρ a w (Ext.refl hr) ht rfl)
    | exit id =>
      simp only [codeB, stepB, Option.some.injEq] at h; subst h
      exact wp_exit (hQ ρ a w (Ext.refl hr) ht rfl)
    | goto l =>
      simp only [codeB, stepB, Option.some.injEq] at h; subst h
      exact wp_goto (hQ ρ a w (Ext.refl hr) ht rfl)
    | ret =>
      simp only [codeB, stepB, Option.some.injEq] at h; subst h
      exact wp_ret (hQ ρ a w (Ext.refl hr) ht rfl)
    | region id ops d =>
      simp only [codeB, stepB] at h
      obtain ⟨tm', σ', hreg, rfl⟩ := norA_some h
      cases d with
      | false =>
        simp only [regB] at hreg
        exact wp_region_list (seqA_wp hF _ tm σ ρ a w tm' σ' hreg hr ht fun ρ' a' w' he ht' hd => hQ ρ' a' w' he ht' hd)
      | true =>
        simp only [regB] at hreg
        split at hreg
        · rename_i hsel
          exact drawA_wp hm hF hreg hr ht (noSelL_spec hsel) fun ρ' a' w' he ht' hd => hQ ρ' a' w' he ht' hd
        · simp at hreg
    | seq x y =>
      simp only [codeB, stepB] at h
      obtain ⟨s0, hs0⟩ := thenA_some h
      refine wp_seq (ihR x tm σ s0 hs0 ρ a w _ hr ht fun ρ' a' w' he ht' hd => ?_)
      exact thenA_ok ihR h hs0 he ht' hd hQ
    | cond x p q =>
      simp only [codeB, stepB] at h
      unfold condA at h
      split at h
      · rename_i hx
        have := con_bool (ht.eval x _ hx)
        exact wp_cond (t := true) this (ihR p tm σ s h ρ a w Q hr ht hQ)
      · rename_i hx
        have := con_bool (ht.eval x _ hx)
        exact wp_cond (t := false) this (ihR q tm σ s h ρ a w Q hr ht hQ)
      · simp at h
    | block id b =>
      simp only [codeB, stepB] at h
      refine wp_block ?_
      cases hb : codeB P F nt n b tm σ with
      | none => rw [hb] at h; simp [outA] at h
      | some s0 =>
        rw [hb] at h
        refine ihR b tm σ s0 hb ρ a w _ hr ht fun ρ' a' w' he ht' hd => ?_
        obtain ⟨ex, tm', σ'⟩ := s0
        cases ex with
        | normal =>
          simp only [outA, Option.some.injEq] at h; subst h
          exact hQ ρ' a' w' he ht' hd
        | exit id' =>
          simp only [outA] at h
          simp only [toExit, Exit.inBlock]
          split at h
          · rename_i hid
            simp only [Option.some.injEq] at h; subst h
            rw [if_pos (Nat.eq_of_beq_eq_true hid)]
            exact hQ ρ' a' w' he ht' hd
          · rename_i hid
            simp only [Option.some.injEq] at h; subst h
            rw [if_neg (fun e => by rw [e] at hid; simp at hid)]
            exact hQ ρ' a' w' he ht' hd
        | goto l =>
          simp only [outA, Option.some.injEq] at h; subst h
          exact hQ ρ' a' w' he ht' hd
        | ret =>
          simp only [outA, Option.some.injEq] at h; subst h
          exact hQ ρ' a' w' he ht' hd
    | loop b => exact wp_loop_rounds (n + 1) (hL b tm σ s h ρ a w Q hr ht hQ)
    | scope b =>
      simp only [codeB, stepB] at h
      exact wp_scope_jumps' n (scopeA_ok ihR n b tm σ s h ρ a w Q hr ht hQ)
    | _ => simp [codeB, stepB] at h

/-! ## Results -/

def resM (tmps : Array Value) : ResultVar → Sem Value := fun
    | .tmp t => pure (tmps.getD t undef)
    | .cell a t => do loadVar t (← asAddr (tmps.getD a undef))

theorem results_eq (fn : Func) (tmps : Array Value) : results fn tmps = (do
    let vs ← fn.results.mapM (resM tmps)
    pure (if h : vs.size = 1 then vs[0] else .tuple vs)) := rfl

theorem mapM_cons_run {α β : Type} {f : α → Sem β} {x : α} {l : List α} {v : β} {vs : List β} (h1 : (f x).run P w = .ok v w) (h2 : (l.mapM f).run P w = .ok vs w) : ((x :: l).mapM f).run P w = .ok (v :: vs) w := by
  simp [List.mapM_cons, Sem.run_bind, h1, h2]

theorem resA_run [Sy] {tm : Tr AV} {a : Act} (hr : Rep P N ρ σ w) (ht : TmRel ρ nt tm a) : ∀ (l : List ResultVar) (r : List AV), resA P tm σ l = some r →
    ∃ vs, conL ρ r = some vs ∧ (l.mapM (resM a.tmps)).run P w = .ok vs w
  | [], r, h => by
    simp only [resA, Option.some.injEq] at h; subst h
    exact ⟨[], by simp [conL], by simp⟩
  | .tmp t :: l, r, h => by
    simp only [resA] at h
    split at h
    · rename_i v hv
      split at h
      · rename_i r' hr'
        simp only [Option.some.injEq] at h; subst h
        obtain ⟨vs, h1, h2⟩ := resA_run hr ht l r' hr'
        have hc := ht.val t v hv
        exact ⟨a.tmps.getD t undef :: vs, by simp only [conL, hc, h1]; rfl, mapM_cons_run (by simp only [resM, Sem.run_pure]) h2⟩
      · simp at h
    · simp at h
  | .cell x t :: l, r, h => by
    simp only [resA] at h
    split at h
    · rename_i b off hx
      obtain ⟨L, hL, e⟩ := con_ptr (ht.val x _ hx)
      split at h
      · rename_i v hv
        split at h
        · rename_i r' hr'
          simp only [Option.some.injEq] at h; subst h
          obtain ⟨vs, h1, h2⟩ := resA_run hr ht l r' hr'
          obtain ⟨u, hu, hrun⟩ := loadA_run hr hv hL
          have e' : a.tmps.getD x undef = Value.pointer (some ⟨L.blk, L.base + off, none⟩) := e
          refine ⟨u :: vs, by simp only [conL, hu, h1]; rfl, mapM_cons_run ?_ h2⟩
          show (do loadVar t (← asAddr (a.tmps.getD x undef)) : Sem Value).run P w = _
          rw [e']
          simp [Sem.run_bind, asAddr, hrun]
        · simp at h
      · simp at h
    · simp at h

theorem resV_con [Sy] : ∀ {r : List AV} {vs : List Value}, conL ρ r = some vs → con ρ (resV r) = some (if h : vs.toArray.size = 1 then vs.toArray[0] else .tuple vs.toArray)
  | [], vs, h => by
    simp only [conL, Option.some.injEq] at h; subst h
    simp [resV, con, conL]
  | [x], vs, h => by
    obtain ⟨v, vs', h1, h2, rfl⟩ := conL_cons.1 h
    simp only [conL, Option.some.injEq] at h2; subst h2
    simp [resV, h1]
  | x :: y :: l, vs, h => by
    have hl := conL_length h
    have : con ρ (.tup (x :: y :: l)) = some (.tuple vs.toArray) := by simp only [con, h, Option.map_some]
    rw [resV]
    · rw [this, dif_neg (by simp; simp at hl; omega)]
    · simp

/-- A function's ending, as the evaluator reads it. -/
theorem endA_post [Sy] {fn : Func} {s : St} {r : AV} {σ' : Heap} {R : Ending → World → Prop} (h : endA P fn (some s) = some (r, σ'))
    {ρ' : Ren} {a' : Act} {w' : World} (he : Ext P N ρ σ w ρ' s.hp w') (ht : TmRel ρ' nt s.tm a') (hd : a'.defers = [])
    (hR : ∀ v, Ext P N ρ σ w ρ' σ' w' → con ρ' r = some v → R (.returned v) w') : bodyPost P fn R (toExit s.ex) a' w' := by
  obtain ⟨ex, tm', σ1⟩ := s
  have key : ∀ l, resA P tm' σ1 fn.results.toList = some l → resV l = r → σ1 = σ' → (a'.defers = [] ∧ ∃ v, (results fn a'.tmps).run P w' = .ok v w' ∧ R (.returned v) w') := by
    intro l hl h1 h2
    subst h1 h2
    obtain ⟨vs, h3, h4⟩ := resA_run he.rep ht _ l hl
    refine ⟨hd, _, ?_, hR _ he (resV_con h3)⟩
    rw [results_eq, ← Array.toArray_toList (xs := fn.results), List.mapM_toArray]
    simp [Sem.run_bind, h4]
  cases ex with
  | normal =>
    simp only [endA] at h
    split at h
    · rename_i l hl
      simp only [Option.some.injEq, Prod.mk.injEq] at h
      exact key l hl h.1 h.2
    · simp at h
  | ret =>
    simp only [endA] at h
    split at h
    · rename_i l hl
      simp only [Option.some.injEq, Prod.mk.injEq] at h
      exact key l hl h.1 h.2
    · simp at h
  | exit id => simp [endA] at h
  | goto l => simp [endA] at h

/-- A summary that may stand for a function: what it says is what the call comes to. -/
def SumsOk [Sy] (P : Program) (N : Nat) (S : Sums) : Prop :=
  ∀ f s, S f = some s → FOk P N (fun g as σ => if g = f then s as σ else none)

theorem SumsOk.none [Sy] : SumsOk P N (fun _ => none) := fun f s h => by simp at h

theorem tm0_rel [Sy] {args : List AV} {vs : List Value} {fn : Func} (h : conL ρ args = some vs) :
    TmRel ρ (Nat.max fn.ntmps args.length) (Tr.ofList args 0 .leaf) { tmps := vs.toArray ++ Array.replicate (fn.ntmps - vs.toArray.size) undef, defers := [] } := by
  have hl := conL_length h
  constructor
  · show (vs.toArray ++ Array.replicate (fn.ntmps - vs.toArray.size) undef).size = max fn.ntmps args.length
    have e : max fn.ntmps args.length = args.length + (fn.ntmps - args.length) := by omega
    rw [e]; simp [hl]
  · intro t x hx
    have key : ∀ n : Nat, n < args.length ∨ args.length ≤ n := fun n => by omega
    simp only [evo, Tr.at0_ofList] at hx
    rcases key t with ht | ht
    · rw [if_pos ⟨Nat.zero_le _, by rw [Nat.zero_add]; exact ht⟩] at hx
      have : args[t - 0]? = some args[t] := by simp [ht]
      rw [this] at hx
      obtain ⟨v, h1, h2⟩ := conL_get h t args[t] (by simp [ht])
      have hx' : args[t] = x := by
        simpa using hx
      subst hx'
      rw [h2]
      have h3 : t < vs.length := by rw [hl]; exact ht
      simp only [Array.getD_eq_getD_getElem?]
      rw [Array.getElem?_append_left (by simpa using h3)]
      simp [h1]
    · rw [if_neg (fun hh => by rw [Nat.zero_add] at hh; exact absurd ht (Nat.not_le.2 hh.2)), Tr.at0_leaf] at hx
      simp only [Option.some.injEq] at hx; subst hx
      have : (vs.toArray ++ Array.replicate (fn.ntmps - vs.toArray.size) undef).getD t undef = undef := by
        simp only [Array.getD_eq_getD_getElem?]
        rw [Array.getElem?_append_right (by simp [hl]; exact ht)]
        simp only [Array.getElem?_replicate]
        split <;> simp
      rw [this]
      simp [con, conL]; rfl

theorem callB_ok [Sy] (hm : P.follows .mixedOrders = true) {S : Sums} (hS : SumsOk P N S) {fuel : Nat} : ∀ d, FOk P N (callB P S fuel d)
  | 0 => fun g as σ r σ' h => by simp [callB] at h
  | d + 1 => fun g as σ r σ' h => by
    have ih := callB_ok hm hS (fuel := fuel) d
    simp only [callB, goB] at h
    split at h
    · rename_i s hs
      have := hS g s hs g as σ r σ' (by simpa using h)
      exact this
    · split at h
      · rename_i fn hf
        unfold bodyB at h
        split at h
        · simp at h
        · rename_i hname
          split at h
          · rename_i c hb
            refine ⟨⟨fn, hf, by simpa using hname, by rw [hb]; rfl⟩, fun ρ w vs hr hc => ?_⟩
            refine calls_of_wp hf hb ?_
            cases hs : codeB P (callB P S fuel d) (Nat.max fn.ntmps as.length) fuel c (Tr.ofList as 0 .leaf) σ with
            | none => rw [hs] at h; simp [endA] at h
            | some s =>
              rw [hs] at h
              refine (codeB_ok hm ih fuel).1 c _ σ s hs ρ _ w _ hr (tm0_rel hc) fun ρ' a' w' he ht hd => ?_
              exact endA_post h he ht hd fun v hx hv => ⟨v, ρ', rfl, hx, hv⟩
          · simp at h
      · simp at h

end
end Go.Ev
