import Derived.Scope
import Derived.Test.YtinhlmelicmheaaGreatEv21
namespace Go.Ev
open Go

section
variable {P : Program} {N : Nat} {ops : Array Oper} {ds : List DOp} {nt : Nat} {tm0 : Tr AV} {ρ0 : Ren} {σ0 : Heap} {w0 : World} {a0 : Act}
  {D : Nat} {R : Tr AV} {done : List DOp} {ρ : Ren} {σ : Heap} {w : World} {L : Array Bool} {a : Act} {nm : Nat → Option Nat} {F : CallF} {Q : Exit → Act → World → Prop}

/-- What a slot holds when the first k operations are laid. -/
def SlotAt (ops : List Oper) (tm0 R : Tr AV) (k : Nat) (t : Tmp) (x : AV) : Prop :=
  ((∀ i, i < k → ¬ Writes ops i t) ∧ evo tm0 (.tmp t) = some x) ∨ (∃ i, i < k ∧ Writes ops i t ∧ (∀ j, i < j → j < k → ¬ Writes ops j t) ∧ R.at0 i = some x)

theorem layD_spec [Sy] : ∀ (l : List DOp) (k : Nat) (tm tm' : Tr AV), (∀ j d, l[j]? = some d → d.idx = k + j ∧ ops.toList[k + j]? = some d.o) → layD nt R l tm = some tm' →
    (∀ t x, evo tm (.tmp t) = some x → SlotAt ops.toList tm0 R k t x) →
    (∀ t x, evo tm' (.tmp t) = some x → SlotAt ops.toList tm0 R (k + l.length) t x) ∧ (∀ d ∈ l, ∀ t, d.o.dst = some t → t < nt)
  | [], k, tm, tm', _, h, hs => by
    simp only [layD, Option.some.injEq] at h; subst h
    exact ⟨by simpa using hs, fun d hd => by simp at hd⟩
  | d :: l, k, tm, tm', hl, h, hs => by
    simp only [layD] at h
    obtain ⟨hidx, hop⟩ := hl 0 d (by simp)
    simp only [Nat.add_zero] at hidx hop
    split at h
    · rename_i v hv
      split at h
      · rename_i tm1 hput
        have hl' : ∀ j d', l[j]? = some d' → d'.idx = (k + 1) + j ∧ ops.toList[(k + 1) + j]? = some d'.o := fun j d' hj => by
          have := hl (j + 1) d' (by simpa using hj)
          rw [show k + 1 + j = k + (j + 1) from by omega]; exact this
        have hs1 : ∀ t x, evo tm1 (.tmp t) = some x → SlotAt ops.toList tm0 R (k + 1) t x := by
          intro t x hx
          unfold putA at hput
          split at hput
          · rename_i hdst
            simp only [Option.some.injEq] at hput; subst hput
            have hnw : ¬ Writes ops.toList k t := fun ⟨o, ho, hw⟩ => by rw [hop] at ho; cases ho; rw [hdst] at hw; cases hw
            rcases hs t x hx with ⟨q1, q2⟩ | ⟨i, q1, q2, q3, q4⟩
            · refine .inl ⟨fun i hi => ?_, q2⟩
              by_cases e : i = k
              · subst e; exact hnw
              · exact q1 i (by omega)
            · refine .inr ⟨i, by omega, q2, fun j hj1 hj2 => ?_, q4⟩
              by_cases e : j = k
              · subst e; exact hnw
              · exact q3 j hj1 (by omega)
          · rename_i s hdst
            split at hput
            · simp only [Option.some.injEq] at hput; subst hput
              rw [evo_put] at hx
              by_cases e : s = t
              · subst e
                rw [if_pos rfl] at hx
                have hvx : v = x := by cases v <;> first | (simp at hx; done) | (simpa using hx)
                subst hvx
                exact .inr ⟨k, by omega, ⟨d.o, hop, hdst⟩, fun j h1 h2 => by omega, by rw [← hidx]; exact hv⟩
              · rw [if_neg e] at hx
                have hnw : ¬ Writes ops.toList k t := fun ⟨o, ho, hw⟩ => by
                  rw [hop] at ho; cases ho; rw [hdst] at hw; exact e (Option.some.inj hw)
                rcases hs t x hx with ⟨q1, q2⟩ | ⟨i, q1, q2, q3, q4⟩
                · refine .inl ⟨fun i hi => ?_, q2⟩
                  by_cases e : i = k
                  · subst e; exact hnw
                  · exact q1 i (by omega)
                · refine .inr ⟨i, by omega, q2, fun j hj1 hj2 => ?_, q4⟩
                  by_cases e : j = k
                  · subst e; exact hnw
                  · exact q3 j hj1 (by omega)
            · simp at hput
        obtain ⟨p1, p2⟩ := layD_spec l (k + 1) tm1 tm' hl' h hs1
        refine ⟨by rw [List.length_cons, show k + (l.length + 1) = k + 1 + l.length from by omega]; exact p1, fun d' hd' t ht => ?_⟩
        rcases List.mem_cons.1 hd' with rfl | hd'
        · unfold putA at hput
          rw [ht] at hput
          simp only at hput
          split at hput
          · rename_i hlt; exact ble_t hlt
          · simp at hput
        · exact p2 d' hd' t ht
      · simp at h
    · simp at h

theorem drawA_wp [Sy] (hm : P.follows .mixedOrders = true) (hF : FOk P N F) {id : Nat} {tm' : Tr AV} {σ' : Heap} (h : drawA P F nt ops.toList tm0 σ0 = some (tm', σ')) (hr : Rep P N ρ0 σ0 w0) (ht : TmRel ρ0 nt tm0 a0)
    (hsel : Region.noSelect ops = true)
    (hQ : ∀ ρ' a' w', Ext P N ρ0 σ0 w0 ρ' σ' w' → TmRel ρ' nt tm' a' → a'.defers = a0.defers → Q .normal a' w') : (Code.region id ops true).wp P Q a0 w0 := by
  unfold drawA planOf at h
  split at h
  · rename_i ds p hplan
    split at hplan
    · simp at hplan
    · rename_i ds' hds
      split at hplan
      · rename_i p' hp
        simp only [Option.some.injEq, Prod.mk.injEq] at hplan
        obtain ⟨rfl, rfl⟩ := hplan
        split at h
        · rename_i R' σ1 hsteps
          split at h
          · rename_i tm1 hlay
            simp only [Option.some.injEq, Prod.mk.injEq] at h
            obtain ⟨rfl, rfl⟩ := h
            obtain ⟨hlen, hat⟩ := dopsOf_spec (ops := ops.toList) ops.toList 0 ds' (fun k => by simp) hds
            have hat' : ∀ (k : Nat) (d : DOp), ds'[k]? = some d → d.idx = k ∧ DGood ops.toList d := fun k d hk => by
              obtain ⟨q1, q2⟩ := hat k d hk; exact ⟨by omega, q2⟩
            obtain ⟨hfin, hsl⟩ := layD_spec (ops := ops) (tm0 := tm0) ds' 0 tm0 tm1 (fun j d hj => by
                obtain ⟨q1, q2⟩ := hat' j d hj
                refine ⟨by omega, ?_⟩
                have := q2.op
                rw [q1] at this
                simpa using this) hlay (fun t x hx => .inl ⟨fun i hi => by omega, hx⟩)
            have htab : Tab ops ds' nt := ⟨by simpa using hlen, hat', hsl, hsel⟩
            have hside : Side P N ops ds' nt tm0 ρ0 σ0 w0 a0 0 .leaf [] ρ0 σ0 w0.drew (Array.replicate ops.size false) a0 (fun _ => none) := by
              have hno : ∀ i, ¬ lst (Array.replicate ops.size false) i := fun i hi => by
                unfold lst at hi
                by_cases hlt : i < ops.size
                · simp [hlt] at hi
                · simp [hlt] at hi
              constructor
              · intro i hi; rw [inD_zero] at hi; cases hi
              · intro i _; exact Tr.at0_leaf i
              · intro j o _ hj; rw [inD_zero] at hj; cases hj
              · intro d _ hd; rw [inD_zero] at hd; cases hd
              · intro d hd; simp at hd
              · exact hr.drew
              · simp
              · intro j o _ hj; exact absurd hj (hno j)
              · intro i hi; exact absurd hi (hno i)
              · intro d _ _ hd; rw [inD_zero] at hd; cases hd
              · exact ht.size
              · intro t _ x hx; exact ht.val t x hx
              · intro t i hi; exact absurd hi (hno i)
              · intro i hi; exact absurd hi (hno i)
              · intro d _ hd; rw [inD_zero] at hd; cases hd
              · intro d _ d' _ hd; rw [inD_zero] at hd; cases hd
              · rfl
              · intro b _; rfl
              · exact Nat.le_refl _
              · intro b _ _; rfl
              · exact (RowKit.Below.refl _ _).drew
              · intro d _ hd; rw [inD_zero] at hd; cases hd
            refine wp_region_any hm ?_
            refine draw_main hF htab (Rf := R') (σf := σ1) ?_ _ 0 .leaf [] [] σ0 p' hp (fun _ => Iff.rfl) hsteps ops.size ρ0 w0.drew _ a0 _ hside (Nat.le_add_right _ _)
            intro D' R2 done' ρ' w' L' a' nm' hR hs hall
            subst hR
            refine hQ ρ' a' w' ⟨hs.agree, hs.next, hs.pend0, hs.rep, hs.below⟩ ⟨hs.tsize, fun t x hx => ?_⟩ hs.defers
            have hlenops : 0 + ds'.length = ops.size := by rw [hlen]; simp
            rcases hfin t x hx with ⟨q1, q2⟩ | ⟨i, q1, q2, q3, q4⟩
            · refine hs.slot0 t (fun i _ hw => ?_) x q2
              have hi : i < ops.size := by obtain ⟨o, ho, _⟩ := hw; have := (List.getElem?_eq_some_iff.1 ho).1; simpa using this
              exact q1 i (by omega) hw
            · obtain ⟨v, r1, r2⟩ := hs.slot1 t i (hall i (by omega)) q2 (fun k hk hw => by
                have hi : k < ops.size := by obtain ⟨o, ho, _⟩ := hw; have := (List.getElem?_eq_some_iff.1 ho).1; simpa using this
                rcases Nat.lt_or_ge i k with hlt | hge
                · exact absurd hw (q3 k hlt (by omega))
                · exact hge)
              rw [q4] at r1; cases r1
              exact r2
          · simp at h
        · simp at h
      · simp at hplan
  · simp at h

/-! ## Code -/

def toExit : EX → Exit
  | .normal => .normal
  | .exit id => .exit id
  | .goto l => .goto l
  | .ret => .ret

def PostQ [Sy] (P : Program) (N : Nat) (ρ : Ren) (σ : Heap) (w : World) (nt : Nat) (d0 : List Deferred) (s : St) (Q : Exit → Act → World → Prop) : Prop :=
  ∀ ρ' a' w', Ext P N ρ σ w ρ' s.hp w' → TmRel ρ' nt s.tm a' → a'.defers = d0 → Q (toExit s.ex) a' w'

def ROk [Sy] (P : Program) (N : Nat) (nt : Nat) (R : RecC) : Prop :=
  ∀ c tm σ s, R c tm σ = some s → ∀ ρ (a : Act) w Q, Rep P N ρ σ w → TmRel ρ nt tm a → PostQ P N ρ σ w nt a.defers s Q → c.wp P Q a w

theorem PostQ.trans [Sy] {s : St} {ρ' : Ren} {σ' : Heap} {w' : World} {d0 : List Deferred} (h : PostQ P N ρ σ w nt d0 s Q) (hx : Ext P N ρ σ w ρ' σ' w') : PostQ P N ρ' σ' w' nt d0 s Q :=
  fun ρ'' a'' w'' he ht hd => h ρ'' a'' w'' (hx.trans he) ht hd

/-- Jumps to labels within a scope, so many at most. -/
def jumps (P : Program) (body : Code) (Q : Exit → Act → World → Prop) : Nat → Code → Act → World → Prop
  | 0, _, _, _ => False
  | n + 1, c, a, w => c.wp P (fun e a' w' => match e with
      | .goto l => match findLabel body l with
        | some rest => jumps P body Q n rest a' w'
        | none => Q (.goto l) a' w'
      | e => Q e a' w') a w

theorem wp_scope_jumps' {body : Code} : ∀ (n : Nat) {a : Act} {w : World}, jumps P body Q n body a w → (Code.scope body).wp P Q a w := by
  intro n a w h b k cs
  have key : ∀ (n : Nat) (c : Code) (a : Act) (w : World), jumps P body Q n c a w → ∃ e a' w', Q e a' w' ∧ Arrives P (lone (b.at a (.code c :: .inScope body :: k)) cs w) b k cs e a' w' := by
    intro n
    induction n with
    | zero => intro c a w h; exact h.elim
    | succ n ih =>
      intro c a w h
      obtain ⟨e, a₁, w₁, hq, harr⟩ := h b (.inScope body :: k) cs
      cases e with
      | normal => exact ⟨.normal, a₁, w₁, hq, Steps.trans harr (.one step_inScope)⟩
      | exit id => exact ⟨.exit id, a₁, w₁, hq, fun k' hk => harr k' (by simp [exitTo, hk])⟩
      | goto l =>
        simp only at hq
        cases hf : findLabel body l with
        | some rest =>
          rw [hf] at hq
          obtain ⟨e₂, a₂, w₂, hq₂, harr₂⟩ := ih rest a₁ w₁ hq
          exact ⟨e₂, a₂, w₂, hq₂, .of_steps (harr _ (by simp [gotoIn, hf])) harr₂⟩
        | none =>
          rw [hf] at hq
          exact ⟨.goto l, a₁, w₁, hq, fun k' hk => harr k' (by simp [gotoIn, hf, hk])⟩
      | ret => exact ⟨_, a₁, w₁, hq, harr⟩
      | panic ch => exact ⟨_, a₁, w₁, hq, harr⟩
      | outgrown => exact ⟨_, a₁, w₁, hq, harr⟩
  obtain ⟨e, a', w', hq, harr⟩ := key n body a w h
  exact ⟨e, a', w', hq, .of_steps (.one step_scope) harr⟩

theorem scopeA_ok [Sy] {R : RecC} (hR : ROk P N nt R) {body : Code} : ∀ (n : Nat) (c : Code) (tm : Tr AV) (σ : Heap) (s : St), scopeA R body n c tm σ = some s → ∀ ρ (a : Act) w Q, Rep P N ρ σ w → TmRel ρ nt tm a → PostQ P N ρ σ w nt a.defers s Q →
    jumps P body Q n c a w
  | 0, c, tm, σ, s, h, _, _, _, _, _, _, _ => by simp [scopeA] at h
  | n + 1, c, tm, σ, s, h, ρ, a, w, Q, hr, ht, hQ => by
    simp only [scopeA] at h
    unfold jumps
    split at h
    · rename_i l tm' σ' hRc
      refine hR c tm σ _ hRc ρ a w _ hr ht fun ρ' a' w' he ht' hd => ?_
      simp only [toExit]
      split at h
      · rename_i rest hf
        simp only [hf]
        exact scopeA_ok hR n rest tm' σ' s h ρ' a' w' Q he.rep ht' (by rw [hd]; exact hQ.trans he)
      · rename_i hf
        simp only [hf]
        simp only [Option.some.injEq] at h; subst h
        exact hQ ρ' a' w' he ht' hd
    · rename_i r hne
      refine hR c tm σ s h ρ a w _ hr ht fun ρ' a' w' he ht' hd => ?_
      have hq := hQ ρ' a' w' he ht' hd
      cases hx : s.ex with
      | goto l =>
        exfalso
        obtain ⟨ex, tm2, σ2⟩ := s
        simp only at hx; subst hx
        exact hne l tm2 σ2 h
      | normal => rw [hx] at hq; exact hq
      | exit id => rw [hx] at hq; exact hq
      | ret => rw [hx] at hq; exact hq

/-- The evaluator's loop, as the kit's rounds. -/
theorem rounds_mono {c : Code} : ∀ (n : Nat) {a : Act} {w : World}, Code.rounds P c Q n a w → Code.rounds P c Q (n + 1) a w := by
  intro n
  induction n with
  | zero => intro a w h; exact h.elim
  | succ n ih =>
    intro a w h
    rw [rounds_succ] at h ⊢
    refine wp_mono h fun e a' w' hq => ?_
    cases e with
    | normal => exact ih hq
    | _ => exact hq

/-- No region of the code holds a select. -/
def noSel : Code → Bool
  | .region _ ops _ => Region.noSelect ops
  | .seq a b => noSel a && noSel b
  | .cond _ a b => noSel a && noSel b
  | .block _ b => noSel b
  | .loop b => noSel b
  | .scope b => noSel b
  | _ => true

end
end Go.Ev
