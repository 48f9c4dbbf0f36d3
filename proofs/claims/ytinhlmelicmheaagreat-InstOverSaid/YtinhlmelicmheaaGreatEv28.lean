import Derived.Test.YtinhlmelicmheaaGreatEv27
namespace Go.Ev
open Go

section
variable {P : Program} {N : Nat} {ρ : Ren} {σ : Heap} {w w' : World}

/-- What leaves all that was there alone leaves what is told of it. -/
theorem Ext.of_below [Sy] (hr : Rep P N ρ σ w) (hb : RowKit.Below w.heap.size w w') : Ext P N ρ σ w ρ σ w' where
  agree := fun _ _ => rfl
  next := Nat.le_refl _
  pend := fun _ _ _ => rfl
  rep := {
    blk := fun b B L h1 h2 => by
      obtain ⟨o, h3, h4⟩ := hr.blk b B L h1 h2
      exact ⟨o, by rw [hb.block L.blk (hr.low b L h2).2]; exact h3, h4⟩
    inj := hr.inj
    low := fun b L h => ⟨(hr.low b L h).1, Nat.lt_of_lt_of_le (hr.low b L h).2 hb.size⟩
    fresh := hr.fresh
    freshσ := hr.freshσ
    room := Nat.le_trans hr.room hb.size }
  below := hb.mono hr.room

/-- A function without parameters that hands back 'true' and leaves all that was there alone. -/
structure GivesTrue (P : Program) (f : FuncId) : Prop where
  fn : ∃ fn, P.funcs[f]? = some fn ∧ fn.name ≠ "runtime.NumGoroutine" ∧ fn.body.isSome = true
  run : ∀ w, Calls P f #[] w fun e w' => e = .returned (.bool true) ∧ RowKit.Below w.heap.size w w'

def trueS (as : List AV) (σ : Heap) : Option (AV × Heap) := match as with
  | [] => some (.bool true, σ)
  | _ => none

def memN : List Nat → Nat → Bool
  | [], _ => false
  | x :: l, n => match Nat.beq x n with
    | true => true
    | false => memN l n

def trueSums (l : List Nat) : Sums := fun f => match memN l f with
  | true => some trueS
  | false => none

theorem memN_mem : ∀ {l : List Nat} {n : Nat}, memN l n = true → n ∈ l
  | [], _, h => by cases h
  | x :: l, n, h => by
    simp only [memN] at h
    split at h
    · rename_i hb; rw [Nat.eq_of_beq_eq_true hb]; exact List.mem_cons_self
    · exact List.mem_cons_of_mem _ (memN_mem h)

theorem trueSums_ok [Sy] {l : List Nat} (hl : ∀ f ∈ l, GivesTrue P f) : SumsOk P N (trueSums l) := by
  intro f s hs g as σ r σ' h
  unfold trueSums at hs
  split at hs
  · rename_i hm
    simp only [Option.some.injEq] at hs; subst hs
    simp only at h
    split at h
    · rename_i hg
      subst hg
      have hf := hl g (memN_mem hm)
      unfold trueS at h
      split at h
      · simp only [Option.some.injEq, Prod.mk.injEq] at h
        obtain ⟨rfl, rfl⟩ := h
        refine ⟨hf.fn, fun ρ w vs hr hc => ?_⟩
        have : vs = [] := by simpa [conL] using hc.symm
        subst this
        exact (hf.run w).mono fun e w' ⟨he, hb⟩ => ⟨.bool true, ρ, he, Ext.of_below hr hb, by simp [con]⟩
      · simp at h
    · simp at h
  · simp at hs

theorem givesTrue [Sy] (hm : P.follows .mixedOrders = true) {S : Sums} (hS : ∀ N, SumsOk P N S) {fuel d : Nat} {f : FuncId} (h : isTrue (callC P S fuel d f [] ⟨0, .leaf⟩) = true) : GivesTrue P f := by
  obtain ⟨σ', hc⟩ := isTrue_spec h
  refine ⟨(callC_ok (N := 0) hm (hS 0) (fuel := fuel) d f [] ⟨0, .leaf⟩ _ σ' hc).1, fun w => ?_⟩
  obtain ⟨_, hrun⟩ := callC_ok (N := w.heap.size) hm (hS _) (fuel := fuel) d f [] ⟨0, .leaf⟩ _ σ' hc
  refine (hrun (fun _ => none) w [] (Rep.start P w) (by simp [conL])).mono fun e w' ⟨v, ρ', he, hx, hv⟩ => ?_
  simp only [con, Option.some.injEq] at hv
  subst hv
  exact ⟨he, hx.below⟩

/-- A call that the evaluator runs to 'true', of values without addresses. -/
theorem trueAt [Sy] (hm : P.follows .mixedOrders = true) {S : Sums} (hS : ∀ N, SumsOk P N S) {fuel d : Nat} {f : FuncId} {as : List AV} (h : isTrue (callC P S fuel d f as ⟨0, .leaf⟩) = true) {vs : List Value} (hc : conL (fun _ => none) as = some vs)
    (w : World) : Calls P f vs.toArray w fun e w' => e = .returned (.bool true) ∧ RowKit.Below w.heap.size w w' := by
  obtain ⟨σ', hcall⟩ := isTrue_spec h
  obtain ⟨_, hrun⟩ := callC_ok (N := w.heap.size) hm (hS _) (fuel := fuel) d f as ⟨0, .leaf⟩ _ σ' hcall
  refine (hrun (fun _ => none) w vs (Rep.start P w) hc).mono fun e w' ⟨v, ρ', he, hx, hv⟩ => ?_
  simp only [con, Option.some.injEq] at hv
  subst hv
  exact ⟨he, hx.below⟩

/-- Several calls that the evaluator runs to 'true'. -/
def allTrue (F : List AV → Option (AV × Heap)) : List (List AV) → Bool
  | [] => true
  | as :: l => match isTrue (F as) with
    | true => allTrue F l
    | false => false

theorem allTrue_mem {F : List AV → Option (AV × Heap)} : ∀ {l : List (List AV)}, allTrue F l = true → ∀ as ∈ l, isTrue (F as) = true
  | [], _, as, h => by simp at h
  | x :: l, h, as, hm => by
    simp only [allTrue] at h
    split at h
    · rename_i hx
      rcases List.mem_cons.1 hm with rfl | hm
      · exact hx
      · exact allTrue_mem h as hm
    · cases h

end
end Go.Ev
