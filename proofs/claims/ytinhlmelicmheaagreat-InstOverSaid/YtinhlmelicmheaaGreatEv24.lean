import Derived.Test.YtinhlmelicmheaaGreatEv23
namespace Go.Ev
open Go

def isTrue : Option (AV × Heap) → Bool
  | some (.bool true, _) => true
  | _ => false

theorem isTrue_spec {r : Option (AV × Heap)} (h : isTrue r = true) : ∃ σ', r = some (.bool true, σ') := by
  unfold isTrue at h
  split at h
  · exact ⟨_, rfl⟩
  · simp at h

theorem Rep.start [Sy] (P : Program) (w : World) : Rep P w.heap.size (fun _ => none) ⟨0, .leaf⟩ w where
  blk := fun b B L _ h => by simp at h
  inj := fun b b' B B' L L' _ _ h => by simp at h
  low := fun b L h => by simp at h
  fresh := fun _ _ => rfl
  freshσ := fun b _ => by simp [Heap.get, Tr.at0_leaf]
  room := Nat.le_refl _

/-- A call without arguments that the evaluator runs to 'true'. -/
theorem closed_true [Sy] {P : Program} (hm : P.follows .mixedOrders = true) {fuel d : Nat} {f : FuncId} (h : isTrue (callB P (fun _ => none) fuel d f [] ⟨0, .leaf⟩) = true) (w : World) :
    Calls P f #[] w fun e w' => e = .returned (.bool true) ∧ RowKit.Below w.heap.size w w' := by
  obtain ⟨σ', hc⟩ := isTrue_spec h
  obtain ⟨_, hrun⟩ := callB_ok (N := w.heap.size) hm SumsOk.none (fuel := fuel) d f [] ⟨0, .leaf⟩ _ σ' hc
  refine (hrun (fun _ => none) w [] (Rep.start P w) (by simp [conL])).mono fun e w' ⟨v, ρ', he, hx, hv⟩ => ?_
  simp only [con, Option.some.injEq] at hv
  subst hv
  exact ⟨he, hx.below⟩

end Go.Ev
