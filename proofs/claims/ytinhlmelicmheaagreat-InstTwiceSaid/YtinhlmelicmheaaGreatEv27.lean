import Derived.Test.YtinhlmelicmheaaGreatEv26
namespace Go.Ev
open Go

noncomputable section

/-! ## Functions laid ready -/

structure Ffn where
  run : Nat → CallF → List AV → Heap → Option (AV × Heap)

def fnC (P : Program) (fn : Func) : Ffn := match decide (fn.name = "runtime.NumGoroutine") with
  | true => ⟨fun _ _ _ _ => none⟩
  | false => match fn.body with
    | some c => ⟨fun n F args σ => match Nat.ble args.length fn.ntmps with
      | true => endA P fn ((compK P fn.ntmps 1000 c retK).run n F (Tr.ofList args 0 .leaf) σ)
      | false => none⟩
    | none => ⟨fun _ _ _ _ => none⟩

def compF (P : Program) (S : Sums) (f : FuncId) : Ffn := match S f with
  | some s => ⟨fun _ _ args σ => s args σ⟩
  | none => match P.funcs[f]? with
    | some fn => fnC P fn
    | none => ⟨fun _ _ _ _ => none⟩

def callC (P : Program) (S : Sums) (fuel : Nat) : Nat → CallF
  | 0, _, _, _ => none
  | d + 1, f, args, σ => (compF P S f).run fuel (callC P S fuel d) args σ

section
variable {P : Program} {N : Nat}

theorem callC_ok [Sy] (hm : P.follows .mixedOrders = true) {S : Sums} (hS : SumsOk P N S) {fuel : Nat} : ∀ d, FOk P N (callC P S fuel d)
  | 0 => fun g as σ r σ' h => by simp [callC] at h
  | d + 1 => fun g as σ r σ' h => by
    have ih := callC_ok hm hS (fuel := fuel) d
    simp only [callC, compF] at h
    split at h
    · rename_i s hs
      exact hS g s hs g as σ r σ' (by simpa using h)
    · split at h
      · rename_i fn hf
        unfold fnC at h
        split at h
        · simp at h
        · rename_i hname
          split at h
          · rename_i c hb
            simp only at h
            split at h
            · rename_i hle
              refine ⟨⟨fn, hf, by simpa using hname, by rw [hb]; rfl⟩, fun ρ w vs hr hc => ?_⟩
              refine calls_of_wp hf hb ?_
              cases hs : (compK P fn.ntmps 1000 c retK).run fuel (callC P S fuel d) (Tr.ofList as 0 .leaf) σ with
              | none => rw [hs] at h; simp [endA] at h
              | some s =>
                rw [hs] at h
                have hnt : Nat.max fn.ntmps as.length = fn.ntmps := by
                  have : as.length ≤ fn.ntmps := Nat.le_of_ble_eq_true hle
                  show max fn.ntmps as.length = fn.ntmps
                  omega
                have ht := tm0_rel (fn := fn) hc
                rw [hnt] at ht
                refine compC_ok hm ih 1000 c fuel _ σ s (compK_le 1000 c fuel _ σ s hs) ρ _ w _ hr ht fun ρ' a' w' he ht hd => ?_
                exact endA_post h he ht hd fun v hx hv => ⟨v, ρ', rfl, hx, hv⟩
            · simp at h
          · simp at h
      · simp at h

/-- A call without arguments that the evaluator runs to 'true'. -/
theorem closed_trueC [Sy] {P : Program} (hm : P.follows .mixedOrders = true) {fuel d : Nat} {f : FuncId} (h : isTrue (callC P (fun _ => none) fuel d f [] ⟨0, .leaf⟩) = true) (w : World) :
    Calls P f #[] w fun e w' => e = .returned (.bool true) ∧ RowKit.Below w.heap.size w w' := by
  obtain ⟨σ', hc⟩ := isTrue_spec h
  obtain ⟨_, hrun⟩ := callC_ok (N := w.heap.size) hm SumsOk.none (fuel := fuel) d f [] ⟨0, .leaf⟩ _ σ' hc
  refine (hrun (fun _ => none) w [] (Rep.start P w) (by simp [conL])).mono fun e w' ⟨v, ρ', he, hx, hv⟩ => ?_
  simp only [con, Option.some.injEq] at hv
  subst hv
  exact ⟨he, hx.below⟩

end
end
end Go.Ev
