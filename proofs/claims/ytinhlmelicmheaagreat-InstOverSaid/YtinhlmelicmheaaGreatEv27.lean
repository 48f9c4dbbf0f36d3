import Derived.Test.YtinhlmelicmheaaGreatEv26
namespace Go.Ev
open Go

noncomputable section

/-! ## Functions laid ready -/

structure Rf where
  run : Tr AV → Heap → Option AV

def tupO : Option (List AV) → Option AV
  | some l => some (resV l)
  | none => none

def allTmp : List ResultVar → Option (List Operand)
  | [] => some []
  | .tmp t :: l => match allTmp l with
    | some r => some (.tmp t :: r)
    | none => none
  | _ => none

/-- What a function hands back. -/
def resF (P : Program) (l : List ResultVar) : Rf := match allTmp l with
  | some [] => ⟨fun _ _ => some (.tup [])⟩
  | some [x] => ⟨fun tm _ => (evS x).get tm⟩
  | some ts => ⟨fun tm _ => tupO ((evL evS ts).get tm)⟩
  | none => ⟨fun tm σ => tupO (resA P tm σ l)⟩

theorem allTmp_res [Sy] {P : Program} {tm : Tr AV} {σ : Heap} : ∀ {l : List ResultVar} {ts : List Operand}, allTmp l = some ts → resA P tm σ l = evos (evo tm) ts
  | [], ts, h => by simp only [allTmp, Option.some.injEq] at h; subst h; rfl
  | .tmp t :: l, ts, h => by
    simp only [allTmp] at h
    split at h
    · rename_i r hr
      simp only [Option.some.injEq] at h; subst h
      simp only [resA, evos, allTmp_res hr]
      rfl
    · cases h
  | .cell a t :: l, ts, h => by simp [allTmp] at h

theorem resF_ok [Sy] {P : Program} {tm : Tr AV} {σ : Heap} {l : List ResultVar} {v : AV} (h : (resF P l).run tm σ = some v) : ∃ vs, resA P tm σ l = some vs ∧ v = resV vs := by
  have tup : ∀ o : Option (List AV), tupO o = some v → ∃ vs, o = some vs ∧ v = resV vs := fun o ho => by
    cases o with
    | none => cases ho
    | some vs => exact ⟨vs, rfl, (Option.some.inj ho).symm⟩
  unfold resF at h
  split at h
  · rename_i ht
    have h := Option.some.inj h
    exact ⟨[], by rw [allTmp_res ht]; rfl, h.symm⟩
  · rename_i x ht
    have h : (evS x).get tm = some v := h
    rw [show (evS x).get tm = evo tm x from congrFun (evS_at tm) x] at h
    exact ⟨[v], by rw [allTmp_res ht]; simp only [evos, h], rfl⟩
  · rename_i ts _ _ ht
    have h : tupO ((evL evS ts).get tm) = some v := h
    rw [evL_get, evS_at] at h
    obtain ⟨vs, h1, h2⟩ := tup _ h
    exact ⟨vs, by rw [allTmp_res ht]; exact h1, h2⟩
  · exact tup _ h

def endR (g : Rf) (r : Option St) : Option (AV × Heap) :=
  Option.rec (motive := fun _ => Option (AV × Heap)) none (fun s => St.rec (motive := fun _ => Option (AV × Heap)) (fun ex tm σ => EX.rec (motive := fun _ => Option (AV × Heap))
    (Option.rec (motive := fun _ => Option (AV × Heap)) none (fun v => some (v, σ)) (g.run tm σ)) (fun _ => none) (fun _ => none)
    (Option.rec (motive := fun _ => Option (AV × Heap)) none (fun v => some (v, σ)) (g.run tm σ)) ex) s) r

theorem endR_ok [Sy] {P : Program} {fn : Func} {r : Option St} {x : AV × Heap} (h : endR (resF P fn.results.toList) r = some x) : endA P fn r = some x := by
  obtain ⟨s, hs, h⟩ := orec_some h
  subst hs
  obtain ⟨ex, tm, σ⟩ := s
  have fin : Option.rec (motive := fun _ => Option (AV × Heap)) none (fun v => some (v, σ)) ((resF P fn.results.toList).run tm σ) = some x → ∃ vs, resA P tm σ fn.results.toList = some vs ∧ x = (resV vs, σ) := fun hh => by
    obtain ⟨v, hv, hh⟩ := orec_some hh
    obtain ⟨vs, h1, rfl⟩ := resF_ok hv
    exact ⟨vs, h1, (Option.some.inj hh).symm⟩
  cases ex with
  | normal => obtain ⟨vs, h1, rfl⟩ := fin h; simp only [endA, h1]
  | exit id => cases h
  | goto l => cases h
  | ret => obtain ⟨vs, h1, rfl⟩ := fin h; simp only [endA, h1]

structure Ffn where
  run : Nat → CallF → List AV → Heap → Option (AV × Heap)

def fnC (P : Program) (fn : Func) : Ffn := match decide (fn.name = "runtime.NumGoroutine") with
  | true => ⟨fun _ _ _ _ => none⟩
  | false => match fn.body with
    | some c => ⟨fun n F args σ => match Nat.ble args.length fn.ntmps with
      | true => endR (resF P fn.results.toList) ((compK P fn.ntmps 1000 c retK).run n F (ofListR args 0 .leaf) σ)
      | false => none⟩
    | none => ⟨fun _ _ _ _ => none⟩

def compF (P : Program) (S : Sums) (f : FuncId) : Ffn := match S f with
  | some s => ⟨fun _ _ args σ => s args σ⟩
  | none => match P.funcs[f]? with
    | some fn => fnC P fn
    | none => ⟨fun _ _ _ _ => none⟩

def callC (P : Program) (S : Sums) (fuel : Nat) (d : Nat) : CallF :=
  Nat.rec (motive := fun _ => CallF) (fun _ _ _ => none) (fun _ ih f args σ => (compF P S f).run fuel ih args σ) d

theorem callC_zero (P : Program) (S : Sums) (fuel : Nat) (f : FuncId) (args : List AV) (σ : Heap) : callC P S fuel 0 f args σ = none := rfl
theorem callC_succ (P : Program) (S : Sums) (fuel d : Nat) (f : FuncId) (args : List AV) (σ : Heap) : callC P S fuel (d + 1) f args σ = (compF P S f).run fuel (callC P S fuel d) args σ := rfl

section
variable {P : Program} {N : Nat}

theorem callC_ok [Sy] (hm : P.follows .mixedOrders = true) {S : Sums} (hS : SumsOk P N S) {fuel : Nat} : ∀ d, FOk P N (callC P S fuel d)
  | 0 => fun g as σ r σ' h => by simp [callC_zero] at h
  | d + 1 => fun g as σ r σ' h => by
    have ih := callC_ok hm hS (fuel := fuel) d
    simp only [callC_succ, compF] at h
    split at h
    · rename_i s hs
      exact hS g s hs g as σ r σ' (by simpa using h)
    · split at h
      · rename_i fn hf
        unfold fnC at h
        split at h
        · simp at h
        · rename_i hname
          split at h
          · rename_i c hb
            simp only at h
            split at h
            · rename_i hle
              refine ⟨⟨fn, hf, by simpa using hname, by rw [hb]; rfl⟩, fun ρ w vs hr hc => ?_⟩
              refine calls_of_wp hf hb ?_
              have h := endR_ok h
              rw [ofListR_eq] at h
              cases hs : (compK P fn.ntmps 1000 c retK).run fuel (callC P S fuel d) (Tr.ofList as 0 .leaf) σ with
              | none => rw [hs] at h; simp [endA] at h
              | some s =>
                rw [hs] at h
                have hnt : Nat.max fn.ntmps as.length = fn.ntmps := by
                  have : as.length ≤ fn.ntmps := Nat.le_of_ble_eq_true hle
                  show max fn.ntmps as.length = fn.ntmps
                  omega
                have ht := tm0_rel (fn := fn) hc
                rw [hnt] at ht
                refine compC_ok hm ih 1000 c fuel _ σ s (compK_le 1000 c fuel _ σ s hs) ρ _ w _ hr ht fun ρ' a' w' he ht hd => ?_
                exact endA_post h he ht hd fun v hx hv => ⟨v, ρ', rfl, hx, hv⟩
            · simp at h
          · simp at h
      · simp at h

/-- A call without arguments that the evaluator runs to 'true'. -/
theorem closed_trueC [Sy] {P : Program} (hm : P.follows .mixedOrders = true) {fuel d : Nat} {f : FuncId} (h : isTrue (callC P (fun _ => none) fuel d f [] ⟨0, .leaf⟩) = true) (w : World) :
    Calls P f #[] w fun e w' => e = .returned (.bool true) ∧ RowKit.Below w.heap.size w w' := by
  obtain ⟨σ', hc⟩ := isTrue_spec h
  obtain ⟨_, hrun⟩ := callC_ok (N := w.heap.size) hm SumsOk.none (fuel := fuel) d f [] ⟨0, .leaf⟩ _ σ' hc
  refine (hrun (fun _ => none) w [] (Rep.start P w) (by simp [conL])).mono fun e w' ⟨v, ρ', he, hx, hv⟩ => ?_
  simp only [con, Option.some.injEq] at hv
  subst hv
  exact ⟨he, hx.below⟩

end
end
end Go.Ev
