/- The function InstTwice gives true, whatever the place and the number are, and leaves both as they were; no condition. -/
import Derived.Test.YtinhlmelicmheaaGreatInstTwB
import Derived.Test.YtinhlmelicmheaaGreatInstTwC
import Derived.Test.YtinhlmelicmheaaGreatInstTwD
import Derived.DataShut
import Derived.Test.YtinhlmelicmheaaGreatRows
import Derived.WalkKit
import Derived.ProofKit
import Derived.OpenShut
import Derived.ChangeOld
namespace Go.Proofs.YtinhlmelicmheaaGreat.instTwice
open Go.ChangeShapes Go.WideShapes Go.ChangeAt Go.RowKit
set_option linter.unusedVariables false

theorem own : ownKnob Tryz.prog.godebug = none := by kernel_rfl

theorem args (a b lo hi : Int) (h1 : lo ≤ a) (h2 : a ≤ hi) (h3 : 0 ≤ b) (h4 : b ≤ 18446744073709551615) :
    @Go.Ev.conL (sy a b) (fun _ => none) [at0 lo hi, num] = some [.int .i64 a, .int .u64 b] := by
  have e1 : @Go.Ev.SE.eval (sy a b) (.var 0 (.ofNat 0) lo hi) = some a := (@Go.Ev.SE.eval_var (sy a b) _ _ _ _ _).2 ⟨(Int.add_zero a).symm, h1, h2⟩
  have e2 : @Go.Ev.SE.eval (sy a b) (.var 1 (.ofNat 0) (.ofNat 0) (.ofNat 18446744073709551615)) = some b := (@Go.Ev.SE.eval_var (sy a b) _ _ _ _ _).2 ⟨(Int.add_zero b).symm, h3, h4⟩
  simp only [at0, num, Go.Ev.conL, Go.Ev.con, e1, e2, Option.map_some, Option.bind_some]

theorem walk (a0 : Int) (a1 : Int) (w0 : (Lit.int .i64 a0).wf = true) (w1 : (Lit.int .u64 a1).wf = true) (w : World) :
    Calls Tryz.prog 6 #[.int .i64 a0, .int .u64 a1] w fun e w' => e = .returned (.bool true) ∧ Below w.heap.size w w' := by
  have b0 := (Lit.wf_int_iff _ _).1 w0
  have b1 := (Lit.wf_int_iff _ _).1 w1
  have m0 : IntKind.i64.min = -9223372036854775808 := by decide
  have m1 : IntKind.i64.max = 9223372036854775807 := by decide
  have m2 : IntKind.u64.min = 0 := by decide
  have m3 : IntKind.u64.max = 18446744073709551615 := by decide
  rw [m0, m1] at b0
  rw [m2, m3] at b1
  have hS : ∀ N, @Go.Ev.SumsOk (sy a0 a1) Tryz.prog N (Go.Ev.trueSums [17]) := fun _ => @Go.Ev.trueSums_ok _ _ (sy a0 a1) _ (fun f h => by
    rcases List.mem_singleton.1 h with rfl; exact gives17)
  have key : ∀ lo hi : Int, lo ≤ a0 → a0 ≤ hi → Go.Ev.isTrue (Go.Ev.callC Tryz.prog (Go.Ev.trueSums [17]) 100000 100 6 [at0 lo hi, num] ⟨0, .leaf⟩) = true →
      Calls Tryz.prog 6 #[.int .i64 a0, .int .u64 a1] w fun e w' => e = .returned (.bool true) ∧ Below w.heap.size w w' := fun lo hi h1 h2 hrun =>
    @Go.Ev.trueAt _ (sy a0 a1) mixed _ hS _ _ _ _ hrun _ (args a0 a1 lo hi h1 h2 b1.1 b1.2) w
  by_cases c1 : a0 < 0
  · exact key _ _ (by show (-9223372036854775808 : Int) ≤ a0; omega) (by show a0 ≤ (-1 : Int); omega) runLow
  · by_cases c2 : a0 ≤ 255
    · exact key _ _ (by show (0 : Int) ≤ a0; omega) (by show a0 ≤ (255 : Int); omega) runIn
    · exact key _ _ (by show (256 : Int) ≤ a0; omega) (by show a0 ≤ (9223372036854775807 : Int); omega) runHigh

set_option maxRecDepth 100000 in
theorem lifted (os : Os) (started : os.Started) (H : Type) (enc : TypeId × Value → H) :
    ReturnsInHanded {} Tryz.checked os 6 .any (Rows.instTwiceSpec.pre6 enc Tryz.prog Tryz.f6 Rows.instTwiceRow.domain false) (Rows.instTwiceSpec.post enc Tryz.prog Tryz.f6 false true false false) := by
  refine returnsInHanded_of_change (C := Tryz.checked) own started (by kernel_rfl) Tryz.func6
    (ChangeSpec.witness6 (enc := enc) (C := Tryz.checked) false ⟨#[], #[.int .i64 0, .int .u64 0], []⟩ 8 (by kernel_rfl) (by kernel_rfl) (by kernel_rfl) (by kernel_rfl)) ?_
  intro W base args ds gs before hval0 hW hcnd _
  have hval : ∀ (j : Nat) t v, Tryz.f6.params[j]? = some t → args[j]? = some v → Value.okWide Tryz.prog W .any base t v := hval0
  have hW' := hW
  obtain ⟨p, q, hA0, hV, rfl, hfz, hnd⟩ := hW
  have hA : DataW.TrodAll enc Tryz.prog W 0 (fun _ => true) true Tryz.f6.params.toList args.toList ds p := hA0
  rw [Tryz.params6] at hA hval
  obtain ⟨v0, vs0, d0, ds0, p0, q0, hargs, rfl, rfl, h0, r0⟩ := trodAll_cons hA
  obtain ⟨v1, vs1, d1, ds1, p1, q1, rfl, rfl, rfl, h1, r1⟩ := trodAll_cons r0
  obtain ⟨rfl, rfl, rfl⟩ := trodAll_nil r1
  obtain rfl : args = #[v0, v1] := by cases args; simp_all
  obtain ⟨rfl, rfl⟩ := trodVars_none hV
  obtain ⟨a0, rfl, rfl, rfl, w0⟩ := open_int Tryz.underlying2 (hval 0 2 v0 rfl rfl) h0
  obtain ⟨a1, rfl, rfl, rfl, w1⟩ := open_int Tryz.underlying70 (hval 1 70 v1 rfl rfl) h1
  clear hA0 hval0
  simp only [List.append_nil] at hW'
  refine (walk a0 a1 w0 w1 W).mono fun e W' ⟨he, bel⟩ => ?_
  subst he
  exact ⟨_, rfl, _, _, _, [], [], [], hW', trodAll_cons_mk (shut_bool Tryz.underlying4 _) trodAll_mk0, trodAll_cons_mk (shut_int Tryz.underlying2 w0) (trodAll_cons_mk (shut_int Tryz.underlying70 w1) trodAll_mk0), rfl, bel.frame _, fun h => by cases h⟩

theorem over : Rows.instTwiceRow.holds Tryz.pinned (OpenSpec.ofChange Rows.instTwiceSpec) :=
  OpenClaim.holds_of_wide 6 Tryz.f6 rfl rfl rfl rfl rfl rfl rfl ⟨rfl, rfl, rfl, rfl, rfl⟩ rfl rfl rfl rfl rfl (by kernel_rfl) Tryz.func6 (by kernel_rfl)
    (of_decide_eq_true (by kernel_rfl)) (by unfold Func.isWrapper; first | (rw [if_pos (by decide +kernel)]; kernel_rfl) | (rw [if_neg (by decide +kernel)]; exact ⟨rfl, rfl⟩))
    (fun os started H enc _ => lifted os started H enc)

theorem proved : Rows.InstTwiceSaid := over
#print axioms proved
end Go.Proofs.YtinhlmelicmheaaGreat.instTwice
