/- The function InstOver gives true, whatever the three numbers are, and leaves them as they were; no condition. -/
import Derived.Test.YtinhlmelicmheaaGreatInstOv00
import Derived.Test.YtinhlmelicmheaaGreatInstOv01
import Derived.Test.YtinhlmelicmheaaGreatInstOv02
import Derived.Test.YtinhlmelicmheaaGreatInstOv03
import Derived.Test.YtinhlmelicmheaaGreatInstOv10
import Derived.Test.YtinhlmelicmheaaGreatInstOv11
import Derived.Test.YtinhlmelicmheaaGreatInstOv12
import Derived.Test.YtinhlmelicmheaaGreatInstOv13
import Derived.Test.YtinhlmelicmheaaGreatInstOv20
import Derived.Test.YtinhlmelicmheaaGreatInstOv21
import Derived.Test.YtinhlmelicmheaaGreatInstOv22
import Derived.Test.YtinhlmelicmheaaGreatInstOv23
import Derived.Test.YtinhlmelicmheaaGreatInstOv30
import Derived.Test.YtinhlmelicmheaaGreatInstOv31
import Derived.Test.YtinhlmelicmheaaGreatInstOv32
import Derived.Test.YtinhlmelicmheaaGreatInstOv33
import Derived.DataShut
import Derived.Test.YtinhlmelicmheaaGreatRows
import Derived.WalkKit
import Derived.ProofKit
import Derived.OpenShut
import Derived.ChangeOld
namespace Go.Proofs.YtinhlmelicmheaaGreat.instOver
open Go.ChangeShapes Go.WideShapes Go.ChangeAt Go.RowKit
set_option linter.unusedVariables false

theorem own : ownKnob Tryz.prog.godebug = none := by kernel_rfl

theorem num_eval (a b n : Int) (i : Nat) (lo hi x : Int) (hx : (sy a b n).x i = x) (h1 : lo ≤ x) (h2 : x ≤ hi) : @Go.Ev.con (sy a b n) (fun _ => none) (num i lo hi) = some (.int .i64 x) := by
  have e : @Go.Ev.SE.eval (sy a b n) (.var i (.ofNat 0) lo hi) = some x := (@Go.Ev.SE.eval_var (sy a b n) _ _ _ _ _).2 ⟨by rw [hx]; exact (Int.add_zero x).symm, h1, h2⟩
  simp only [num, Go.Ev.con, e, Option.map_some]

theorem args (a b n : Int) (la ha lb hb ln hn : Int) (a1 : la ≤ a) (a2 : a ≤ ha) (b1 : lb ≤ b) (b2 : b ≤ hb) (n1 : ln ≤ n) (n2 : n ≤ hn) :
    @Go.Ev.conL (sy a b n) (fun _ => none) [num 0 la ha, num 1 lb hb, num 2 ln hn] = some [.int .i64 a, .int .i64 b, .int .i64 n] := by
  simp only [Go.Ev.conL, num_eval a b n 0 la ha a rfl a1 a2, num_eval a b n 1 lb hb b rfl b1 b2, num_eval a b n 2 ln hn n rfl n1 n2, Option.map_some, Option.bind_some]

/-- One run of the evaluator, at numbers between its bounds. -/
theorem key (a b n : Int) (la ha lb hb ln hn : Int) (a1 : la ≤ a) (a2 : a ≤ ha) (b1 : lb ≤ b) (b2 : b ≤ hb) (n1 : ln ≤ n) (n2 : n ≤ hn) (hrun : Go.Ev.isTrue (F [num 0 la ha, num 1 lb hb, num 2 ln hn]) = true) (w : World) :
    Calls Tryz.prog 5 #[.int .i64 a, .int .i64 b, .int .i64 n] w fun e w' => e = .returned (.bool true) ∧ Below w.heap.size w w' :=
  @Go.Ev.trueAt _ (sy a b n) mixed _ (fun _ => @Go.Ev.trueSums_ok _ _ (sy a b n) _ (fun f h => by
    rcases List.mem_singleton.1 h with rfl; exact gives17)) _ _ _ _ hrun _ (args a b n la ha lb hb ln hn a1 a2 b1 b2 n1 n2) w

theorem inner (i j : Nat) (hrun : Go.Ev.allTrue F (rowsOf i j) = true) (n : Int) (n1 : 0 ≤ n) (n2 : n ≤ 250) (w : World) :
    Calls Tryz.prog 5 #[.int .i64 (i : Int), .int .i64 (j : Int), .int .i64 n] w fun e w' => e = .returned (.bool true) ∧ Below w.heap.size w w' := by
  have hm := Go.Ev.allTrue_mem hrun
  have go : ∀ lo hi : Int, lo ≤ n → n ≤ hi → [small 0 i, small 1 j, num 2 lo hi] ∈ rowsOf i j → Calls Tryz.prog 5 #[.int .i64 (i : Int), .int .i64 (j : Int), .int .i64 n] w fun e w' => e = .returned (.bool true) ∧ Below w.heap.size w w' := fun lo hi h1 h2 hmem =>
    key (i : Int) (j : Int) n (i : Int) (i : Int) (j : Int) (j : Int) lo hi (Int.le_refl _) (Int.le_refl _) (Int.le_refl _) (Int.le_refl _) h1 h2 (hm _ hmem) w
  have mem : ∀ x, x ∈ ns → [small 0 i, small 1 j, x] ∈ rowsOf i j := fun x hx => List.mem_map.2 ⟨x, hx, rfl⟩
  by_cases c1 : n ≤ 62
  · exact go (.ofNat 0) (.ofNat 62) n1 c1 (mem _ (by simp [ns]))
  · by_cases c2 : n ≤ 63
    · exact go (.ofNat 63) (.ofNat 63) (by show (63 : Int) ≤ n; omega) c2 (mem _ (by simp [ns]))
    · by_cases c3 : n ≤ 126
      · exact go (.ofNat 64) (.ofNat 126) (by show (64 : Int) ≤ n; omega) c3 (mem _ (by simp [ns]))
      · by_cases c4 : n ≤ 127
        · exact go (.ofNat 127) (.ofNat 127) (by show (127 : Int) ≤ n; omega) c4 (mem _ (by simp [ns]))
        · exact go (.ofNat 128) (.ofNat 250) (by show (128 : Int) ≤ n; omega) n2 (mem _ (by simp [ns]))

theorem walk (a0 a1 a2 : Int) (w0 : (Lit.int .i64 a0).wf = true) (w1 : (Lit.int .i64 a1).wf = true) (w2 : (Lit.int .i64 a2).wf = true) (w : World) :
    Calls Tryz.prog 5 #[.int .i64 a0, .int .i64 a1, .int .i64 a2] w fun e w' => e = .returned (.bool true) ∧ Below w.heap.size w w' := by
  have b0 := (Lit.wf_int_iff _ _).1 w0
  have b1 := (Lit.wf_int_iff _ _).1 w1
  have b2 := (Lit.wf_int_iff _ _).1 w2
  have m0 : IntKind.i64.min = low := by decide
  have m1 : IntKind.i64.max = high := by decide
  rw [m0, m1] at b0 b1 b2
  have hm := Go.Ev.allTrue_mem runOut
  by_cases c1 : a0 ≤ -1
  · exact key a0 a1 a2 low (.negSucc 0) low high low high b0.1 c1 b1.1 b1.2 b2.1 b2.2 (hm _ (by simp [out, anyN])) w
  by_cases c2 : 4 ≤ a0
  · exact key a0 a1 a2 (.ofNat 4) high low high low high c2 b0.2 b1.1 b1.2 b2.1 b2.2 (hm _ (by simp [out, anyN])) w
  have p0 : (0 : Int) ≤ a0 := by omega
  have p3 : a0 ≤ 3 := by omega
  by_cases c3 : a1 ≤ -1
  · exact key a0 a1 a2 (.ofNat 0) (.ofNat 3) low (.negSucc 0) low high p0 p3 b1.1 c3 b2.1 b2.2 (hm _ (by simp [out, anyN])) w
  by_cases c4 : 4 ≤ a1
  · exact key a0 a1 a2 (.ofNat 0) (.ofNat 3) (.ofNat 4) high low high p0 p3 c4 b1.2 b2.1 b2.2 (hm _ (by simp [out, anyN])) w
  have q0 : (0 : Int) ≤ a1 := by omega
  have q3 : a1 ≤ 3 := by omega
  by_cases c5 : a2 ≤ -1
  · exact key a0 a1 a2 (.ofNat 0) (.ofNat 3) (.ofNat 0) (.ofNat 3) low (.negSucc 0) p0 p3 q0 q3 b2.1 c5 (hm _ (by simp [out])) w
  by_cases c6 : 251 ≤ a2
  · exact key a0 a1 a2 (.ofNat 0) (.ofNat 3) (.ofNat 0) (.ofNat 3) (.ofNat 251) high p0 p3 q0 q3 c6 b2.2 (hm _ (by simp [out])) w
  have r0 : (0 : Int) ≤ a2 := by omega
  have r3 : a2 ≤ 250 := by omega
  have e0 : a0 = 0 ∨ a0 = 1 ∨ a0 = 2 ∨ a0 = 3 := by omega
  have e1 : a1 = 0 ∨ a1 = 1 ∨ a1 = 2 ∨ a1 = 3 := by omega
  rcases e0 with rfl | rfl | rfl | rfl
  · rcases e1 with rfl | rfl | rfl | rfl
    · exact inner 0 0 run00 a2 r0 r3 w
    · exact inner 0 1 run01 a2 r0 r3 w
    · exact inner 0 2 run02 a2 r0 r3 w
    · exact inner 0 3 run03 a2 r0 r3 w
  · rcases e1 with rfl | rfl | rfl | rfl
    · exact inner 1 0 run10 a2 r0 r3 w
    · exact inner 1 1 run11 a2 r0 r3 w
    · exact inner 1 2 run12 a2 r0 r3 w
    · exact inner 1 3 run13 a2 r0 r3 w
  · rcases e1 with rfl | rfl | rfl | rfl
    · exact inner 2 0 run20 a2 r0 r3 w
    · exact inner 2 1 run21 a2 r0 r3 w
    · exact inner 2 2 run22 a2 r0 r3 w
    · exact inner 2 3 run23 a2 r0 r3 w
  · rcases e1 with rfl | rfl | rfl | rfl
    · exact inner 3 0 run30 a2 r0 r3 w
    · exact inner 3 1 run31 a2 r0 r3 w
    · exact inner 3 2 run32 a2 r0 r3 w
    · exact inner 3 3 run33 a2 r0 r3 w

set_option maxRecDepth 100000 in
theorem lifted (os : Os) (started : os.Started) (H : Type) (enc : TypeId × Value → H) :
    ReturnsInHanded {} Tryz.checked os 5 .any (Rows.instOverSpec.pre6 enc Tryz.prog Tryz.f5 Rows.instOverRow.domain false) (Rows.instOverSpec.post enc Tryz.prog Tryz.f5 false true false false) := by
  refine returnsInHanded_of_change (C := Tryz.checked) own started (by kernel_rfl) Tryz.func5
    (ChangeSpec.witness6 (enc := enc) (C := Tryz.checked) false ⟨#[], #[.int .i64 0, .int .i64 0, .int .i64 0], []⟩ 8 (by kernel_rfl) (by kernel_rfl) (by kernel_rfl) (by kernel_rfl)) ?_
  intro W base args ds gs before hval0 hW hcnd _
  have hval : ∀ (j : Nat) t v, Tryz.f5.params[j]? = some t → args[j]? = some v → Value.okWide Tryz.prog W .any base t v := hval0
  have hW' := hW
  obtain ⟨p, q, hA0, hV, rfl, hfz, hnd⟩ := hW
  have hA : DataW.TrodAll enc Tryz.prog W 0 (fun _ => true) true Tryz.f5.params.toList args.toList ds p := hA0
  rw [Tryz.params5] at hA hval
  obtain ⟨v0, vs0, d0, ds0, p0, q0, hargs, rfl, rfl, h0, r0⟩ := trodAll_cons hA
  obtain ⟨v1, vs1, d1, ds1, p1, q1, rfl, rfl, rfl, h1, r1⟩ := trodAll_cons r0
  obtain ⟨v2, vs2, d2, ds2, p2, q2, rfl, rfl, rfl, h2, r2⟩ := trodAll_cons r1
  obtain ⟨rfl, rfl, rfl⟩ := trodAll_nil r2
  obtain rfl : args = #[v0, v1, v2] := by cases args; simp_all
  obtain ⟨rfl, rfl⟩ := trodVars_none hV
  obtain ⟨a0, rfl, rfl, rfl, w0⟩ := open_int Tryz.underlying3 (hval 0 3 v0 rfl rfl) h0
  obtain ⟨a1, rfl, rfl, rfl, w1⟩ := open_int Tryz.underlying3 (hval 1 3 v1 rfl rfl) h1
  obtain ⟨a2, rfl, rfl, rfl, w2⟩ := open_int Tryz.underlying3 (hval 2 3 v2 rfl rfl) h2
  clear hA0 hval0
  simp only [List.append_nil] at hW'
  refine (walk a0 a1 a2 w0 w1 w2 W).mono fun e W' ⟨he, bel⟩ => ?_
  subst he
  exact ⟨_, rfl, _, _, _, [], [], [], hW', trodAll_cons_mk (shut_bool Tryz.underlying4 _) trodAll_mk0, trodAll_cons_mk (shut_int Tryz.underlying3 w0) (trodAll_cons_mk (shut_int Tryz.underlying3 w1) (trodAll_cons_mk (shut_int Tryz.underlying3 w2) trodAll_mk0)), rfl, bel.frame _, fun h => by cases h⟩

theorem over : Rows.instOverRow.holds Tryz.pinned (OpenSpec.ofChange Rows.instOverSpec) :=
  OpenClaim.holds_of_wide 5 Tryz.f5 rfl rfl rfl rfl rfl rfl rfl ⟨rfl, rfl, rfl, rfl, rfl⟩ rfl rfl rfl rfl rfl (by kernel_rfl) Tryz.func5 (by kernel_rfl)
    (of_decide_eq_true (by kernel_rfl)) (by unfold Func.isWrapper; first | (rw [if_pos (by decide +kernel)]; kernel_rfl) | (rw [if_neg (by decide +kernel)]; exact ⟨rfl, rfl⟩))
    (fun os started H enc _ => lifted os started H enc)

theorem proved : Rows.InstOverSaid := over
#print axioms proved
end Go.Proofs.YtinhlmelicmheaaGreat.instOver
