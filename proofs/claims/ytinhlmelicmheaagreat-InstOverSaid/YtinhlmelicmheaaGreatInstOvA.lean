import Derived.Test.YtinhlmelicmheaaGreatInstC
namespace Go.Proofs.YtinhlmelicmheaaGreat.instOver
open Go

/-- The numbers that came in. -/
abbrev sy (a b n : Int) : Go.Ev.Sy := ⟨fun i => match i with
  | 0 => a
  | 1 => b
  | _ => n⟩

/-- Number i, between bounds. -/
def num (i : Nat) (lo hi : Int) : Go.Ev.AV := .sx .i64 (.var i (.ofNat 0) lo hi)
def small (i k : Nat) : Go.Ev.AV := num i (.ofNat k) (.ofNat k)

/-- The bounds of n at which its bytes, and those of n + 1, are of one make. -/
def ns : List Go.Ev.AV := [num 2 (.ofNat 0) (.ofNat 62), num 2 (.ofNat 63) (.ofNat 63), num 2 (.ofNat 64) (.ofNat 126), num 2 (.ofNat 127) (.ofNat 127), num 2 (.ofNat 128) (.ofNat 250)]

def rowsOf (a b : Nat) : List (List Go.Ev.AV) := ns.map fun n => [small 0 a, small 1 b, n]
def rows (a : Nat) : List (List Go.Ev.AV) := rowsOf a 0 ++ rowsOf a 1 ++ rowsOf a 2 ++ rowsOf a 3

def low : Int := .negSucc 9223372036854775807
def high : Int := .ofNat 9223372036854775807
def anyN (i : Nat) : Go.Ev.AV := num i low high
def out : List (List Go.Ev.AV) := [[num 0 low (.negSucc 0), anyN 1, anyN 2], [num 0 (.ofNat 4) high, anyN 1, anyN 2],
  [num 0 (.ofNat 0) (.ofNat 3), num 1 low (.negSucc 0), anyN 2], [num 0 (.ofNat 0) (.ofNat 3), num 1 (.ofNat 4) high, anyN 2],
  [num 0 (.ofNat 0) (.ofNat 3), num 1 (.ofNat 0) (.ofNat 3), num 2 low (.negSucc 0)], [num 0 (.ofNat 0) (.ofNat 3), num 1 (.ofNat 0) (.ofNat 3), num 2 (.ofNat 251) high]]

noncomputable def F : List Go.Ev.AV → Option (Go.Ev.AV × Go.Ev.Heap) := fun l => Go.Ev.callC Tryz.prog (Go.Ev.trueSums [17]) 100000 100 5 l ⟨0, .leaf⟩

set_option maxRecDepth 1000000 in
theorem runOut : Go.Ev.allTrue F out = true := by kernel_rfl

end Go.Proofs.YtinhlmelicmheaaGreat.instOver
