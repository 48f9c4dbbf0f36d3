import Derived.Test.YtinhlmelicmheaaGreatInstC
namespace Go.Proofs.YtinhlmelicmheaaGreat.instTwice
open Go

/-- The numbers that came in: the place and the number. -/
abbrev sy (a b : Int) : Go.Ev.Sy := ⟨fun i => match i with
  | 0 => a
  | _ => b⟩

def num : Go.Ev.AV := .sx .u64 (.var 1 (.ofNat 0) (.ofNat 0) (.ofNat 18446744073709551615))
def at0 (lo hi : Int) : Go.Ev.AV := .sx .i64 (.var 0 (.ofNat 0) lo hi)

end Go.Proofs.YtinhlmelicmheaaGreat.instTwice
