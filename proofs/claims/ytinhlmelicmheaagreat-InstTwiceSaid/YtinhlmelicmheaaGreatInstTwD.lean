import Derived.Test.YtinhlmelicmheaaGreatInstTwA
namespace Go.Proofs.YtinhlmelicmheaaGreat.instTwice
open Go

set_option maxRecDepth 1000000 in
theorem runHigh : Go.Ev.isTrue (Go.Ev.callC Tryz.prog (Go.Ev.trueSums [17]) 100000 100 6 [at0 (.ofNat 256) (.ofNat 9223372036854775807), num] ⟨0, .leaf⟩) = true := by kernel_rfl

end Go.Proofs.YtinhlmelicmheaaGreat.instTwice
