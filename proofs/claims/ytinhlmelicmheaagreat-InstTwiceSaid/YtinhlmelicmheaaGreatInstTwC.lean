import Derived.Test.YtinhlmelicmheaaGreatInstTwA
namespace Go.Proofs.YtinhlmelicmheaaGreat.instTwice
open Go

set_option maxRecDepth 1000000 in
theorem runIn : Go.Ev.isTrue (Go.Ev.callC Tryz.prog (Go.Ev.trueSums [17]) 100000 100 6 [at0 (.ofNat 0) (.ofNat 255), num] ⟨0, .leaf⟩) = true := by kernel_rfl

end Go.Proofs.YtinhlmelicmheaaGreat.instTwice
