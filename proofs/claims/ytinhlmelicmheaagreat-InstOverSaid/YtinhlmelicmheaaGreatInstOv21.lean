import Derived.Test.YtinhlmelicmheaaGreatInstOvA
namespace Go.Proofs.YtinhlmelicmheaaGreat.instOver
open Go

set_option maxRecDepth 1000000 in
theorem run21 : Go.Ev.allTrue F (rowsOf 2 1) = true := by kernel_rfl

end Go.Proofs.YtinhlmelicmheaaGreat.instOver
