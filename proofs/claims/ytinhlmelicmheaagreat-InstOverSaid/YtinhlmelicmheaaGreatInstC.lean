import Derived.Test.YtinhlmelicmheaaGreatInstB
namespace Go.Proofs.YtinhlmelicmheaaGreat
open Go.Ev
set_option maxRecDepth 1000000

theorem run17 : isTrue (callC Tryz.prog (trueSums [60]) 100000 100 17 [] ⟨0, .leaf⟩) = true := by kernel_rfl
theorem gives17 : GivesTrue Tryz.prog 17 := givesTrue mixed (fun _ => trueSums_ok (fun f h => by
  rcases List.mem_singleton.1 h with rfl; exact gives60)) run17

end Go.Proofs.YtinhlmelicmheaaGreat
