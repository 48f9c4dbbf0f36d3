import Derived.Test.YtinhlmelicmheaaGreatInstA
namespace Go.Proofs.YtinhlmelicmheaaGreat
open Go.Ev
set_option maxRecDepth 1000000

theorem run156 : isTrue (callC Tryz.prog (trueSums [300]) 100000 100 156 [] ⟨0, .leaf⟩) = true := by kernel_rfl
theorem gives156 : GivesTrue Tryz.prog 156 := givesTrue mixed (fun _ => trueSums_ok (fun f h => by
  rcases List.mem_singleton.1 h with rfl; exact gives300)) run156

theorem run60 : isTrue (callC Tryz.prog (trueSums [156]) 100000 100 60 [] ⟨0, .leaf⟩) = true := by kernel_rfl
theorem gives60 : GivesTrue Tryz.prog 60 := givesTrue mixed (fun _ => trueSums_ok (fun f h => by
  rcases List.mem_singleton.1 h with rfl; exact gives156)) run60

end Go.Proofs.YtinhlmelicmheaaGreat
