import Derived.Test.YtinhlmelicmheaaGreatEv28
import Derived.Test.YtinhlmelicmheaaGreatProg
namespace Go.Proofs.YtinhlmelicmheaaGreat
open Go.Ev
set_option maxRecDepth 1000000

instance : Sy := ⟨fun _ => 0⟩

theorem mixed : Tryz.prog.follows .mixedOrders = true := by kernel_rfl

theorem run9 : isTrue (callC Tryz.prog (trueSums []) 100000 100 9 [] ⟨0, .leaf⟩) = true := by kernel_rfl
theorem gives9 : GivesTrue Tryz.prog 9 := givesTrue mixed (fun _ => trueSums_ok (fun _ h => by cases h)) run9

theorem run300 : isTrue (callC Tryz.prog (trueSums [9]) 100000 100 300 [] ⟨0, .leaf⟩) = true := by kernel_rfl
theorem gives300 : GivesTrue Tryz.prog 300 := givesTrue mixed (fun _ => trueSums_ok (fun f h => by
  rcases List.mem_singleton.1 h with rfl; exact gives9)) run300

end Go.Proofs.YtinhlmelicmheaaGreat
