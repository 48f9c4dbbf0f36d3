/-
  No cell of these rows narrows 'for every input' (looked for: loops, veiled, ifaces, maps, wideKeys, modest, calm, conditions, laid).
  DERIVED. THE GIVEN ROWS OF THIS SEAT. 6 by the template 'for every input the law returns true; each argument reads behind the call as it read before'; 0 by the template 'total and deterministic' (their statements: YtinhlmelicmheaaGreatTotals.lean).
  GIVEN WITH THE SEED: the statements are not yours to turn. If you find one false, say at which input.
  Laid BY PROGRAM, IN A SANDBOX (cutbox-rows.mjs): the forced cells as the released guide's own fill.sh prints them over the translation ee800584d31b0ccd… (all of the seat's roots in one cut). By AI agents, Wed Nov 11 2026. No macro, syntax, notation, axiom, sorry.
-/
import Derived.Test.YtinhlmelicmheaaGreatChecked
import GoSem.Claim
import GoSem.ClaimJoined
import GoSem.ClaimMapViews
import Derived.JoinedTies
import Derived.KernelRfl
namespace Go.Proofs.YtinhlmelicmheaaGreat
/- THE CELL 'sum', in the pinned program and in every row, IS THE sha256 OF THE DUMP (.gsa) THAT YtinhlmelicmheaaGreatProg.lean LOADS. Nothing in Lean hashes anything: it is a label: what it is worth is what the hold of that sum in a sandbox is worth. -/
noncomputable def Tryz.pinned : Pinned := { name := "ytinhlmelicmheaagreat", sum := "ee800584d31b0ccd1c1bbe35c0bdb1563c0f2e97eda3d245d3e41ca622651e4e", checked := Tryz.checked }
namespace Rows
def none {H : Type} : Left H := { results := [], args := [] }

/-- 'diapauselaw7.WasmOwn': WHATEVER THE INPUT: true; the input reads as it did. -/
def wasmOwnSpec : ChangeSpec := { name := "wasmOwn", fn := fun _ => fun
  | [d1, d2] => { results := [.lit (.bool true)], args := [d1, d2] }
  | _ => none }
def wasmOwnRow : OpenClaim := { program := "ytinhlmelicmheaagreat", sum := "ee800584d31b0ccd1c1bbe35c0bdb1563c0f2e97eda3d245d3e41ca622651e4e", func := "diapause/diapauselaw7.WasmOwn", spec := "wasmOwn", unfollowed := true, recurses := true, apart := false }
def WasmOwnSaid : Prop := wasmOwnRow.holds Tryz.pinned (OpenSpec.ofChange wasmOwnSpec)

/-- ITS FALSE NEIGHBOUR: 'it returns false'. Refute it at one input. -/
def wasmOwnWrong : ChangeSpec := { name := "wasmOwn", fn := fun _ => fun
  | [d1, d2] => { results := [.lit (.bool false)], args := [d1, d2] }
  | _ => none }
def WasmOwnWrongFalsely : Prop := wasmOwnRow.holds Tryz.pinned (OpenSpec.ofChange wasmOwnWrong)

/-- 'diapauselaw12.InstNone': WHATEVER THE INPUT: true; the input reads as it did. -/
def instNoneSpec : ChangeSpec := { name := "instNone", fn := fun _ => fun
  | [] => { results := [.lit (.bool true)], args := [] }
  | _ => none }
def instNoneRow : OpenClaim := { program := "ytinhlmelicmheaagreat", sum := "ee800584d31b0ccd1c1bbe35c0bdb1563c0f2e97eda3d245d3e41ca622651e4e", func := "diapause/diapauselaw12.InstNone", spec := "instNone", inPlace := ["slices.overlaps[int]"], unfollowed := true, recurses := true, apart := false }
def InstNoneSaid : Prop := instNoneRow.holds Tryz.pinned (OpenSpec.ofChange instNoneSpec)

/-- ITS FALSE NEIGHBOUR: 'it returns false'. Refute it at one input. -/
def instNoneWrong : ChangeSpec := { name := "instNone", fn := fun _ => fun
  | [] => { results := [.lit (.bool false)], args := [] }
  | _ => none }
def InstNoneWrongFalsely : Prop := instNoneRow.holds Tryz.pinned (OpenSpec.ofChange instNoneWrong)

/-- 'diapauselaw12.InstOver': WHATEVER THE INPUT: true; the input reads as it did. -/
def instOverSpec : ChangeSpec := { name := "instOver", fn := fun _ => fun
  | [d1, d2, d3] => { results := [.lit (.bool true)], args := [d1, d2, d3] }
  | _ => none }
def instOverRow : OpenClaim := { program := "ytinhlmelicmheaagreat", sum := "ee800584d31b0ccd1c1bbe35c0bdb1563c0f2e97eda3d245d3e41ca622651e4e", func := "diapause/diapauselaw12.InstOver", spec := "instOver", inPlace := ["slices.overlaps[int]"], unfollowed := true, recurses := true, apart := false }
def InstOverSaid : Prop := instOverRow.holds Tryz.pinned (OpenSpec.ofChange instOverSpec)

/-- ITS FALSE NEIGHBOUR: 'it returns false'. Refute it at one input. -/
def instOverWrong : ChangeSpec := { name := "instOver", fn := fun _ => fun
  | [d1, d2, d3] => { results := [.lit (.bool false)], args := [d1, d2, d3] }
  | _ => none }
def InstOverWrongFalsely : Prop := instOverRow.holds Tryz.pinned (OpenSpec.ofChange instOverWrong)

/-- 'diapauselaw12.InstTwice': WHATEVER THE INPUT: true; the input reads as it did. -/
def instTwiceSpec : ChangeSpec := { name := "instTwice", fn := fun _ => fun
  | [d1, d2] => { results := [.lit (.bool true)], args := [d1, d2] }
  | _ => none }
def instTwiceRow : OpenClaim := { program := "ytinhlmelicmheaagreat", sum := "ee800584d31b0ccd1c1bbe35c0bdb1563c0f2e97eda3d245d3e41ca622651e4e", func := "diapause/diapauselaw12.InstTwice", spec := "instTwice", inPlace := ["slices.overlaps[int]"], unfollowed := true, recurses := true, apart := false }
def InstTwiceSaid : Prop := instTwiceRow.holds Tryz.pinned (OpenSpec.ofChange instTwiceSpec)

/-- ITS FALSE NEIGHBOUR: 'it returns false'. Refute it at one input. -/
def instTwiceWrong : ChangeSpec := { name := "instTwice", fn := fun _ => fun
  | [d1, d2] => { results := [.lit (.bool false)], args := [d1, d2] }
  | _ => none }
def InstTwiceWrongFalsely : Prop := instTwiceRow.holds Tryz.pinned (OpenSpec.ofChange instTwiceWrong)

/-- 'diapauselaw12.InstAll': WHATEVER THE INPUT: true; the input reads as it did. -/
def instAllSpec : ChangeSpec := { name := "instAll", fn := fun _ => fun
  | [d1, d2, d3] => { results := [.lit (.bool true)], args := [d1, d2, d3] }
  | _ => none }
def instAllRow : OpenClaim := { program := "ytinhlmelicmheaagreat", sum := "ee800584d31b0ccd1c1bbe35c0bdb1563c0f2e97eda3d245d3e41ca622651e4e", func := "diapause/diapauselaw12.InstAll", spec := "instAll", inPlace := ["slices.overlaps[int]"], unfollowed := true, recurses := true, apart := false }
def InstAllSaid : Prop := instAllRow.holds Tryz.pinned (OpenSpec.ofChange instAllSpec)

/-- ITS FALSE NEIGHBOUR: 'it returns false'. Refute it at one input. -/
def instAllWrong : ChangeSpec := { name := "instAll", fn := fun _ => fun
  | [d1, d2, d3] => { results := [.lit (.bool false)], args := [d1, d2, d3] }
  | _ => none }
def InstAllWrongFalsely : Prop := instAllRow.holds Tryz.pinned (OpenSpec.ofChange instAllWrong)

/-- 'diapauselaw12.InstPlaces': WHATEVER THE INPUT: true; the input reads as it did. -/
def instPlacesSpec : ChangeSpec := { name := "instPlaces", fn := fun _ => fun
  | [d1, d2, d3, d4] => { results := [.lit (.bool true)], args := [d1, d2, d3, d4] }
  | _ => none }
def instPlacesRow : OpenClaim := { program := "ytinhlmelicmheaagreat", sum := "ee800584d31b0ccd1c1bbe35c0bdb1563c0f2e97eda3d245d3e41ca622651e4e", func := "diapause/diapauselaw12.InstPlaces", spec := "instPlaces", inPlace := ["slices.overlaps[int]"], unfollowed := true, recurses := true, apart := false }
def InstPlacesSaid : Prop := instPlacesRow.holds Tryz.pinned (OpenSpec.ofChange instPlacesSpec)

/-- ITS FALSE NEIGHBOUR: 'it returns false'. Refute it at one input. -/
def instPlacesWrong : ChangeSpec := { name := "instPlaces", fn := fun _ => fun
  | [d1, d2, d3, d4] => { results := [.lit (.bool false)], args := [d1, d2, d3, d4] }
  | _ => none }
def InstPlacesWrongFalsely : Prop := instPlacesRow.holds Tryz.pinned (OpenSpec.ofChange instPlacesWrong)

/- THE SECOND FORM. 'bulk': how many values and letters a reading holds, each counted each time it is reached (what is shared counts as often as it is met; a slice's spare places count too). A statement '..UptoSaid' is the law's where the arguments, and the package variables that the reading takes, are together of bulk at most 1048576: NARROWER than '..Said'. Prove '..Said' where nothing that the law and all that it calls make is longer than what came in: it says more and counts as full. Else prove '..UptoSaid'. A law counts once. -/
mutual
def uptoBulk {H : Type} : DataW H → Nat
  | .lit (.string bytes) => bytes.length + 1
  | .lit _ => 1
  | .nil => 1
  | .ptr d => uptoBulk d + 1
  | .slice elems spare => uptoBulkAll elems + uptoBulkAll spare + 1
  | .agg parts => uptoBulkAll parts + 1
  | .iface _ d => uptoBulk d + 1
  | .map entries => uptoBulkEntries entries + 1
  | .held _ => 1
def uptoBulkAll {H : Type} : List (DataW H) → Nat
  | [] => 0
  | d :: r => uptoBulk d + uptoBulkAll r
def uptoBulkEntries {H : Type} : List (Lit × DataW H) → Nat
  | [] => 0
  | x :: r => uptoBulkEntry x + uptoBulkEntries r
def uptoBulkEntry {H : Type} : Lit × DataW H → Nat
  | (.string bytes, d) => bytes.length + uptoBulk d + 1
  | (_, d) => uptoBulk d + 1
 end
def uptoSmall : (H : Type) → List (DataW H) → Bool := fun _ ds => decide (uptoBulkAll ds ≤ 1048576)
def OpenSpec.upto (s : _root_.Go.ChangeSpec) : _root_.Go.OpenSpec := { _root_.Go.OpenSpec.ofChange s with cond := some uptoSmall }

/-- 'diapauselaw7.WasmOwn', WHERE WHAT IT READS IS OF BULK AT MOST 1048576: true; the input reads as it did. -/
def wasmOwnUptoRow : OpenClaim := { program := "ytinhlmelicmheaagreat", sum := "ee800584d31b0ccd1c1bbe35c0bdb1563c0f2e97eda3d245d3e41ca622651e4e", func := "diapause/diapauselaw7.WasmOwn", spec := "wasmOwn", unfollowed := true, recurses := true, apart := false, narrowed := true }
def WasmOwnUptoSaid : Prop := wasmOwnUptoRow.holds Tryz.pinned (OpenSpec.upto wasmOwnSpec)

/-- 'diapauselaw12.InstNone', WHERE WHAT IT READS IS OF BULK AT MOST 1048576: true; the input reads as it did. -/
def instNoneUptoRow : OpenClaim := { program := "ytinhlmelicmheaagreat", sum := "ee800584d31b0ccd1c1bbe35c0bdb1563c0f2e97eda3d245d3e41ca622651e4e", func := "diapause/diapauselaw12.InstNone", spec := "instNone", inPlace := ["slices.overlaps[int]"], unfollowed := true, recurses := true, apart := false, narrowed := true }
def InstNoneUptoSaid : Prop := instNoneUptoRow.holds Tryz.pinned (OpenSpec.upto instNoneSpec)

/-- 'diapauselaw12.InstOver', WHERE WHAT IT READS IS OF BULK AT MOST 1048576: true; the input reads as it did. -/
def instOverUptoRow : OpenClaim := { program := "ytinhlmelicmheaagreat", sum := "ee800584d31b0ccd1c1bbe35c0bdb1563c0f2e97eda3d245d3e41ca622651e4e", func := "diapause/diapauselaw12.InstOver", spec := "instOver", inPlace := ["slices.overlaps[int]"], unfollowed := true, recurses := true, apart := false, narrowed := true }
def InstOverUptoSaid : Prop := instOverUptoRow.holds Tryz.pinned (OpenSpec.upto instOverSpec)

/-- 'diapauselaw12.InstTwice', WHERE WHAT IT READS IS OF BULK AT MOST 1048576: true; the input reads as it did. -/
def instTwiceUptoRow : OpenClaim := { program := "ytinhlmelicmheaagreat", sum := "ee800584d31b0ccd1c1bbe35c0bdb1563c0f2e97eda3d245d3e41ca622651e4e", func := "diapause/diapauselaw12.InstTwice", spec := "instTwice", inPlace := ["slices.overlaps[int]"], unfollowed := true, recurses := true, apart := false, narrowed := true }
def InstTwiceUptoSaid : Prop := instTwiceUptoRow.holds Tryz.pinned (OpenSpec.upto instTwiceSpec)

/-- 'diapauselaw12.InstAll', WHERE WHAT IT READS IS OF BULK AT MOST 1048576: true; the input reads as it did. -/
def instAllUptoRow : OpenClaim := { program := "ytinhlmelicmheaagreat", sum := "ee800584d31b0ccd1c1bbe35c0bdb1563c0f2e97eda3d245d3e41ca622651e4e", func := "diapause/diapauselaw12.InstAll", spec := "instAll", inPlace := ["slices.overlaps[int]"], unfollowed := true, recurses := true, apart := false, narrowed := true }
def InstAllUptoSaid : Prop := instAllUptoRow.holds Tryz.pinned (OpenSpec.upto instAllSpec)

/-- 'diapauselaw12.InstPlaces', WHERE WHAT IT READS IS OF BULK AT MOST 1048576: true; the input reads as it did. -/
def instPlacesUptoRow : OpenClaim := { program := "ytinhlmelicmheaagreat", sum := "ee800584d31b0ccd1c1bbe35c0bdb1563c0f2e97eda3d245d3e41ca622651e4e", func := "diapause/diapauselaw12.InstPlaces", spec := "instPlaces", inPlace := ["slices.overlaps[int]"], unfollowed := true, recurses := true, apart := false, narrowed := true }
def InstPlacesUptoSaid : Prop := instPlacesUptoRow.holds Tryz.pinned (OpenSpec.upto instPlacesSpec)

end Rows
end Go.Proofs.YtinhlmelicmheaaGreat
