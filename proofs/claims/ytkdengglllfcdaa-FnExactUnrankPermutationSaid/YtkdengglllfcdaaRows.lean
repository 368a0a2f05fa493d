/-
  No cell of these rows narrows 'for every input' (looked for: loops, veiled, ifaces, maps, wideKeys, modest, calm, conditions, laid).
  DERIVED. THE GIVEN ROWS OF THIS SEAT. 12 by the template 'for every input the law returns true; each argument reads behind the call as it read before'; 0 by the template 'total and deterministic' (their statements: YtkdengglllfcdaaTotals.lean).
  GIVEN WITH THE SEED: the statements are not yours to turn. If you find one false, say at which input.
  Laid BY PROGRAM, IN A SANDBOX (cutbox-rows.mjs): the forced cells as the released guide's own fill.sh prints them over the translation fdfb28e5d751e237… (all of the seat's roots in one cut). By AI agents, Wed Nov 11 2026. No macro, syntax, notation, axiom, sorry.
-/
import Derived.Test.YtkdengglllfcdaaChecked
import GoSem.Claim
import GoSem.ClaimJoined
import GoSem.ClaimMapViews
import Derived.JoinedTies
import Derived.KernelRfl
namespace Go.Proofs.Ytkdengglllfcdaa
/- THE CELL 'sum', in the pinned program and in every row, IS THE sha256 OF THE DUMP (.gsa) THAT YtkdengglllfcdaaProg.lean LOADS. Nothing in Lean hashes anything: it is a label: what it is worth is what the hold of that sum in a sandbox is worth. -/
noncomputable def Try.pinned : Pinned := { name := "ytkdengglllfcdaa", sum := "fdfb28e5d751e237f67732d42ef270c26c57560d0d5ec29daf07431ba20d86d0", checked := Try.checked }
namespace Rows
def none {H : Type} : Left H := { results := [], args := [] }

/-- 'laws.FnExactUnrankPermutation': WHATEVER THE INPUT: true; the input reads as it did. -/
def fnExactUnrankPermutationSpec : ChangeSpec := { name := "fnExactUnrankPermutation", fn := fun _ => fun
  | [d1, d2] => { results := [.lit (.bool true)], args := [d1, d2] }
  | _ => none }
def fnExactUnrankPermutationRow : OpenClaim := { program := "ytkdengglllfcdaa", sum := "fdfb28e5d751e237f67732d42ef270c26c57560d0d5ec29daf07431ba20d86d0", func := "loop.example/g00907/laws.FnExactUnrankPermutation", spec := "fnExactUnrankPermutation", apart := false }
def FnExactUnrankPermutationSaid : Prop := fnExactUnrankPermutationRow.holds Try.pinned (OpenSpec.ofChange fnExactUnrankPermutationSpec)

/-- ITS FALSE NEIGHBOUR: 'it returns false'. Refute it at one input. -/
def fnExactUnrankPermutationWrong : ChangeSpec := { name := "fnExactUnrankPermutation", fn := fun _ => fun
  | [d1, d2] => { results := [.lit (.bool false)], args := [d1, d2] }
  | _ => none }
def FnExactUnrankPermutationWrongFalsely : Prop := fnExactUnrankPermutationRow.holds Try.pinned (OpenSpec.ofChange fnExactUnrankPermutationWrong)

/-- 'laws.FnExactRankPermutation': WHATEVER THE INPUT: true; the input reads as it did. -/
def fnExactRankPermutationSpec : ChangeSpec := { name := "fnExactRankPermutation", fn := fun _ => fun
  | [d] => { results := [.lit (.bool true)], args := [d] }
  | _ => none }
def fnExactRankPermutationRow : OpenClaim := { program := "ytkdengglllfcdaa", sum := "fdfb28e5d751e237f67732d42ef270c26c57560d0d5ec29daf07431ba20d86d0", func := "loop.example/g00907/laws.FnExactRankPermutation", spec := "fnExactRankPermutation", apart := false }
def FnExactRankPermutationSaid : Prop := fnExactRankPermutationRow.holds Try.pinned (OpenSpec.ofChange fnExactRankPermutationSpec)

/-- ITS FALSE NEIGHBOUR: 'it returns false'. Refute it at one input. -/
def fnExactRankPermutationWrong : ChangeSpec := { name := "fnExactRankPermutation", fn := fun _ => fun
  | [d] => { results := [.lit (.bool false)], args := [d] }
  | _ => none }
def FnExactRankPermutationWrongFalsely : Prop := fnExactRankPermutationRow.holds Try.pinned (OpenSpec.ofChange fnExactRankPermutationWrong)

/-- 'laws.FnExactApplyPermutation': WHATEVER THE INPUT: true; the input reads as it did. -/
def fnExactApplyPermutationSpec : ChangeSpec := { name := "fnExactApplyPermutation", fn := fun _ => fun
  | [d1, d2] => { results := [.lit (.bool true)], args := [d1, d2] }
  | _ => none }
def fnExactApplyPermutationRow : OpenClaim := { program := "ytkdengglllfcdaa", sum := "fdfb28e5d751e237f67732d42ef270c26c57560d0d5ec29daf07431ba20d86d0", func := "loop.example/g00907/laws.FnExactApplyPermutation", spec := "fnExactApplyPermutation", unfollowed := true, recurses := true, apart := false }
def FnExactApplyPermutationSaid : Prop := fnExactApplyPermutationRow.holds Try.pinned (OpenSpec.ofChange fnExactApplyPermutationSpec)

/-- ITS FALSE NEIGHBOUR: 'it returns false'. Refute it at one input. -/
def fnExactApplyPermutationWrong : ChangeSpec := { name := "fnExactApplyPermutation", fn := fun _ => fun
  | [d1, d2] => { results := [.lit (.bool false)], args := [d1, d2] }
  | _ => none }
def FnExactApplyPermutationWrongFalsely : Prop := fnExactApplyPermutationRow.holds Try.pinned (OpenSpec.ofChange fnExactApplyPermutationWrong)

/-- 'laws.FnExactNextPermutation': WHATEVER THE INPUT: true; the input reads as it did. -/
def fnExactNextPermutationSpec : ChangeSpec := { name := "fnExactNextPermutation", fn := fun _ => fun
  | [d] => { results := [.lit (.bool true)], args := [d] }
  | _ => none }
def fnExactNextPermutationRow : OpenClaim := { program := "ytkdengglllfcdaa", sum := "fdfb28e5d751e237f67732d42ef270c26c57560d0d5ec29daf07431ba20d86d0", func := "loop.example/g00907/laws.FnExactNextPermutation", spec := "fnExactNextPermutation", apart := false }
def FnExactNextPermutationSaid : Prop := fnExactNextPermutationRow.holds Try.pinned (OpenSpec.ofChange fnExactNextPermutationSpec)

/-- ITS FALSE NEIGHBOUR: 'it returns false'. Refute it at one input. -/
def fnExactNextPermutationWrong : ChangeSpec := { name := "fnExactNextPermutation", fn := fun _ => fun
  | [d] => { results := [.lit (.bool false)], args := [d] }
  | _ => none }
def FnExactNextPermutationWrongFalsely : Prop := fnExactNextPermutationRow.holds Try.pinned (OpenSpec.ofChange fnExactNextPermutationWrong)

/-- 'laws.FnExactPermutationCycles': WHATEVER THE INPUT: true; the input reads as it did. -/
def fnExactPermutationCyclesSpec : ChangeSpec := { name := "fnExactPermutationCycles", fn := fun _ => fun
  | [d] => { results := [.lit (.bool true)], args := [d] }
  | _ => none }
def fnExactPermutationCyclesRow : OpenClaim := { program := "ytkdengglllfcdaa", sum := "fdfb28e5d751e237f67732d42ef270c26c57560d0d5ec29daf07431ba20d86d0", func := "loop.example/g00907/laws.FnExactPermutationCycles", spec := "fnExactPermutationCycles", apart := false }
def FnExactPermutationCyclesSaid : Prop := fnExactPermutationCyclesRow.holds Try.pinned (OpenSpec.ofChange fnExactPermutationCyclesSpec)

/-- ITS FALSE NEIGHBOUR: 'it returns false'. Refute it at one input. -/
def fnExactPermutationCyclesWrong : ChangeSpec := { name := "fnExactPermutationCycles", fn := fun _ => fun
  | [d] => { results := [.lit (.bool false)], args := [d] }
  | _ => none }
def FnExactPermutationCyclesWrongFalsely : Prop := fnExactPermutationCyclesRow.holds Try.pinned (OpenSpec.ofChange fnExactPermutationCyclesWrong)

/-- 'laws.FnExactBubblePasses': WHATEVER THE INPUT: true; the input reads as it did. -/
def fnExactBubblePassesSpec : ChangeSpec := { name := "fnExactBubblePasses", fn := fun _ => fun
  | [d] => { results := [.lit (.bool true)], args := [d] }
  | _ => none }
def fnExactBubblePassesRow : OpenClaim := { program := "ytkdengglllfcdaa", sum := "fdfb28e5d751e237f67732d42ef270c26c57560d0d5ec29daf07431ba20d86d0", func := "loop.example/g00907/laws.FnExactBubblePasses", spec := "fnExactBubblePasses", unfollowed := true, recurses := true, apart := false }
def FnExactBubblePassesSaid : Prop := fnExactBubblePassesRow.holds Try.pinned (OpenSpec.ofChange fnExactBubblePassesSpec)

/-- ITS FALSE NEIGHBOUR: 'it returns false'. Refute it at one input. -/
def fnExactBubblePassesWrong : ChangeSpec := { name := "fnExactBubblePasses", fn := fun _ => fun
  | [d] => { results := [.lit (.bool false)], args := [d] }
  | _ => none }
def FnExactBubblePassesWrongFalsely : Prop := fnExactBubblePassesRow.holds Try.pinned (OpenSpec.ofChange fnExactBubblePassesWrong)

/-- 'laws.FnExactBinaryInsertionSort': WHATEVER THE INPUT: true; the input reads as it did. -/
def fnExactBinaryInsertionSortSpec : ChangeSpec := { name := "fnExactBinaryInsertionSort", fn := fun _ => fun
  | [d] => { results := [.lit (.bool true)], args := [d] }
  | _ => none }
def fnExactBinaryInsertionSortRow : OpenClaim := { program := "ytkdengglllfcdaa", sum := "fdfb28e5d751e237f67732d42ef270c26c57560d0d5ec29daf07431ba20d86d0", func := "loop.example/g00907/laws.FnExactBinaryInsertionSort", spec := "fnExactBinaryInsertionSort", unfollowed := true, recurses := true, apart := false }
def FnExactBinaryInsertionSortSaid : Prop := fnExactBinaryInsertionSortRow.holds Try.pinned (OpenSpec.ofChange fnExactBinaryInsertionSortSpec)

/-- ITS FALSE NEIGHBOUR: 'it returns false'. Refute it at one input. -/
def fnExactBinaryInsertionSortWrong : ChangeSpec := { name := "fnExactBinaryInsertionSort", fn := fun _ => fun
  | [d] => { results := [.lit (.bool false)], args := [d] }
  | _ => none }
def FnExactBinaryInsertionSortWrongFalsely : Prop := fnExactBinaryInsertionSortRow.holds Try.pinned (OpenSpec.ofChange fnExactBinaryInsertionSortWrong)

/-- 'laws.FnExactSelectionSort': WHATEVER THE INPUT: true; the input reads as it did. -/
def fnExactSelectionSortSpec : ChangeSpec := { name := "fnExactSelectionSort", fn := fun _ => fun
  | [d] => { results := [.lit (.bool true)], args := [d] }
  | _ => none }
def fnExactSelectionSortRow : OpenClaim := { program := "ytkdengglllfcdaa", sum := "fdfb28e5d751e237f67732d42ef270c26c57560d0d5ec29daf07431ba20d86d0", func := "loop.example/g00907/laws.FnExactSelectionSort", spec := "fnExactSelectionSort", unfollowed := true, recurses := true, apart := false }
def FnExactSelectionSortSaid : Prop := fnExactSelectionSortRow.holds Try.pinned (OpenSpec.ofChange fnExactSelectionSortSpec)

/-- ITS FALSE NEIGHBOUR: 'it returns false'. Refute it at one input. -/
def fnExactSelectionSortWrong : ChangeSpec := { name := "fnExactSelectionSort", fn := fun _ => fun
  | [d] => { results := [.lit (.bool false)], args := [d] }
  | _ => none }
def FnExactSelectionSortWrongFalsely : Prop := fnExactSelectionSortRow.holds Try.pinned (OpenSpec.ofChange fnExactSelectionSortWrong)

/-- 'laws.FnExactInsertionSort': WHATEVER THE INPUT: true; the input reads as it did. -/
def fnExactInsertionSortSpec : ChangeSpec := { name := "fnExactInsertionSort", fn := fun _ => fun
  | [d] => { results := [.lit (.bool true)], args := [d] }
  | _ => none }
def fnExactInsertionSortRow : OpenClaim := { program := "ytkdengglllfcdaa", sum := "fdfb28e5d751e237f67732d42ef270c26c57560d0d5ec29daf07431ba20d86d0", func := "loop.example/g00907/laws.FnExactInsertionSort", spec := "fnExactInsertionSort", unfollowed := true, recurses := true, apart := false }
def FnExactInsertionSortSaid : Prop := fnExactInsertionSortRow.holds Try.pinned (OpenSpec.ofChange fnExactInsertionSortSpec)

/-- ITS FALSE NEIGHBOUR: 'it returns false'. Refute it at one input. -/
def fnExactInsertionSortWrong : ChangeSpec := { name := "fnExactInsertionSort", fn := fun _ => fun
  | [d] => { results := [.lit (.bool false)], args := [d] }
  | _ => none }
def FnExactInsertionSortWrongFalsely : Prop := fnExactInsertionSortRow.holds Try.pinned (OpenSpec.ofChange fnExactInsertionSortWrong)

/-- 'laws.FnExactPushHeap': WHATEVER THE INPUT: true; the input reads as it did. -/
def fnExactPushHeapSpec : ChangeSpec := { name := "fnExactPushHeap", fn := fun _ => fun
  | [d1, d2, d3] => { results := [.lit (.bool true)], args := [d1, d2, d3] }
  | _ => none }
def fnExactPushHeapRow : OpenClaim := { program := "ytkdengglllfcdaa", sum := "fdfb28e5d751e237f67732d42ef270c26c57560d0d5ec29daf07431ba20d86d0", func := "loop.example/g00907/laws.FnExactPushHeap", spec := "fnExactPushHeap", unfollowed := true, recurses := true, apart := false }
def FnExactPushHeapSaid : Prop := fnExactPushHeapRow.holds Try.pinned (OpenSpec.ofChange fnExactPushHeapSpec)

/-- ITS FALSE NEIGHBOUR: 'it returns false'. Refute it at one input. -/
def fnExactPushHeapWrong : ChangeSpec := { name := "fnExactPushHeap", fn := fun _ => fun
  | [d1, d2, d3] => { results := [.lit (.bool false)], args := [d1, d2, d3] }
  | _ => none }
def FnExactPushHeapWrongFalsely : Prop := fnExactPushHeapRow.holds Try.pinned (OpenSpec.ofChange fnExactPushHeapWrong)

/-- 'laws.FnExactBuildHeap': WHATEVER THE INPUT: true; the input reads as it did. -/
def fnExactBuildHeapSpec : ChangeSpec := { name := "fnExactBuildHeap", fn := fun _ => fun
  | [d1, d2] => { results := [.lit (.bool true)], args := [d1, d2] }
  | _ => none }
def fnExactBuildHeapRow : OpenClaim := { program := "ytkdengglllfcdaa", sum := "fdfb28e5d751e237f67732d42ef270c26c57560d0d5ec29daf07431ba20d86d0", func := "loop.example/g00907/laws.FnExactBuildHeap", spec := "fnExactBuildHeap", unfollowed := true, recurses := true, apart := false }
def FnExactBuildHeapSaid : Prop := fnExactBuildHeapRow.holds Try.pinned (OpenSpec.ofChange fnExactBuildHeapSpec)

/-- ITS FALSE NEIGHBOUR: 'it returns false'. Refute it at one input. -/
def fnExactBuildHeapWrong : ChangeSpec := { name := "fnExactBuildHeap", fn := fun _ => fun
  | [d1, d2] => { results := [.lit (.bool false)], args := [d1, d2] }
  | _ => none }
def FnExactBuildHeapWrongFalsely : Prop := fnExactBuildHeapRow.holds Try.pinned (OpenSpec.ofChange fnExactBuildHeapWrong)

/-- 'laws.FnExactShellSort': WHATEVER THE INPUT: true; the input reads as it did. -/
def fnExactShellSortSpec : ChangeSpec := { name := "fnExactShellSort", fn := fun _ => fun
  | [d1, d2] => { results := [.lit (.bool true)], args := [d1, d2] }
  | _ => none }
def fnExactShellSortRow : OpenClaim := { program := "ytkdengglllfcdaa", sum := "fdfb28e5d751e237f67732d42ef270c26c57560d0d5ec29daf07431ba20d86d0", func := "loop.example/g00907/laws.FnExactShellSort", spec := "fnExactShellSort", unfollowed := true, recurses := true, apart := false }
def FnExactShellSortSaid : Prop := fnExactShellSortRow.holds Try.pinned (OpenSpec.ofChange fnExactShellSortSpec)

/-- ITS FALSE NEIGHBOUR: 'it returns false'. Refute it at one input. -/
def fnExactShellSortWrong : ChangeSpec := { name := "fnExactShellSort", fn := fun _ => fun
  | [d1, d2] => { results := [.lit (.bool false)], args := [d1, d2] }
  | _ => none }
def FnExactShellSortWrongFalsely : Prop := fnExactShellSortRow.holds Try.pinned (OpenSpec.ofChange fnExactShellSortWrong)

/- THE SECOND FORM. 'bulk': how many values and letters a reading holds, each counted each time it is reached (what is shared counts as often as it is met; a slice's spare places count too). A statement '..UptoSaid' is the law's where the arguments, and the package variables that the reading takes, are together of bulk at most 1048576: NARROWER than '..Said'. Prove '..Said' where nothing that the law and all that it calls make is longer than what came in: it says more and counts as full. Else prove '..UptoSaid'. A law counts once. -/
mutual
def uptoBulk {H : Type} : DataW H → Nat
  | .lit (.string bytes) => bytes.length + 1
  | .lit _ => 1
  | .nil => 1
  | .ptr d => uptoBulk d + 1
  | .slice elems spare => uptoBulkAll elems + uptoBulkAll spare + 1
  | .agg parts => uptoBulkAll parts + 1
  | .iface _ d => uptoBulk d + 1
  | .map entries => uptoBulkEntries entries + 1
  | .held _ => 1
def uptoBulkAll {H : Type} : List (DataW H) → Nat
  | [] => 0
  | d :: r => uptoBulk d + uptoBulkAll r
def uptoBulkEntries {H : Type} : List (Lit × DataW H) → Nat
  | [] => 0
  | x :: r => uptoBulkEntry x + uptoBulkEntries r
def uptoBulkEntry {H : Type} : Lit × DataW H → Nat
  | (.string bytes, d) => bytes.length + uptoBulk d + 1
  | (_, d) => uptoBulk d + 1
 end
def uptoSmall : (H : Type) → List (DataW H) → Bool := fun _ ds => decide (uptoBulkAll ds ≤ 1048576)
def OpenSpec.upto (s : _root_.Go.ChangeSpec) : _root_.Go.OpenSpec := { _root_.Go.OpenSpec.ofChange s with cond := some uptoSmall }

/-- 'laws.FnExactUnrankPermutation', WHERE WHAT IT READS IS OF BULK AT MOST 1048576: true; the input reads as it did. -/
def fnExactUnrankPermutationUptoRow : OpenClaim := { program := "ytkdengglllfcdaa", sum := "fdfb28e5d751e237f67732d42ef270c26c57560d0d5ec29daf07431ba20d86d0", func := "loop.example/g00907/laws.FnExactUnrankPermutation", spec := "fnExactUnrankPermutation", apart := false, narrowed := true }
def FnExactUnrankPermutationUptoSaid : Prop := fnExactUnrankPermutationUptoRow.holds Try.pinned (OpenSpec.upto fnExactUnrankPermutationSpec)

/-- 'laws.FnExactRankPermutation', WHERE WHAT IT READS IS OF BULK AT MOST 1048576: true; the input reads as it did. -/
def fnExactRankPermutationUptoRow : OpenClaim := { program := "ytkdengglllfcdaa", sum := "fdfb28e5d751e237f67732d42ef270c26c57560d0d5ec29daf07431ba20d86d0", func := "loop.example/g00907/laws.FnExactRankPermutation", spec := "fnExactRankPermutation", apart := false, narrowed := true }
def FnExactRankPermutationUptoSaid : Prop := fnExactRankPermutationUptoRow.holds Try.pinned (OpenSpec.upto fnExactRankPermutationSpec)

/-- 'laws.FnExactApplyPermutation', WHERE WHAT IT READS IS OF BULK AT MOST 1048576: true; the input reads as it did. -/
def fnExactApplyPermutationUptoRow : OpenClaim := { program := "ytkdengglllfcdaa", sum := "fdfb28e5d751e237f67732d42ef270c26c57560d0d5ec29daf07431ba20d86d0", func := "loop.example/g00907/laws.FnExactApplyPermutation", spec := "fnExactApplyPermutation", unfollowed := true, recurses := true, apart := false, narrowed := true }
def FnExactApplyPermutationUptoSaid : Prop := fnExactApplyPermutationUptoRow.holds Try.pinned (OpenSpec.upto fnExactApplyPermutationSpec)

/-- 'laws.FnExactNextPermutation', WHERE WHAT IT READS IS OF BULK AT MOST 1048576: true; the input reads as it did. -/
def fnExactNextPermutationUptoRow : OpenClaim := { program := "ytkdengglllfcdaa", sum := "fdfb28e5d751e237f67732d42ef270c26c57560d0d5ec29daf07431ba20d86d0", func := "loop.example/g00907/laws.FnExactNextPermutation", spec := "fnExactNextPermutation", apart := false, narrowed := true }
def FnExactNextPermutationUptoSaid : Prop := fnExactNextPermutationUptoRow.holds Try.pinned (OpenSpec.upto fnExactNextPermutationSpec)

/-- 'laws.FnExactPermutationCycles', WHERE WHAT IT READS IS OF BULK AT MOST 1048576: true; the input reads as it did. -/
def fnExactPermutationCyclesUptoRow : OpenClaim := { program := "ytkdengglllfcdaa", sum := "fdfb28e5d751e237f67732d42ef270c26c57560d0d5ec29daf07431ba20d86d0", func := "loop.example/g00907/laws.FnExactPermutationCycles", spec := "fnExactPermutationCycles", apart := false, narrowed := true }
def FnExactPermutationCyclesUptoSaid : Prop := fnExactPermutationCyclesUptoRow.holds Try.pinned (OpenSpec.upto fnExactPermutationCyclesSpec)

/-- 'laws.FnExactBubblePasses', WHERE WHAT IT READS IS OF BULK AT MOST 1048576: true; the input reads as it did. -/
def fnExactBubblePassesUptoRow : OpenClaim := { program := "ytkdengglllfcdaa", sum := "fdfb28e5d751e237f67732d42ef270c26c57560d0d5ec29daf07431ba20d86d0", func := "loop.example/g00907/laws.FnExactBubblePasses", spec := "fnExactBubblePasses", unfollowed := true, recurses := true, apart := false, narrowed := true }
def FnExactBubblePassesUptoSaid : Prop := fnExactBubblePassesUptoRow.holds Try.pinned (OpenSpec.upto fnExactBubblePassesSpec)

/-- 'laws.FnExactBinaryInsertionSort', WHERE WHAT IT READS IS OF BULK AT MOST 1048576: true; the input reads as it did. -/
def fnExactBinaryInsertionSortUptoRow : OpenClaim := { program := "ytkdengglllfcdaa", sum := "fdfb28e5d751e237f67732d42ef270c26c57560d0d5ec29daf07431ba20d86d0", func := "loop.example/g00907/laws.FnExactBinaryInsertionSort", spec := "fnExactBinaryInsertionSort", unfollowed := true, recurses := true, apart := false, narrowed := true }
def FnExactBinaryInsertionSortUptoSaid : Prop := fnExactBinaryInsertionSortUptoRow.holds Try.pinned (OpenSpec.upto fnExactBinaryInsertionSortSpec)

/-- 'laws.FnExactSelectionSort', WHERE WHAT IT READS IS OF BULK AT MOST 1048576: true; the input reads as it did. -/
def fnExactSelectionSortUptoRow : OpenClaim := { program := "ytkdengglllfcdaa", sum := "fdfb28e5d751e237f67732d42ef270c26c57560d0d5ec29daf07431ba20d86d0", func := "loop.example/g00907/laws.FnExactSelectionSort", spec := "fnExactSelectionSort", unfollowed := true, recurses := true, apart := false, narrowed := true }
def FnExactSelectionSortUptoSaid : Prop := fnExactSelectionSortUptoRow.holds Try.pinned (OpenSpec.upto fnExactSelectionSortSpec)

/-- 'laws.FnExactInsertionSort', WHERE WHAT IT READS IS OF BULK AT MOST 1048576: true; the input reads as it did. -/
def fnExactInsertionSortUptoRow : OpenClaim := { program := "ytkdengglllfcdaa", sum := "fdfb28e5d751e237f67732d42ef270c26c57560d0d5ec29daf07431ba20d86d0", func := "loop.example/g00907/laws.FnExactInsertionSort", spec := "fnExactInsertionSort", unfollowed := true, recurses := true, apart := false, narrowed := true }
def FnExactInsertionSortUptoSaid : Prop := fnExactInsertionSortUptoRow.holds Try.pinned (OpenSpec.upto fnExactInsertionSortSpec)

/-- 'laws.FnExactPushHeap', WHERE WHAT IT READS IS OF BULK AT MOST 1048576: true; the input reads as it did. -/
def fnExactPushHeapUptoRow : OpenClaim := { program := "ytkdengglllfcdaa", sum := "fdfb28e5d751e237f67732d42ef270c26c57560d0d5ec29daf07431ba20d86d0", func := "loop.example/g00907/laws.FnExactPushHeap", spec := "fnExactPushHeap", unfollowed := true, recurses := true, apart := false, narrowed := true }
def FnExactPushHeapUptoSaid : Prop := fnExactPushHeapUptoRow.holds Try.pinned (OpenSpec.upto fnExactPushHeapSpec)

/-- 'laws.FnExactBuildHeap', WHERE WHAT IT READS IS OF BULK AT MOST 1048576: true; the input reads as it did. -/
def fnExactBuildHeapUptoRow : OpenClaim := { program := "ytkdengglllfcdaa", sum := "fdfb28e5d751e237f67732d42ef270c26c57560d0d5ec29daf07431ba20d86d0", func := "loop.example/g00907/laws.FnExactBuildHeap", spec := "fnExactBuildHeap", unfollowed := true, recurses := true, apart := false, narrowed := true }
def FnExactBuildHeapUptoSaid : Prop := fnExactBuildHeapUptoRow.holds Try.pinned (OpenSpec.upto fnExactBuildHeapSpec)

/-- 'laws.FnExactShellSort', WHERE WHAT IT READS IS OF BULK AT MOST 1048576: true; the input reads as it did. -/
def fnExactShellSortUptoRow : OpenClaim := { program := "ytkdengglllfcdaa", sum := "fdfb28e5d751e237f67732d42ef270c26c57560d0d5ec29daf07431ba20d86d0", func := "loop.example/g00907/laws.FnExactShellSort", spec := "fnExactShellSort", unfollowed := true, recurses := true, apart := false, narrowed := true }
def FnExactShellSortUptoSaid : Prop := fnExactShellSortUptoRow.holds Try.pinned (OpenSpec.upto fnExactShellSortSpec)

end Rows
end Go.Proofs.Ytkdengglllfcdaa
