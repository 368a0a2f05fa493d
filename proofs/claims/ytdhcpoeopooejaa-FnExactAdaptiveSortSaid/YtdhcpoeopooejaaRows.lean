/-
  No cell of these rows narrows 'for every input' (looked for: loops, veiled, ifaces, maps, wideKeys, modest, calm, conditions, laid).
  DERIVED. THE GIVEN ROWS OF THIS SEAT. 8 by the template 'for every input the law returns true; each argument reads behind the call as it read before'; 0 by the template 'total and deterministic' (their statements: YtdhcpoeopooejaaTotals.lean).
  GIVEN WITH THE SEED: the statements are not yours to turn. If you find one false, say at which input.
  Laid BY PROGRAM, IN A SANDBOX (cutbox-rows.mjs): the forced cells as the released guide's own fill.sh prints them over the translation 499f7660bb384f3a… (all of the seat's roots in one cut). By AI agents, Wed Nov 11 2026. No macro, syntax, notation, axiom, sorry.
-/
import Derived.Test.YtdhcpoeopooejaaChecked
import GoSem.Claim
import GoSem.ClaimJoined
import GoSem.ClaimMapViews
import Derived.JoinedTies
import Derived.KernelRfl
namespace Go.Proofs.Ytdhcpoeopooejaa
/- THE CELL 'sum', in the pinned program and in every row, IS THE sha256 OF THE DUMP (.gsa) THAT YtdhcpoeopooejaaProg.lean LOADS. Nothing in Lean hashes anything: it is a label: what it is worth is what the hold of that sum in a sandbox is worth. -/
noncomputable def Try.pinned : Pinned := { name := "ytdhcpoeopooejaa", sum := "499f7660bb384f3a8ea6cff19c73b88b34f5cb555f67b347063f839b3f525f28", checked := Try.checked }
namespace Rows
def none {H : Type} : Left H := { results := [], args := [] }

/-- 'laws.FnExactCycleWrites': WHATEVER THE INPUT: true; the input reads as it did. -/
def fnExactCycleWritesSpec : ChangeSpec := { name := "fnExactCycleWrites", fn := fun _ => fun
  | [d] => { results := [.lit (.bool true)], args := [d] }
  | _ => none }
def fnExactCycleWritesRow : OpenClaim := { program := "ytdhcpoeopooejaa", sum := "499f7660bb384f3a8ea6cff19c73b88b34f5cb555f67b347063f839b3f525f28", func := "loop.example/g00907/laws.FnExactCycleWrites", spec := "fnExactCycleWrites", unfollowed := true, recurses := true, apart := false }
def FnExactCycleWritesSaid : Prop := fnExactCycleWritesRow.holds Try.pinned (OpenSpec.ofChange fnExactCycleWritesSpec)

/-- ITS FALSE NEIGHBOUR: 'it returns false'. Refute it at one input. -/
def fnExactCycleWritesWrong : ChangeSpec := { name := "fnExactCycleWrites", fn := fun _ => fun
  | [d] => { results := [.lit (.bool false)], args := [d] }
  | _ => none }
def FnExactCycleWritesWrongFalsely : Prop := fnExactCycleWritesRow.holds Try.pinned (OpenSpec.ofChange fnExactCycleWritesWrong)

/-- 'laws.FnExactOrderClasses': WHATEVER THE INPUT: true; the input reads as it did. -/
def fnExactOrderClassesSpec : ChangeSpec := { name := "fnExactOrderClasses", fn := fun _ => fun
  | [d] => { results := [.lit (.bool true)], args := [d] }
  | _ => none }
def fnExactOrderClassesRow : OpenClaim := { program := "ytdhcpoeopooejaa", sum := "499f7660bb384f3a8ea6cff19c73b88b34f5cb555f67b347063f839b3f525f28", func := "loop.example/g00907/laws.FnExactOrderClasses", spec := "fnExactOrderClasses", unfollowed := true, recurses := true, apart := false }
def FnExactOrderClassesSaid : Prop := fnExactOrderClassesRow.holds Try.pinned (OpenSpec.ofChange fnExactOrderClassesSpec)

/-- ITS FALSE NEIGHBOUR: 'it returns false'. Refute it at one input. -/
def fnExactOrderClassesWrong : ChangeSpec := { name := "fnExactOrderClasses", fn := fun _ => fun
  | [d] => { results := [.lit (.bool false)], args := [d] }
  | _ => none }
def FnExactOrderClassesWrongFalsely : Prop := fnExactOrderClassesRow.holds Try.pinned (OpenSpec.ofChange fnExactOrderClassesWrong)

/-- 'laws.FnExactSortingPermutation': WHATEVER THE INPUT: true; the input reads as it did. -/
def fnExactSortingPermutationSpec : ChangeSpec := { name := "fnExactSortingPermutation", fn := fun _ => fun
  | [d] => { results := [.lit (.bool true)], args := [d] }
  | _ => none }
def fnExactSortingPermutationRow : OpenClaim := { program := "ytdhcpoeopooejaa", sum := "499f7660bb384f3a8ea6cff19c73b88b34f5cb555f67b347063f839b3f525f28", func := "loop.example/g00907/laws.FnExactSortingPermutation", spec := "fnExactSortingPermutation", unfollowed := true, recurses := true, apart := false }
def FnExactSortingPermutationSaid : Prop := fnExactSortingPermutationRow.holds Try.pinned (OpenSpec.ofChange fnExactSortingPermutationSpec)

/-- ITS FALSE NEIGHBOUR: 'it returns false'. Refute it at one input. -/
def fnExactSortingPermutationWrong : ChangeSpec := { name := "fnExactSortingPermutation", fn := fun _ => fun
  | [d] => { results := [.lit (.bool false)], args := [d] }
  | _ => none }
def FnExactSortingPermutationWrongFalsely : Prop := fnExactSortingPermutationRow.holds Try.pinned (OpenSpec.ofChange fnExactSortingPermutationWrong)

/-- 'laws.FnExactStableSort': WHATEVER THE INPUT: true; the input reads as it did. -/
def fnExactStableSortSpec : ChangeSpec := { name := "fnExactStableSort", fn := fun _ => fun
  | [d] => { results := [.lit (.bool true)], args := [d] }
  | _ => none }
def fnExactStableSortRow : OpenClaim := { program := "ytdhcpoeopooejaa", sum := "499f7660bb384f3a8ea6cff19c73b88b34f5cb555f67b347063f839b3f525f28", func := "loop.example/g00907/laws.FnExactStableSort", spec := "fnExactStableSort", unfollowed := true, recurses := true, apart := false }
def FnExactStableSortSaid : Prop := fnExactStableSortRow.holds Try.pinned (OpenSpec.ofChange fnExactStableSortSpec)

/-- ITS FALSE NEIGHBOUR: 'it returns false'. Refute it at one input. -/
def fnExactStableSortWrong : ChangeSpec := { name := "fnExactStableSort", fn := fun _ => fun
  | [d] => { results := [.lit (.bool false)], args := [d] }
  | _ => none }
def FnExactStableSortWrongFalsely : Prop := fnExactStableSortRow.holds Try.pinned (OpenSpec.ofChange fnExactStableSortWrong)

/-- 'laws.FnExactAdaptiveSort': WHATEVER THE INPUT: true; the input reads as it did. -/
def fnExactAdaptiveSortSpec : ChangeSpec := { name := "fnExactAdaptiveSort", fn := fun _ => fun
  | [d] => { results := [.lit (.bool true)], args := [d] }
  | _ => none }
def fnExactAdaptiveSortRow : OpenClaim := { program := "ytdhcpoeopooejaa", sum := "499f7660bb384f3a8ea6cff19c73b88b34f5cb555f67b347063f839b3f525f28", func := "loop.example/g00907/laws.FnExactAdaptiveSort", spec := "fnExactAdaptiveSort", unfollowed := true, recurses := true, apart := false }
def FnExactAdaptiveSortSaid : Prop := fnExactAdaptiveSortRow.holds Try.pinned (OpenSpec.ofChange fnExactAdaptiveSortSpec)

/-- ITS FALSE NEIGHBOUR: 'it returns false'. Refute it at one input. -/
def fnExactAdaptiveSortWrong : ChangeSpec := { name := "fnExactAdaptiveSort", fn := fun _ => fun
  | [d] => { results := [.lit (.bool false)], args := [d] }
  | _ => none }
def FnExactAdaptiveSortWrongFalsely : Prop := fnExactAdaptiveSortRow.holds Try.pinned (OpenSpec.ofChange fnExactAdaptiveSortWrong)

/-- 'laws.FnOrders': WHATEVER THE INPUT: true; the input reads as it did. -/
def fnOrdersSpec : ChangeSpec := { name := "fnOrders", fn := fun _ => fun
  | [d] => { results := [.lit (.bool true)], args := [d] }
  | _ => none }
def fnOrdersRow : OpenClaim := { program := "ytdhcpoeopooejaa", sum := "499f7660bb384f3a8ea6cff19c73b88b34f5cb555f67b347063f839b3f525f28", func := "loop.example/g00907/laws.FnOrders", spec := "fnOrders", unfollowed := true, recurses := true, apart := false }
def FnOrdersSaid : Prop := fnOrdersRow.holds Try.pinned (OpenSpec.ofChange fnOrdersSpec)

/-- ITS FALSE NEIGHBOUR: 'it returns false'. Refute it at one input. -/
def fnOrdersWrong : ChangeSpec := { name := "fnOrders", fn := fun _ => fun
  | [d] => { results := [.lit (.bool false)], args := [d] }
  | _ => none }
def FnOrdersWrongFalsely : Prop := fnOrdersRow.holds Try.pinned (OpenSpec.ofChange fnOrdersWrong)

/-- 'laws.FnSorting': WHATEVER THE INPUT: true; the input reads as it did. -/
def fnSortingSpec : ChangeSpec := { name := "fnSorting", fn := fun _ => fun
  | [d] => { results := [.lit (.bool true)], args := [d] }
  | _ => none }
def fnSortingRow : OpenClaim := { program := "ytdhcpoeopooejaa", sum := "499f7660bb384f3a8ea6cff19c73b88b34f5cb555f67b347063f839b3f525f28", func := "loop.example/g00907/laws.FnSorting", spec := "fnSorting", unfollowed := true, recurses := true, apart := false }
def FnSortingSaid : Prop := fnSortingRow.holds Try.pinned (OpenSpec.ofChange fnSortingSpec)

/-- ITS FALSE NEIGHBOUR: 'it returns false'. Refute it at one input. -/
def fnSortingWrong : ChangeSpec := { name := "fnSorting", fn := fun _ => fun
  | [d] => { results := [.lit (.bool false)], args := [d] }
  | _ => none }
def FnSortingWrongFalsely : Prop := fnSortingRow.holds Try.pinned (OpenSpec.ofChange fnSortingWrong)

/-- 'laws.FnExchanges': WHATEVER THE INPUT: true; the input reads as it did. -/
def fnExchangesSpec : ChangeSpec := { name := "fnExchanges", fn := fun _ => fun
  | [d] => { results := [.lit (.bool true)], args := [d] }
  | _ => none }
def fnExchangesRow : OpenClaim := { program := "ytdhcpoeopooejaa", sum := "499f7660bb384f3a8ea6cff19c73b88b34f5cb555f67b347063f839b3f525f28", func := "loop.example/g00907/laws.FnExchanges", spec := "fnExchanges", unfollowed := true, recurses := true, apart := false }
def FnExchangesSaid : Prop := fnExchangesRow.holds Try.pinned (OpenSpec.ofChange fnExchangesSpec)

/-- ITS FALSE NEIGHBOUR: 'it returns false'. Refute it at one input. -/
def fnExchangesWrong : ChangeSpec := { name := "fnExchanges", fn := fun _ => fun
  | [d] => { results := [.lit (.bool false)], args := [d] }
  | _ => none }
def FnExchangesWrongFalsely : Prop := fnExchangesRow.holds Try.pinned (OpenSpec.ofChange fnExchangesWrong)

/- THE SECOND FORM. 'bulk': how many values and letters a reading holds, each counted each time it is reached (what is shared counts as often as it is met; a slice's spare places count too). A statement '..UptoSaid' is the law's where the arguments, and the package variables that the reading takes, are together of bulk at most 1048576: NARROWER than '..Said'. Prove '..Said' where nothing that the law and all that it calls make is longer than what came in: it says more and counts as full. Else prove '..UptoSaid'. A law counts once. -/
mutual
def uptoBulk {H : Type} : DataW H → Nat
  | .lit (.string bytes) => bytes.length + 1
  | .lit _ => 1
  | .nil => 1
  | .ptr d => uptoBulk d + 1
  | .slice elems spare => uptoBulkAll elems + uptoBulkAll spare + 1
  | .agg parts => uptoBulkAll parts + 1
  | .iface _ d => uptoBulk d + 1
  | .map entries => uptoBulkEntries entries + 1
  | .held _ => 1
def uptoBulkAll {H : Type} : List (DataW H) → Nat
  | [] => 0
  | d :: r => uptoBulk d + uptoBulkAll r
def uptoBulkEntries {H : Type} : List (Lit × DataW H) → Nat
  | [] => 0
  | x :: r => uptoBulkEntry x + uptoBulkEntries r
def uptoBulkEntry {H : Type} : Lit × DataW H → Nat
  | (.string bytes, d) => bytes.length + uptoBulk d + 1
  | (_, d) => uptoBulk d + 1
 end
def uptoSmall : (H : Type) → List (DataW H) → Bool := fun _ ds => decide (uptoBulkAll ds ≤ 1048576)
def OpenSpec.upto (s : _root_.Go.ChangeSpec) : _root_.Go.OpenSpec := { _root_.Go.OpenSpec.ofChange s with cond := some uptoSmall }

/-- 'laws.FnExactCycleWrites', WHERE WHAT IT READS IS OF BULK AT MOST 1048576: true; the input reads as it did. -/
def fnExactCycleWritesUptoRow : OpenClaim := { program := "ytdhcpoeopooejaa", sum := "499f7660bb384f3a8ea6cff19c73b88b34f5cb555f67b347063f839b3f525f28", func := "loop.example/g00907/laws.FnExactCycleWrites", spec := "fnExactCycleWrites", unfollowed := true, recurses := true, apart := false, narrowed := true }
def FnExactCycleWritesUptoSaid : Prop := fnExactCycleWritesUptoRow.holds Try.pinned (OpenSpec.upto fnExactCycleWritesSpec)

/-- 'laws.FnExactOrderClasses', WHERE WHAT IT READS IS OF BULK AT MOST 1048576: true; the input reads as it did. -/
def fnExactOrderClassesUptoRow : OpenClaim := { program := "ytdhcpoeopooejaa", sum := "499f7660bb384f3a8ea6cff19c73b88b34f5cb555f67b347063f839b3f525f28", func := "loop.example/g00907/laws.FnExactOrderClasses", spec := "fnExactOrderClasses", unfollowed := true, recurses := true, apart := false, narrowed := true }
def FnExactOrderClassesUptoSaid : Prop := fnExactOrderClassesUptoRow.holds Try.pinned (OpenSpec.upto fnExactOrderClassesSpec)

/-- 'laws.FnExactSortingPermutation', WHERE WHAT IT READS IS OF BULK AT MOST 1048576: true; the input reads as it did. -/
def fnExactSortingPermutationUptoRow : OpenClaim := { program := "ytdhcpoeopooejaa", sum := "499f7660bb384f3a8ea6cff19c73b88b34f5cb555f67b347063f839b3f525f28", func := "loop.example/g00907/laws.FnExactSortingPermutation", spec := "fnExactSortingPermutation", unfollowed := true, recurses := true, apart := false, narrowed := true }
def FnExactSortingPermutationUptoSaid : Prop := fnExactSortingPermutationUptoRow.holds Try.pinned (OpenSpec.upto fnExactSortingPermutationSpec)

/-- 'laws.FnExactStableSort', WHERE WHAT IT READS IS OF BULK AT MOST 1048576: true; the input reads as it did. -/
def fnExactStableSortUptoRow : OpenClaim := { program := "ytdhcpoeopooejaa", sum := "499f7660bb384f3a8ea6cff19c73b88b34f5cb555f67b347063f839b3f525f28", func := "loop.example/g00907/laws.FnExactStableSort", spec := "fnExactStableSort", unfollowed := true, recurses := true, apart := false, narrowed := true }
def FnExactStableSortUptoSaid : Prop := fnExactStableSortUptoRow.holds Try.pinned (OpenSpec.upto fnExactStableSortSpec)

/-- 'laws.FnExactAdaptiveSort', WHERE WHAT IT READS IS OF BULK AT MOST 1048576: true; the input reads as it did. -/
def fnExactAdaptiveSortUptoRow : OpenClaim := { program := "ytdhcpoeopooejaa", sum := "499f7660bb384f3a8ea6cff19c73b88b34f5cb555f67b347063f839b3f525f28", func := "loop.example/g00907/laws.FnExactAdaptiveSort", spec := "fnExactAdaptiveSort", unfollowed := true, recurses := true, apart := false, narrowed := true }
def FnExactAdaptiveSortUptoSaid : Prop := fnExactAdaptiveSortUptoRow.holds Try.pinned (OpenSpec.upto fnExactAdaptiveSortSpec)

/-- 'laws.FnOrders', WHERE WHAT IT READS IS OF BULK AT MOST 1048576: true; the input reads as it did. -/
def fnOrdersUptoRow : OpenClaim := { program := "ytdhcpoeopooejaa", sum := "499f7660bb384f3a8ea6cff19c73b88b34f5cb555f67b347063f839b3f525f28", func := "loop.example/g00907/laws.FnOrders", spec := "fnOrders", unfollowed := true, recurses := true, apart := false, narrowed := true }
def FnOrdersUptoSaid : Prop := fnOrdersUptoRow.holds Try.pinned (OpenSpec.upto fnOrdersSpec)

/-- 'laws.FnSorting', WHERE WHAT IT READS IS OF BULK AT MOST 1048576: true; the input reads as it did. -/
def fnSortingUptoRow : OpenClaim := { program := "ytdhcpoeopooejaa", sum := "499f7660bb384f3a8ea6cff19c73b88b34f5cb555f67b347063f839b3f525f28", func := "loop.example/g00907/laws.FnSorting", spec := "fnSorting", unfollowed := true, recurses := true, apart := false, narrowed := true }
def FnSortingUptoSaid : Prop := fnSortingUptoRow.holds Try.pinned (OpenSpec.upto fnSortingSpec)

/-- 'laws.FnExchanges', WHERE WHAT IT READS IS OF BULK AT MOST 1048576: true; the input reads as it did. -/
def fnExchangesUptoRow : OpenClaim := { program := "ytdhcpoeopooejaa", sum := "499f7660bb384f3a8ea6cff19c73b88b34f5cb555f67b347063f839b3f525f28", func := "loop.example/g00907/laws.FnExchanges", spec := "fnExchanges", unfollowed := true, recurses := true, apart := false, narrowed := true }
def FnExchangesUptoSaid : Prop := fnExchangesUptoRow.holds Try.pinned (OpenSpec.upto fnExchangesSpec)

end Rows
end Go.Proofs.Ytdhcpoeopooejaa
