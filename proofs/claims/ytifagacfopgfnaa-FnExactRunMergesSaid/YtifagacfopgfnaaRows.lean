/-
  No cell of these rows narrows 'for every input' (looked for: loops, veiled, ifaces, maps, wideKeys, modest, calm, conditions, laid).
  DERIVED. THE GIVEN ROWS OF THIS SEAT. 7 by the template 'for every input the law returns true; each argument reads behind the call as it read before'; 0 by the template 'total and deterministic' (their statements: YtifagacfopgfnaaTotals.lean).
  GIVEN WITH THE SEED: the statements are not yours to turn. If you find one false, say at which input.
  Laid BY PROGRAM, IN A SANDBOX (cutbox-rows.mjs): the forced cells as the released guide's own fill.sh prints them over the translation b4a9e169bf251408… (all of the seat's roots in one cut). By AI agents, Wed Nov 11 2026. No macro, syntax, notation, axiom, sorry.
-/
import Derived.Test.YtifagacfopgfnaaChecked
import GoSem.Claim
import GoSem.ClaimJoined
import GoSem.ClaimMapViews
import Derived.JoinedTies
import Derived.KernelRfl
namespace Go.Proofs.Ytifagacfopgfnaa
/- THE CELL 'sum', in the pinned program and in every row, IS THE sha256 OF THE DUMP (.gsa) THAT YtifagacfopgfnaaProg.lean LOADS. Nothing in Lean hashes anything: it is a label: what it is worth is what the hold of that sum in a sandbox is worth. -/
noncomputable def Try.pinned : Pinned := { name := "ytifagacfopgfnaa", sum := "b4a9e169bf2514086f3abeab7a93a2432e0165a5f424c10427adc950e3644867", checked := Try.checked }
namespace Rows
def none {H : Type} : Left H := { results := [], args := [] }

/-- 'laws.FnExactRunMerges': WHATEVER THE INPUT: true; the input reads as it did. -/
def fnExactRunMergesSpec : ChangeSpec := { name := "fnExactRunMerges", fn := fun _ => fun
  | [d] => { results := [.lit (.bool true)], args := [d] }
  | _ => none }
def fnExactRunMergesRow : OpenClaim := { program := "ytifagacfopgfnaa", sum := "b4a9e169bf2514086f3abeab7a93a2432e0165a5f424c10427adc950e3644867", func := "loop.example/g00907/laws.FnExactRunMerges", spec := "fnExactRunMerges", unfollowed := true, recurses := true, apart := false }
def FnExactRunMergesSaid : Prop := fnExactRunMergesRow.holds Try.pinned (OpenSpec.ofChange fnExactRunMergesSpec)

/-- ITS FALSE NEIGHBOUR: 'it returns false'. Refute it at one input. -/
def fnExactRunMergesWrong : ChangeSpec := { name := "fnExactRunMerges", fn := fun _ => fun
  | [d] => { results := [.lit (.bool false)], args := [d] }
  | _ => none }
def FnExactRunMergesWrongFalsely : Prop := fnExactRunMergesRow.holds Try.pinned (OpenSpec.ofChange fnExactRunMergesWrong)

/-- 'laws.FnExactOrderDefect': WHATEVER THE INPUT: true; the input reads as it did. -/
def fnExactOrderDefectSpec : ChangeSpec := { name := "fnExactOrderDefect", fn := fun _ => fun
  | [d] => { results := [.lit (.bool true)], args := [d] }
  | _ => none }
def fnExactOrderDefectRow : OpenClaim := { program := "ytifagacfopgfnaa", sum := "b4a9e169bf2514086f3abeab7a93a2432e0165a5f424c10427adc950e3644867", func := "loop.example/g00907/laws.FnExactOrderDefect", spec := "fnExactOrderDefect", unfollowed := true, recurses := true, apart := false }
def FnExactOrderDefectSaid : Prop := fnExactOrderDefectRow.holds Try.pinned (OpenSpec.ofChange fnExactOrderDefectSpec)

/-- ITS FALSE NEIGHBOUR: 'it returns false'. Refute it at one input. -/
def fnExactOrderDefectWrong : ChangeSpec := { name := "fnExactOrderDefect", fn := fun _ => fun
  | [d] => { results := [.lit (.bool false)], args := [d] }
  | _ => none }
def FnExactOrderDefectWrongFalsely : Prop := fnExactOrderDefectRow.holds Try.pinned (OpenSpec.ofChange fnExactOrderDefectWrong)

/-- 'laws.FnExactOrderClasses': WHATEVER THE INPUT: true; the input reads as it did. -/
def fnExactOrderClassesSpec : ChangeSpec := { name := "fnExactOrderClasses", fn := fun _ => fun
  | [d] => { results := [.lit (.bool true)], args := [d] }
  | _ => none }
def fnExactOrderClassesRow : OpenClaim := { program := "ytifagacfopgfnaa", sum := "b4a9e169bf2514086f3abeab7a93a2432e0165a5f424c10427adc950e3644867", func := "loop.example/g00907/laws.FnExactOrderClasses", spec := "fnExactOrderClasses", unfollowed := true, recurses := true, apart := false }
def FnExactOrderClassesSaid : Prop := fnExactOrderClassesRow.holds Try.pinned (OpenSpec.ofChange fnExactOrderClassesSpec)

/-- ITS FALSE NEIGHBOUR: 'it returns false'. Refute it at one input. -/
def fnExactOrderClassesWrong : ChangeSpec := { name := "fnExactOrderClasses", fn := fun _ => fun
  | [d] => { results := [.lit (.bool false)], args := [d] }
  | _ => none }
def FnExactOrderClassesWrongFalsely : Prop := fnExactOrderClassesRow.holds Try.pinned (OpenSpec.ofChange fnExactOrderClassesWrong)

/-- 'laws.FnExactAdaptiveSort': WHATEVER THE INPUT: true; the input reads as it did. -/
def fnExactAdaptiveSortSpec : ChangeSpec := { name := "fnExactAdaptiveSort", fn := fun _ => fun
  | [d] => { results := [.lit (.bool true)], args := [d] }
  | _ => none }
def fnExactAdaptiveSortRow : OpenClaim := { program := "ytifagacfopgfnaa", sum := "b4a9e169bf2514086f3abeab7a93a2432e0165a5f424c10427adc950e3644867", func := "loop.example/g00907/laws.FnExactAdaptiveSort", spec := "fnExactAdaptiveSort", unfollowed := true, recurses := true, apart := false }
def FnExactAdaptiveSortSaid : Prop := fnExactAdaptiveSortRow.holds Try.pinned (OpenSpec.ofChange fnExactAdaptiveSortSpec)

/-- ITS FALSE NEIGHBOUR: 'it returns false'. Refute it at one input. -/
def fnExactAdaptiveSortWrong : ChangeSpec := { name := "fnExactAdaptiveSort", fn := fun _ => fun
  | [d] => { results := [.lit (.bool false)], args := [d] }
  | _ => none }
def FnExactAdaptiveSortWrongFalsely : Prop := fnExactAdaptiveSortRow.holds Try.pinned (OpenSpec.ofChange fnExactAdaptiveSortWrong)

/-- 'laws.FnExactSortingPermutation': WHATEVER THE INPUT: true; the input reads as it did. -/
def fnExactSortingPermutationSpec : ChangeSpec := { name := "fnExactSortingPermutation", fn := fun _ => fun
  | [d] => { results := [.lit (.bool true)], args := [d] }
  | _ => none }
def fnExactSortingPermutationRow : OpenClaim := { program := "ytifagacfopgfnaa", sum := "b4a9e169bf2514086f3abeab7a93a2432e0165a5f424c10427adc950e3644867", func := "loop.example/g00907/laws.FnExactSortingPermutation", spec := "fnExactSortingPermutation", unfollowed := true, recurses := true, apart := false }
def FnExactSortingPermutationSaid : Prop := fnExactSortingPermutationRow.holds Try.pinned (OpenSpec.ofChange fnExactSortingPermutationSpec)

/-- ITS FALSE NEIGHBOUR: 'it returns false'. Refute it at one input. -/
def fnExactSortingPermutationWrong : ChangeSpec := { name := "fnExactSortingPermutation", fn := fun _ => fun
  | [d] => { results := [.lit (.bool false)], args := [d] }
  | _ => none }
def FnExactSortingPermutationWrongFalsely : Prop := fnExactSortingPermutationRow.holds Try.pinned (OpenSpec.ofChange fnExactSortingPermutationWrong)

/-- 'laws.FnExactStableSort': WHATEVER THE INPUT: true; the input reads as it did. -/
def fnExactStableSortSpec : ChangeSpec := { name := "fnExactStableSort", fn := fun _ => fun
  | [d] => { results := [.lit (.bool true)], args := [d] }
  | _ => none }
def fnExactStableSortRow : OpenClaim := { program := "ytifagacfopgfnaa", sum := "b4a9e169bf2514086f3abeab7a93a2432e0165a5f424c10427adc950e3644867", func := "loop.example/g00907/laws.FnExactStableSort", spec := "fnExactStableSort", unfollowed := true, recurses := true, apart := false }
def FnExactStableSortSaid : Prop := fnExactStableSortRow.holds Try.pinned (OpenSpec.ofChange fnExactStableSortSpec)

/-- ITS FALSE NEIGHBOUR: 'it returns false'. Refute it at one input. -/
def fnExactStableSortWrong : ChangeSpec := { name := "fnExactStableSort", fn := fun _ => fun
  | [d] => { results := [.lit (.bool false)], args := [d] }
  | _ => none }
def FnExactStableSortWrongFalsely : Prop := fnExactStableSortRow.holds Try.pinned (OpenSpec.ofChange fnExactStableSortWrong)

/-- 'laws.FnExactCycleWrites': WHATEVER THE INPUT: true; the input reads as it did. -/
def fnExactCycleWritesSpec : ChangeSpec := { name := "fnExactCycleWrites", fn := fun _ => fun
  | [d] => { results := [.lit (.bool true)], args := [d] }
  | _ => none }
def fnExactCycleWritesRow : OpenClaim := { program := "ytifagacfopgfnaa", sum := "b4a9e169bf2514086f3abeab7a93a2432e0165a5f424c10427adc950e3644867", func := "loop.example/g00907/laws.FnExactCycleWrites", spec := "fnExactCycleWrites", unfollowed := true, recurses := true, apart := false }
def FnExactCycleWritesSaid : Prop := fnExactCycleWritesRow.holds Try.pinned (OpenSpec.ofChange fnExactCycleWritesSpec)

/-- ITS FALSE NEIGHBOUR: 'it returns false'. Refute it at one input. -/
def fnExactCycleWritesWrong : ChangeSpec := { name := "fnExactCycleWrites", fn := fun _ => fun
  | [d] => { results := [.lit (.bool false)], args := [d] }
  | _ => none }
def FnExactCycleWritesWrongFalsely : Prop := fnExactCycleWritesRow.holds Try.pinned (OpenSpec.ofChange fnExactCycleWritesWrong)

/- THE SECOND FORM. 'bulk': how many values and letters a reading holds, each counted each time it is reached (what is shared counts as often as it is met; a slice's spare places count too). A statement '..UptoSaid' is the law's where the arguments, and the package variables that the reading takes, are together of bulk at most 1048576: NARROWER than '..Said'. Prove '..Said' where nothing that the law and all that it calls make is longer than what came in: it says more and counts as full. Else prove '..UptoSaid'. A law counts once. -/
mutual
def uptoBulk {H : Type} : DataW H → Nat
  | .lit (.string bytes) => bytes.length + 1
  | .lit _ => 1
  | .nil => 1
  | .ptr d => uptoBulk d + 1
  | .slice elems spare => uptoBulkAll elems + uptoBulkAll spare + 1
  | .agg parts => uptoBulkAll parts + 1
  | .iface _ d => uptoBulk d + 1
  | .map entries => uptoBulkEntries entries + 1
  | .held _ => 1
def uptoBulkAll {H : Type} : List (DataW H) → Nat
  | [] => 0
  | d :: r => uptoBulk d + uptoBulkAll r
def uptoBulkEntries {H : Type} : List (Lit × DataW H) → Nat
  | [] => 0
  | x :: r => uptoBulkEntry x + uptoBulkEntries r
def uptoBulkEntry {H : Type} : Lit × DataW H → Nat
  | (.string bytes, d) => bytes.length + uptoBulk d + 1
  | (_, d) => uptoBulk d + 1
 end
def uptoSmall : (H : Type) → List (DataW H) → Bool := fun _ ds => decide (uptoBulkAll ds ≤ 1048576)
def OpenSpec.upto (s : _root_.Go.ChangeSpec) : _root_.Go.OpenSpec := { _root_.Go.OpenSpec.ofChange s with cond := some uptoSmall }

/-- 'laws.FnExactRunMerges', WHERE WHAT IT READS IS OF BULK AT MOST 1048576: true; the input reads as it did. -/
def fnExactRunMergesUptoRow : OpenClaim := { program := "ytifagacfopgfnaa", sum := "b4a9e169bf2514086f3abeab7a93a2432e0165a5f424c10427adc950e3644867", func := "loop.example/g00907/laws.FnExactRunMerges", spec := "fnExactRunMerges", unfollowed := true, recurses := true, apart := false, narrowed := true }
def FnExactRunMergesUptoSaid : Prop := fnExactRunMergesUptoRow.holds Try.pinned (OpenSpec.upto fnExactRunMergesSpec)

/-- 'laws.FnExactOrderDefect', WHERE WHAT IT READS IS OF BULK AT MOST 1048576: true; the input reads as it did. -/
def fnExactOrderDefectUptoRow : OpenClaim := { program := "ytifagacfopgfnaa", sum := "b4a9e169bf2514086f3abeab7a93a2432e0165a5f424c10427adc950e3644867", func := "loop.example/g00907/laws.FnExactOrderDefect", spec := "fnExactOrderDefect", unfollowed := true, recurses := true, apart := false, narrowed := true }
def FnExactOrderDefectUptoSaid : Prop := fnExactOrderDefectUptoRow.holds Try.pinned (OpenSpec.upto fnExactOrderDefectSpec)

/-- 'laws.FnExactOrderClasses', WHERE WHAT IT READS IS OF BULK AT MOST 1048576: true; the input reads as it did. -/
def fnExactOrderClassesUptoRow : OpenClaim := { program := "ytifagacfopgfnaa", sum := "b4a9e169bf2514086f3abeab7a93a2432e0165a5f424c10427adc950e3644867", func := "loop.example/g00907/laws.FnExactOrderClasses", spec := "fnExactOrderClasses", unfollowed := true, recurses := true, apart := false, narrowed := true }
def FnExactOrderClassesUptoSaid : Prop := fnExactOrderClassesUptoRow.holds Try.pinned (OpenSpec.upto fnExactOrderClassesSpec)

/-- 'laws.FnExactAdaptiveSort', WHERE WHAT IT READS IS OF BULK AT MOST 1048576: true; the input reads as it did. -/
def fnExactAdaptiveSortUptoRow : OpenClaim := { program := "ytifagacfopgfnaa", sum := "b4a9e169bf2514086f3abeab7a93a2432e0165a5f424c10427adc950e3644867", func := "loop.example/g00907/laws.FnExactAdaptiveSort", spec := "fnExactAdaptiveSort", unfollowed := true, recurses := true, apart := false, narrowed := true }
def FnExactAdaptiveSortUptoSaid : Prop := fnExactAdaptiveSortUptoRow.holds Try.pinned (OpenSpec.upto fnExactAdaptiveSortSpec)

/-- 'laws.FnExactSortingPermutation', WHERE WHAT IT READS IS OF BULK AT MOST 1048576: true; the input reads as it did. -/
def fnExactSortingPermutationUptoRow : OpenClaim := { program := "ytifagacfopgfnaa", sum := "b4a9e169bf2514086f3abeab7a93a2432e0165a5f424c10427adc950e3644867", func := "loop.example/g00907/laws.FnExactSortingPermutation", spec := "fnExactSortingPermutation", unfollowed := true, recurses := true, apart := false, narrowed := true }
def FnExactSortingPermutationUptoSaid : Prop := fnExactSortingPermutationUptoRow.holds Try.pinned (OpenSpec.upto fnExactSortingPermutationSpec)

/-- 'laws.FnExactStableSort', WHERE WHAT IT READS IS OF BULK AT MOST 1048576: true; the input reads as it did. -/
def fnExactStableSortUptoRow : OpenClaim := { program := "ytifagacfopgfnaa", sum := "b4a9e169bf2514086f3abeab7a93a2432e0165a5f424c10427adc950e3644867", func := "loop.example/g00907/laws.FnExactStableSort", spec := "fnExactStableSort", unfollowed := true, recurses := true, apart := false, narrowed := true }
def FnExactStableSortUptoSaid : Prop := fnExactStableSortUptoRow.holds Try.pinned (OpenSpec.upto fnExactStableSortSpec)

/-- 'laws.FnExactCycleWrites', WHERE WHAT IT READS IS OF BULK AT MOST 1048576: true; the input reads as it did. -/
def fnExactCycleWritesUptoRow : OpenClaim := { program := "ytifagacfopgfnaa", sum := "b4a9e169bf2514086f3abeab7a93a2432e0165a5f424c10427adc950e3644867", func := "loop.example/g00907/laws.FnExactCycleWrites", spec := "fnExactCycleWrites", unfollowed := true, recurses := true, apart := false, narrowed := true }
def FnExactCycleWritesUptoSaid : Prop := fnExactCycleWritesUptoRow.holds Try.pinned (OpenSpec.upto fnExactCycleWritesSpec)

end Rows
end Go.Proofs.Ytifagacfopgfnaa
