/-
  No cell of these rows narrows 'for every input' (looked for: loops, veiled, ifaces, maps, wideKeys, modest, calm, conditions, laid).
  DERIVED. THE GIVEN ROWS OF THIS SEAT. 12 by the template 'for every input the law returns true; each argument reads behind the call as it read before'; 0 by the template 'total and deterministic' (their statements: YtdcnhkooflaphaaTotals.lean).
  GIVEN WITH THE SEED: the statements are not yours to turn. If you find one false, say at which input.
  Laid BY PROGRAM, IN A SANDBOX (cutbox-rows.mjs): the forced cells as the released guide's own fill.sh prints them over the translation d9187297229d9d08… (all of the seat's roots in one cut). By AI agents, Wed Nov 11 2026. No macro, syntax, notation, axiom, sorry.
-/
import Derived.Test.YtdcnhkooflaphaaChecked
import GoSem.Claim
import GoSem.ClaimJoined
import GoSem.ClaimMapViews
import Derived.JoinedTies
import Derived.KernelRfl
namespace Go.Proofs.Ytdcnhkooflaphaa
/- THE CELL 'sum', in the pinned program and in every row, IS THE sha256 OF THE DUMP (.gsa) THAT YtdcnhkooflaphaaProg.lean LOADS. Nothing in Lean hashes anything: it is a label: what it is worth is what the hold of that sum in a sandbox is worth. -/
noncomputable def Try.pinned : Pinned := { name := "ytdcnhkooflaphaa", sum := "d9187297229d9d0861570b68b950676a10f282be30efa8014434ad34fcd4eeeb", checked := Try.checked }
namespace Rows
def none {H : Type} : Left H := { results := [], args := [] }

/-- 'laws.FnExactConstants': WHATEVER THE INPUT: true; the input reads as it did. -/
def fnExactConstantsSpec : ChangeSpec := { name := "fnExactConstants", fn := fun _ => fun
  | [] => { results := [.lit (.bool true)], args := [] }
  | _ => none }
def fnExactConstantsRow : OpenClaim := { program := "ytdcnhkooflaphaa", sum := "d9187297229d9d0861570b68b950676a10f282be30efa8014434ad34fcd4eeeb", func := "loop.example/g00907/laws.FnExactConstants", spec := "fnExactConstants", apart := false }
def FnExactConstantsSaid : Prop := fnExactConstantsRow.holds Try.pinned (OpenSpec.ofChange fnExactConstantsSpec)

/-- ITS FALSE NEIGHBOUR: 'it returns false'. Refute it at one input. -/
def fnExactConstantsWrong : ChangeSpec := { name := "fnExactConstants", fn := fun _ => fun
  | [] => { results := [.lit (.bool false)], args := [] }
  | _ => none }
def FnExactConstantsWrongFalsely : Prop := fnExactConstantsRow.holds Try.pinned (OpenSpec.ofChange fnExactConstantsWrong)

/-- 'laws.FnExactLessString': WHATEVER THE INPUT: true; the input reads as it did. -/
def fnExactLessStringSpec : ChangeSpec := { name := "fnExactLessString", fn := fun _ => fun
  | [d1, d2] => { results := [.lit (.bool true)], args := [d1, d2] }
  | _ => none }
def fnExactLessStringRow : OpenClaim := { program := "ytdcnhkooflaphaa", sum := "d9187297229d9d0861570b68b950676a10f282be30efa8014434ad34fcd4eeeb", func := "loop.example/g00907/laws.FnExactLessString", spec := "fnExactLessString", apart := false }
def FnExactLessStringSaid : Prop := fnExactLessStringRow.holds Try.pinned (OpenSpec.ofChange fnExactLessStringSpec)

/-- ITS FALSE NEIGHBOUR: 'it returns false'. Refute it at one input. -/
def fnExactLessStringWrong : ChangeSpec := { name := "fnExactLessString", fn := fun _ => fun
  | [d1, d2] => { results := [.lit (.bool false)], args := [d1, d2] }
  | _ => none }
def FnExactLessStringWrongFalsely : Prop := fnExactLessStringRow.holds Try.pinned (OpenSpec.ofChange fnExactLessStringWrong)

/-- 'laws.FnExactChecksum': WHATEVER THE INPUT: true; the input reads as it did. -/
def fnExactChecksumSpec : ChangeSpec := { name := "fnExactChecksum", fn := fun _ => fun
  | [d] => { results := [.lit (.bool true)], args := [d] }
  | _ => none }
def fnExactChecksumRow : OpenClaim := { program := "ytdcnhkooflaphaa", sum := "d9187297229d9d0861570b68b950676a10f282be30efa8014434ad34fcd4eeeb", func := "loop.example/g00907/laws.FnExactChecksum", spec := "fnExactChecksum", apart := false }
def FnExactChecksumSaid : Prop := fnExactChecksumRow.holds Try.pinned (OpenSpec.ofChange fnExactChecksumSpec)

/-- ITS FALSE NEIGHBOUR: 'it returns false'. Refute it at one input. -/
def fnExactChecksumWrong : ChangeSpec := { name := "fnExactChecksum", fn := fun _ => fun
  | [d] => { results := [.lit (.bool false)], args := [d] }
  | _ => none }
def FnExactChecksumWrongFalsely : Prop := fnExactChecksumRow.holds Try.pinned (OpenSpec.ofChange fnExactChecksumWrong)

/-- 'laws.FnExactHeapDepth': WHATEVER THE INPUT: true; the input reads as it did. -/
def fnExactHeapDepthSpec : ChangeSpec := { name := "fnExactHeapDepth", fn := fun _ => fun
  | [d1, d2] => { results := [.lit (.bool true)], args := [d1, d2] }
  | _ => none }
def fnExactHeapDepthRow : OpenClaim := { program := "ytdcnhkooflaphaa", sum := "d9187297229d9d0861570b68b950676a10f282be30efa8014434ad34fcd4eeeb", func := "loop.example/g00907/laws.FnExactHeapDepth", spec := "fnExactHeapDepth", apart := false }
def FnExactHeapDepthSaid : Prop := fnExactHeapDepthRow.holds Try.pinned (OpenSpec.ofChange fnExactHeapDepthSpec)

/-- ITS FALSE NEIGHBOUR: 'it returns false'. Refute it at one input. -/
def fnExactHeapDepthWrong : ChangeSpec := { name := "fnExactHeapDepth", fn := fun _ => fun
  | [d1, d2] => { results := [.lit (.bool false)], args := [d1, d2] }
  | _ => none }
def FnExactHeapDepthWrongFalsely : Prop := fnExactHeapDepthRow.holds Try.pinned (OpenSpec.ofChange fnExactHeapDepthWrong)

/-- 'laws.FnExactIsValidList': WHATEVER THE INPUT: true; the input reads as it did. -/
def fnExactIsValidListSpec : ChangeSpec := { name := "fnExactIsValidList", fn := fun _ => fun
  | [d] => { results := [.lit (.bool true)], args := [d] }
  | _ => none }
def fnExactIsValidListRow : OpenClaim := { program := "ytdcnhkooflaphaa", sum := "d9187297229d9d0861570b68b950676a10f282be30efa8014434ad34fcd4eeeb", func := "loop.example/g00907/laws.FnExactIsValidList", spec := "fnExactIsValidList", unfollowed := true, recurses := true, apart := false }
def FnExactIsValidListSaid : Prop := fnExactIsValidListRow.holds Try.pinned (OpenSpec.ofChange fnExactIsValidListSpec)

/-- ITS FALSE NEIGHBOUR: 'it returns false'. Refute it at one input. -/
def fnExactIsValidListWrong : ChangeSpec := { name := "fnExactIsValidList", fn := fun _ => fun
  | [d] => { results := [.lit (.bool false)], args := [d] }
  | _ => none }
def FnExactIsValidListWrongFalsely : Prop := fnExactIsValidListRow.holds Try.pinned (OpenSpec.ofChange fnExactIsValidListWrong)

/-- 'laws.FnExactIsValidPermutation': WHATEVER THE INPUT: true; the input reads as it did. -/
def fnExactIsValidPermutationSpec : ChangeSpec := { name := "fnExactIsValidPermutation", fn := fun _ => fun
  | [d] => { results := [.lit (.bool true)], args := [d] }
  | _ => none }
def fnExactIsValidPermutationRow : OpenClaim := { program := "ytdcnhkooflaphaa", sum := "d9187297229d9d0861570b68b950676a10f282be30efa8014434ad34fcd4eeeb", func := "loop.example/g00907/laws.FnExactIsValidPermutation", spec := "fnExactIsValidPermutation", apart := false }
def FnExactIsValidPermutationSaid : Prop := fnExactIsValidPermutationRow.holds Try.pinned (OpenSpec.ofChange fnExactIsValidPermutationSpec)

/-- ITS FALSE NEIGHBOUR: 'it returns false'. Refute it at one input. -/
def fnExactIsValidPermutationWrong : ChangeSpec := { name := "fnExactIsValidPermutation", fn := fun _ => fun
  | [d] => { results := [.lit (.bool false)], args := [d] }
  | _ => none }
def FnExactIsValidPermutationWrongFalsely : Prop := fnExactIsValidPermutationRow.holds Try.pinned (OpenSpec.ofChange fnExactIsValidPermutationWrong)

/-- 'laws.FnExactIsValidRecords': WHATEVER THE INPUT: true; the input reads as it did. -/
def fnExactIsValidRecordsSpec : ChangeSpec := { name := "fnExactIsValidRecords", fn := fun _ => fun
  | [d] => { results := [.lit (.bool true)], args := [d] }
  | _ => none }
def fnExactIsValidRecordsRow : OpenClaim := { program := "ytdcnhkooflaphaa", sum := "d9187297229d9d0861570b68b950676a10f282be30efa8014434ad34fcd4eeeb", func := "loop.example/g00907/laws.FnExactIsValidRecords", spec := "fnExactIsValidRecords", unfollowed := true, recurses := true, apart := false }
def FnExactIsValidRecordsSaid : Prop := fnExactIsValidRecordsRow.holds Try.pinned (OpenSpec.ofChange fnExactIsValidRecordsSpec)

/-- ITS FALSE NEIGHBOUR: 'it returns false'. Refute it at one input. -/
def fnExactIsValidRecordsWrong : ChangeSpec := { name := "fnExactIsValidRecords", fn := fun _ => fun
  | [d] => { results := [.lit (.bool false)], args := [d] }
  | _ => none }
def FnExactIsValidRecordsWrongFalsely : Prop := fnExactIsValidRecordsRow.holds Try.pinned (OpenSpec.ofChange fnExactIsValidRecordsWrong)

/-- 'laws.FnExactIsSorted': WHATEVER THE INPUT: true; the input reads as it did. -/
def fnExactIsSortedSpec : ChangeSpec := { name := "fnExactIsSorted", fn := fun _ => fun
  | [d] => { results := [.lit (.bool true)], args := [d] }
  | _ => none }
def fnExactIsSortedRow : OpenClaim := { program := "ytdcnhkooflaphaa", sum := "d9187297229d9d0861570b68b950676a10f282be30efa8014434ad34fcd4eeeb", func := "loop.example/g00907/laws.FnExactIsSorted", spec := "fnExactIsSorted", unfollowed := true, recurses := true, apart := false }
def FnExactIsSortedSaid : Prop := fnExactIsSortedRow.holds Try.pinned (OpenSpec.ofChange fnExactIsSortedSpec)

/-- ITS FALSE NEIGHBOUR: 'it returns false'. Refute it at one input. -/
def fnExactIsSortedWrong : ChangeSpec := { name := "fnExactIsSorted", fn := fun _ => fun
  | [d] => { results := [.lit (.bool false)], args := [d] }
  | _ => none }
def FnExactIsSortedWrongFalsely : Prop := fnExactIsSortedRow.holds Try.pinned (OpenSpec.ofChange fnExactIsSortedWrong)

/-- 'laws.FnExactIsHeap': WHATEVER THE INPUT: true; the input reads as it did. -/
def fnExactIsHeapSpec : ChangeSpec := { name := "fnExactIsHeap", fn := fun _ => fun
  | [d1, d2] => { results := [.lit (.bool true)], args := [d1, d2] }
  | _ => none }
def fnExactIsHeapRow : OpenClaim := { program := "ytdcnhkooflaphaa", sum := "d9187297229d9d0861570b68b950676a10f282be30efa8014434ad34fcd4eeeb", func := "loop.example/g00907/laws.FnExactIsHeap", spec := "fnExactIsHeap", unfollowed := true, recurses := true, apart := false }
def FnExactIsHeapSaid : Prop := fnExactIsHeapRow.holds Try.pinned (OpenSpec.ofChange fnExactIsHeapSpec)

/-- ITS FALSE NEIGHBOUR: 'it returns false'. Refute it at one input. -/
def fnExactIsHeapWrong : ChangeSpec := { name := "fnExactIsHeap", fn := fun _ => fun
  | [d1, d2] => { results := [.lit (.bool false)], args := [d1, d2] }
  | _ => none }
def FnExactIsHeapWrongFalsely : Prop := fnExactIsHeapRow.holds Try.pinned (OpenSpec.ofChange fnExactIsHeapWrong)

/-- 'laws.FnExactPermutationSign': WHATEVER THE INPUT: true; the input reads as it did. -/
def fnExactPermutationSignSpec : ChangeSpec := { name := "fnExactPermutationSign", fn := fun _ => fun
  | [d] => { results := [.lit (.bool true)], args := [d] }
  | _ => none }
def fnExactPermutationSignRow : OpenClaim := { program := "ytdcnhkooflaphaa", sum := "d9187297229d9d0861570b68b950676a10f282be30efa8014434ad34fcd4eeeb", func := "loop.example/g00907/laws.FnExactPermutationSign", spec := "fnExactPermutationSign", apart := false }
def FnExactPermutationSignSaid : Prop := fnExactPermutationSignRow.holds Try.pinned (OpenSpec.ofChange fnExactPermutationSignSpec)

/-- ITS FALSE NEIGHBOUR: 'it returns false'. Refute it at one input. -/
def fnExactPermutationSignWrong : ChangeSpec := { name := "fnExactPermutationSign", fn := fun _ => fun
  | [d] => { results := [.lit (.bool false)], args := [d] }
  | _ => none }
def FnExactPermutationSignWrongFalsely : Prop := fnExactPermutationSignRow.holds Try.pinned (OpenSpec.ofChange fnExactPermutationSignWrong)

/-- 'laws.FnExactComposePermutations': WHATEVER THE INPUT: true; the input reads as it did. -/
def fnExactComposePermutationsSpec : ChangeSpec := { name := "fnExactComposePermutations", fn := fun _ => fun
  | [d1, d2] => { results := [.lit (.bool true)], args := [d1, d2] }
  | _ => none }
def fnExactComposePermutationsRow : OpenClaim := { program := "ytdcnhkooflaphaa", sum := "d9187297229d9d0861570b68b950676a10f282be30efa8014434ad34fcd4eeeb", func := "loop.example/g00907/laws.FnExactComposePermutations", spec := "fnExactComposePermutations", apart := false }
def FnExactComposePermutationsSaid : Prop := fnExactComposePermutationsRow.holds Try.pinned (OpenSpec.ofChange fnExactComposePermutationsSpec)

/-- ITS FALSE NEIGHBOUR: 'it returns false'. Refute it at one input. -/
def fnExactComposePermutationsWrong : ChangeSpec := { name := "fnExactComposePermutations", fn := fun _ => fun
  | [d1, d2] => { results := [.lit (.bool false)], args := [d1, d2] }
  | _ => none }
def FnExactComposePermutationsWrongFalsely : Prop := fnExactComposePermutationsRow.holds Try.pinned (OpenSpec.ofChange fnExactComposePermutationsWrong)

/-- 'laws.FnExactInversePermutation': WHATEVER THE INPUT: true; the input reads as it did. -/
def fnExactInversePermutationSpec : ChangeSpec := { name := "fnExactInversePermutation", fn := fun _ => fun
  | [d] => { results := [.lit (.bool true)], args := [d] }
  | _ => none }
def fnExactInversePermutationRow : OpenClaim := { program := "ytdcnhkooflaphaa", sum := "d9187297229d9d0861570b68b950676a10f282be30efa8014434ad34fcd4eeeb", func := "loop.example/g00907/laws.FnExactInversePermutation", spec := "fnExactInversePermutation", apart := false }
def FnExactInversePermutationSaid : Prop := fnExactInversePermutationRow.holds Try.pinned (OpenSpec.ofChange fnExactInversePermutationSpec)

/-- ITS FALSE NEIGHBOUR: 'it returns false'. Refute it at one input. -/
def fnExactInversePermutationWrong : ChangeSpec := { name := "fnExactInversePermutation", fn := fun _ => fun
  | [d] => { results := [.lit (.bool false)], args := [d] }
  | _ => none }
def FnExactInversePermutationWrongFalsely : Prop := fnExactInversePermutationRow.holds Try.pinned (OpenSpec.ofChange fnExactInversePermutationWrong)

/- THE SECOND FORM. 'bulk': how many values and letters a reading holds, each counted each time it is reached (what is shared counts as often as it is met; a slice's spare places count too). A statement '..UptoSaid' is the law's where the arguments, and the package variables that the reading takes, are together of bulk at most 1048576: NARROWER than '..Said'. Prove '..Said' where nothing that the law and all that it calls make is longer than what came in: it says more and counts as full. Else prove '..UptoSaid'. A law counts once. -/
mutual
def uptoBulk {H : Type} : DataW H → Nat
  | .lit (.string bytes) => bytes.length + 1
  | .lit _ => 1
  | .nil => 1
  | .ptr d => uptoBulk d + 1
  | .slice elems spare => uptoBulkAll elems + uptoBulkAll spare + 1
  | .agg parts => uptoBulkAll parts + 1
  | .iface _ d => uptoBulk d + 1
  | .map entries => uptoBulkEntries entries + 1
  | .held _ => 1
def uptoBulkAll {H : Type} : List (DataW H) → Nat
  | [] => 0
  | d :: r => uptoBulk d + uptoBulkAll r
def uptoBulkEntries {H : Type} : List (Lit × DataW H) → Nat
  | [] => 0
  | x :: r => uptoBulkEntry x + uptoBulkEntries r
def uptoBulkEntry {H : Type} : Lit × DataW H → Nat
  | (.string bytes, d) => bytes.length + uptoBulk d + 1
  | (_, d) => uptoBulk d + 1
 end
def uptoSmall : (H : Type) → List (DataW H) → Bool := fun _ ds => decide (uptoBulkAll ds ≤ 1048576)
def OpenSpec.upto (s : _root_.Go.ChangeSpec) : _root_.Go.OpenSpec := { _root_.Go.OpenSpec.ofChange s with cond := some uptoSmall }

/-- 'laws.FnExactConstants', WHERE WHAT IT READS IS OF BULK AT MOST 1048576: true; the input reads as it did. -/
def fnExactConstantsUptoRow : OpenClaim := { program := "ytdcnhkooflaphaa", sum := "d9187297229d9d0861570b68b950676a10f282be30efa8014434ad34fcd4eeeb", func := "loop.example/g00907/laws.FnExactConstants", spec := "fnExactConstants", apart := false, narrowed := true }
def FnExactConstantsUptoSaid : Prop := fnExactConstantsUptoRow.holds Try.pinned (OpenSpec.upto fnExactConstantsSpec)

/-- 'laws.FnExactLessString', WHERE WHAT IT READS IS OF BULK AT MOST 1048576: true; the input reads as it did. -/
def fnExactLessStringUptoRow : OpenClaim := { program := "ytdcnhkooflaphaa", sum := "d9187297229d9d0861570b68b950676a10f282be30efa8014434ad34fcd4eeeb", func := "loop.example/g00907/laws.FnExactLessString", spec := "fnExactLessString", apart := false, narrowed := true }
def FnExactLessStringUptoSaid : Prop := fnExactLessStringUptoRow.holds Try.pinned (OpenSpec.upto fnExactLessStringSpec)

/-- 'laws.FnExactChecksum', WHERE WHAT IT READS IS OF BULK AT MOST 1048576: true; the input reads as it did. -/
def fnExactChecksumUptoRow : OpenClaim := { program := "ytdcnhkooflaphaa", sum := "d9187297229d9d0861570b68b950676a10f282be30efa8014434ad34fcd4eeeb", func := "loop.example/g00907/laws.FnExactChecksum", spec := "fnExactChecksum", apart := false, narrowed := true }
def FnExactChecksumUptoSaid : Prop := fnExactChecksumUptoRow.holds Try.pinned (OpenSpec.upto fnExactChecksumSpec)

/-- 'laws.FnExactHeapDepth', WHERE WHAT IT READS IS OF BULK AT MOST 1048576: true; the input reads as it did. -/
def fnExactHeapDepthUptoRow : OpenClaim := { program := "ytdcnhkooflaphaa", sum := "d9187297229d9d0861570b68b950676a10f282be30efa8014434ad34fcd4eeeb", func := "loop.example/g00907/laws.FnExactHeapDepth", spec := "fnExactHeapDepth", apart := false, narrowed := true }
def FnExactHeapDepthUptoSaid : Prop := fnExactHeapDepthUptoRow.holds Try.pinned (OpenSpec.upto fnExactHeapDepthSpec)

/-- 'laws.FnExactIsValidList', WHERE WHAT IT READS IS OF BULK AT MOST 1048576: true; the input reads as it did. -/
def fnExactIsValidListUptoRow : OpenClaim := { program := "ytdcnhkooflaphaa", sum := "d9187297229d9d0861570b68b950676a10f282be30efa8014434ad34fcd4eeeb", func := "loop.example/g00907/laws.FnExactIsValidList", spec := "fnExactIsValidList", unfollowed := true, recurses := true, apart := false, narrowed := true }
def FnExactIsValidListUptoSaid : Prop := fnExactIsValidListUptoRow.holds Try.pinned (OpenSpec.upto fnExactIsValidListSpec)

/-- 'laws.FnExactIsValidPermutation', WHERE WHAT IT READS IS OF BULK AT MOST 1048576: true; the input reads as it did. -/
def fnExactIsValidPermutationUptoRow : OpenClaim := { program := "ytdcnhkooflaphaa", sum := "d9187297229d9d0861570b68b950676a10f282be30efa8014434ad34fcd4eeeb", func := "loop.example/g00907/laws.FnExactIsValidPermutation", spec := "fnExactIsValidPermutation", apart := false, narrowed := true }
def FnExactIsValidPermutationUptoSaid : Prop := fnExactIsValidPermutationUptoRow.holds Try.pinned (OpenSpec.upto fnExactIsValidPermutationSpec)

/-- 'laws.FnExactIsValidRecords', WHERE WHAT IT READS IS OF BULK AT MOST 1048576: true; the input reads as it did. -/
def fnExactIsValidRecordsUptoRow : OpenClaim := { program := "ytdcnhkooflaphaa", sum := "d9187297229d9d0861570b68b950676a10f282be30efa8014434ad34fcd4eeeb", func := "loop.example/g00907/laws.FnExactIsValidRecords", spec := "fnExactIsValidRecords", unfollowed := true, recurses := true, apart := false, narrowed := true }
def FnExactIsValidRecordsUptoSaid : Prop := fnExactIsValidRecordsUptoRow.holds Try.pinned (OpenSpec.upto fnExactIsValidRecordsSpec)

/-- 'laws.FnExactIsSorted', WHERE WHAT IT READS IS OF BULK AT MOST 1048576: true; the input reads as it did. -/
def fnExactIsSortedUptoRow : OpenClaim := { program := "ytdcnhkooflaphaa", sum := "d9187297229d9d0861570b68b950676a10f282be30efa8014434ad34fcd4eeeb", func := "loop.example/g00907/laws.FnExactIsSorted", spec := "fnExactIsSorted", unfollowed := true, recurses := true, apart := false, narrowed := true }
def FnExactIsSortedUptoSaid : Prop := fnExactIsSortedUptoRow.holds Try.pinned (OpenSpec.upto fnExactIsSortedSpec)

/-- 'laws.FnExactIsHeap', WHERE WHAT IT READS IS OF BULK AT MOST 1048576: true; the input reads as it did. -/
def fnExactIsHeapUptoRow : OpenClaim := { program := "ytdcnhkooflaphaa", sum := "d9187297229d9d0861570b68b950676a10f282be30efa8014434ad34fcd4eeeb", func := "loop.example/g00907/laws.FnExactIsHeap", spec := "fnExactIsHeap", unfollowed := true, recurses := true, apart := false, narrowed := true }
def FnExactIsHeapUptoSaid : Prop := fnExactIsHeapUptoRow.holds Try.pinned (OpenSpec.upto fnExactIsHeapSpec)

/-- 'laws.FnExactPermutationSign', WHERE WHAT IT READS IS OF BULK AT MOST 1048576: true; the input reads as it did. -/
def fnExactPermutationSignUptoRow : OpenClaim := { program := "ytdcnhkooflaphaa", sum := "d9187297229d9d0861570b68b950676a10f282be30efa8014434ad34fcd4eeeb", func := "loop.example/g00907/laws.FnExactPermutationSign", spec := "fnExactPermutationSign", apart := false, narrowed := true }
def FnExactPermutationSignUptoSaid : Prop := fnExactPermutationSignUptoRow.holds Try.pinned (OpenSpec.upto fnExactPermutationSignSpec)

/-- 'laws.FnExactComposePermutations', WHERE WHAT IT READS IS OF BULK AT MOST 1048576: true; the input reads as it did. -/
def fnExactComposePermutationsUptoRow : OpenClaim := { program := "ytdcnhkooflaphaa", sum := "d9187297229d9d0861570b68b950676a10f282be30efa8014434ad34fcd4eeeb", func := "loop.example/g00907/laws.FnExactComposePermutations", spec := "fnExactComposePermutations", apart := false, narrowed := true }
def FnExactComposePermutationsUptoSaid : Prop := fnExactComposePermutationsUptoRow.holds Try.pinned (OpenSpec.upto fnExactComposePermutationsSpec)

/-- 'laws.FnExactInversePermutation', WHERE WHAT IT READS IS OF BULK AT MOST 1048576: true; the input reads as it did. -/
def fnExactInversePermutationUptoRow : OpenClaim := { program := "ytdcnhkooflaphaa", sum := "d9187297229d9d0861570b68b950676a10f282be30efa8014434ad34fcd4eeeb", func := "loop.example/g00907/laws.FnExactInversePermutation", spec := "fnExactInversePermutation", apart := false, narrowed := true }
def FnExactInversePermutationUptoSaid : Prop := fnExactInversePermutationUptoRow.holds Try.pinned (OpenSpec.upto fnExactInversePermutationSpec)

end Rows
end Go.Proofs.Ytdcnhkooflaphaa
