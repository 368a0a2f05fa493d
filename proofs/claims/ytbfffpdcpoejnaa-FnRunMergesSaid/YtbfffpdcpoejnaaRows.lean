/-
  No cell of these rows narrows 'for every input' (looked for: loops, veiled, ifaces, maps, wideKeys, modest, calm, conditions, laid).
  DERIVED. THE GIVEN ROWS OF THIS SEAT. 8 by the template 'for every input the law returns true; each argument reads behind the call as it read before'; 0 by the template 'total and deterministic' (their statements: YtbfffpdcpoejnaaTotals.lean).
  GIVEN WITH THE SEED: the statements are not yours to turn. If you find one false, say at which input.
  Laid BY PROGRAM, IN A SANDBOX (cutbox-rows.mjs): the forced cells as the released guide's own fill.sh prints them over the translation ca40f41fa3900ba5… (all of the seat's roots in one cut). By AI agents, Wed Nov 11 2026. No macro, syntax, notation, axiom, sorry.
-/
import Derived.Test.YtbfffpdcpoejnaaChecked
import GoSem.Claim
import GoSem.ClaimJoined
import GoSem.ClaimMapViews
import Derived.JoinedTies
import Derived.KernelRfl
namespace Go.Proofs.Ytbfffpdcpoejnaa
/- THE CELL 'sum', in the pinned program and in every row, IS THE sha256 OF THE DUMP (.gsa) THAT YtbfffpdcpoejnaaProg.lean LOADS. Nothing in Lean hashes anything: it is a label: what it is worth is what the hold of that sum in a sandbox is worth. -/
noncomputable def Try.pinned : Pinned := { name := "ytbfffpdcpoejnaa", sum := "ca40f41fa3900ba5474900db7d966f153f2687ca90d0981875df6e3c92d685e2", checked := Try.checked }
namespace Rows
def none {H : Type} : Left H := { results := [], args := [] }

/-- 'laws.FnInverse': WHATEVER THE INPUT: true; the input reads as it did. -/
def fnInverseSpec : ChangeSpec := { name := "fnInverse", fn := fun _ => fun
  | [d] => { results := [.lit (.bool true)], args := [d] }
  | _ => none }
def fnInverseRow : OpenClaim := { program := "ytbfffpdcpoejnaa", sum := "ca40f41fa3900ba5474900db7d966f153f2687ca90d0981875df6e3c92d685e2", func := "loop.example/g00907/laws.FnInverse", spec := "fnInverse", unfollowed := true, recurses := true, apart := false }
def FnInverseSaid : Prop := fnInverseRow.holds Try.pinned (OpenSpec.ofChange fnInverseSpec)

/-- ITS FALSE NEIGHBOUR: 'it returns false'. Refute it at one input. -/
def fnInverseWrong : ChangeSpec := { name := "fnInverse", fn := fun _ => fun
  | [d] => { results := [.lit (.bool false)], args := [d] }
  | _ => none }
def FnInverseWrongFalsely : Prop := fnInverseRow.holds Try.pinned (OpenSpec.ofChange fnInverseWrong)

/-- 'laws.FnCompose': WHATEVER THE INPUT: true; the input reads as it did. -/
def fnComposeSpec : ChangeSpec := { name := "fnCompose", fn := fun _ => fun
  | [d] => { results := [.lit (.bool true)], args := [d] }
  | _ => none }
def fnComposeRow : OpenClaim := { program := "ytbfffpdcpoejnaa", sum := "ca40f41fa3900ba5474900db7d966f153f2687ca90d0981875df6e3c92d685e2", func := "loop.example/g00907/laws.FnCompose", spec := "fnCompose", unfollowed := true, recurses := true, apart := false }
def FnComposeSaid : Prop := fnComposeRow.holds Try.pinned (OpenSpec.ofChange fnComposeSpec)

/-- ITS FALSE NEIGHBOUR: 'it returns false'. Refute it at one input. -/
def fnComposeWrong : ChangeSpec := { name := "fnCompose", fn := fun _ => fun
  | [d] => { results := [.lit (.bool false)], args := [d] }
  | _ => none }
def FnComposeWrongFalsely : Prop := fnComposeRow.holds Try.pinned (OpenSpec.ofChange fnComposeWrong)

/-- 'laws.FnRanks': WHATEVER THE INPUT: true; the input reads as it did. -/
def fnRanksSpec : ChangeSpec := { name := "fnRanks", fn := fun _ => fun
  | [d] => { results := [.lit (.bool true)], args := [d] }
  | _ => none }
def fnRanksRow : OpenClaim := { program := "ytbfffpdcpoejnaa", sum := "ca40f41fa3900ba5474900db7d966f153f2687ca90d0981875df6e3c92d685e2", func := "loop.example/g00907/laws.FnRanks", spec := "fnRanks", apart := false }
def FnRanksSaid : Prop := fnRanksRow.holds Try.pinned (OpenSpec.ofChange fnRanksSpec)

/-- ITS FALSE NEIGHBOUR: 'it returns false'. Refute it at one input. -/
def fnRanksWrong : ChangeSpec := { name := "fnRanks", fn := fun _ => fun
  | [d] => { results := [.lit (.bool false)], args := [d] }
  | _ => none }
def FnRanksWrongFalsely : Prop := fnRanksRow.holds Try.pinned (OpenSpec.ofChange fnRanksWrong)

/-- 'laws.FnInsertion': WHATEVER THE INPUT: true; the input reads as it did. -/
def fnInsertionSpec : ChangeSpec := { name := "fnInsertion", fn := fun _ => fun
  | [d] => { results := [.lit (.bool true)], args := [d] }
  | _ => none }
def fnInsertionRow : OpenClaim := { program := "ytbfffpdcpoejnaa", sum := "ca40f41fa3900ba5474900db7d966f153f2687ca90d0981875df6e3c92d685e2", func := "loop.example/g00907/laws.FnInsertion", spec := "fnInsertion", unfollowed := true, recurses := true, apart := false }
def FnInsertionSaid : Prop := fnInsertionRow.holds Try.pinned (OpenSpec.ofChange fnInsertionSpec)

/-- ITS FALSE NEIGHBOUR: 'it returns false'. Refute it at one input. -/
def fnInsertionWrong : ChangeSpec := { name := "fnInsertion", fn := fun _ => fun
  | [d] => { results := [.lit (.bool false)], args := [d] }
  | _ => none }
def FnInsertionWrongFalsely : Prop := fnInsertionRow.holds Try.pinned (OpenSpec.ofChange fnInsertionWrong)

/-- 'laws.FnSorted': WHATEVER THE INPUT: true; the input reads as it did. -/
def fnSortedSpec : ChangeSpec := { name := "fnSorted", fn := fun _ => fun
  | [d] => { results := [.lit (.bool true)], args := [d] }
  | _ => none }
def fnSortedRow : OpenClaim := { program := "ytbfffpdcpoejnaa", sum := "ca40f41fa3900ba5474900db7d966f153f2687ca90d0981875df6e3c92d685e2", func := "loop.example/g00907/laws.FnSorted", spec := "fnSorted", unfollowed := true, recurses := true, apart := false }
def FnSortedSaid : Prop := fnSortedRow.holds Try.pinned (OpenSpec.ofChange fnSortedSpec)

/-- ITS FALSE NEIGHBOUR: 'it returns false'. Refute it at one input. -/
def fnSortedWrong : ChangeSpec := { name := "fnSorted", fn := fun _ => fun
  | [d] => { results := [.lit (.bool false)], args := [d] }
  | _ => none }
def FnSortedWrongFalsely : Prop := fnSortedRow.holds Try.pinned (OpenSpec.ofChange fnSortedWrong)

/-- 'laws.FnGallop': WHATEVER THE INPUT: true; the input reads as it did. -/
def fnGallopSpec : ChangeSpec := { name := "fnGallop", fn := fun _ => fun
  | [d] => { results := [.lit (.bool true)], args := [d] }
  | _ => none }
def fnGallopRow : OpenClaim := { program := "ytbfffpdcpoejnaa", sum := "ca40f41fa3900ba5474900db7d966f153f2687ca90d0981875df6e3c92d685e2", func := "loop.example/g00907/laws.FnGallop", spec := "fnGallop", unfollowed := true, recurses := true, apart := false }
def FnGallopSaid : Prop := fnGallopRow.holds Try.pinned (OpenSpec.ofChange fnGallopSpec)

/-- ITS FALSE NEIGHBOUR: 'it returns false'. Refute it at one input. -/
def fnGallopWrong : ChangeSpec := { name := "fnGallop", fn := fun _ => fun
  | [d] => { results := [.lit (.bool false)], args := [d] }
  | _ => none }
def FnGallopWrongFalsely : Prop := fnGallopRow.holds Try.pinned (OpenSpec.ofChange fnGallopWrong)

/-- 'laws.FnRunMerges': WHATEVER THE INPUT: true; the input reads as it did. -/
def fnRunMergesSpec : ChangeSpec := { name := "fnRunMerges", fn := fun _ => fun
  | [d] => { results := [.lit (.bool true)], args := [d] }
  | _ => none }
def fnRunMergesRow : OpenClaim := { program := "ytbfffpdcpoejnaa", sum := "ca40f41fa3900ba5474900db7d966f153f2687ca90d0981875df6e3c92d685e2", func := "loop.example/g00907/laws.FnRunMerges", spec := "fnRunMerges", unfollowed := true, recurses := true, apart := false }
def FnRunMergesSaid : Prop := fnRunMergesRow.holds Try.pinned (OpenSpec.ofChange fnRunMergesSpec)

/-- ITS FALSE NEIGHBOUR: 'it returns false'. Refute it at one input. -/
def fnRunMergesWrong : ChangeSpec := { name := "fnRunMerges", fn := fun _ => fun
  | [d] => { results := [.lit (.bool false)], args := [d] }
  | _ => none }
def FnRunMergesWrongFalsely : Prop := fnRunMergesRow.holds Try.pinned (OpenSpec.ofChange fnRunMergesWrong)

/-- 'laws.FnOrders': WHATEVER THE INPUT: true; the input reads as it did. -/
def fnOrdersSpec : ChangeSpec := { name := "fnOrders", fn := fun _ => fun
  | [d] => { results := [.lit (.bool true)], args := [d] }
  | _ => none }
def fnOrdersRow : OpenClaim := { program := "ytbfffpdcpoejnaa", sum := "ca40f41fa3900ba5474900db7d966f153f2687ca90d0981875df6e3c92d685e2", func := "loop.example/g00907/laws.FnOrders", spec := "fnOrders", unfollowed := true, recurses := true, apart := false }
def FnOrdersSaid : Prop := fnOrdersRow.holds Try.pinned (OpenSpec.ofChange fnOrdersSpec)

/-- ITS FALSE NEIGHBOUR: 'it returns false'. Refute it at one input. -/
def fnOrdersWrong : ChangeSpec := { name := "fnOrders", fn := fun _ => fun
  | [d] => { results := [.lit (.bool false)], args := [d] }
  | _ => none }
def FnOrdersWrongFalsely : Prop := fnOrdersRow.holds Try.pinned (OpenSpec.ofChange fnOrdersWrong)

/- THE SECOND FORM. 'bulk': how many values and letters a reading holds, each counted each time it is reached (what is shared counts as often as it is met; a slice's spare places count too). A statement '..UptoSaid' is the law's where the arguments, and the package variables that the reading takes, are together of bulk at most 1048576: NARROWER than '..Said'. Prove '..Said' where nothing that the law and all that it calls make is longer than what came in: it says more and counts as full. Else prove '..UptoSaid'. A law counts once. -/
mutual
def uptoBulk {H : Type} : DataW H → Nat
  | .lit (.string bytes) => bytes.length + 1
  | .lit _ => 1
  | .nil => 1
  | .ptr d => uptoBulk d + 1
  | .slice elems spare => uptoBulkAll elems + uptoBulkAll spare + 1
  | .agg parts => uptoBulkAll parts + 1
  | .iface _ d => uptoBulk d + 1
  | .map entries => uptoBulkEntries entries + 1
  | .held _ => 1
def uptoBulkAll {H : Type} : List (DataW H) → Nat
  | [] => 0
  | d :: r => uptoBulk d + uptoBulkAll r
def uptoBulkEntries {H : Type} : List (Lit × DataW H) → Nat
  | [] => 0
  | x :: r => uptoBulkEntry x + uptoBulkEntries r
def uptoBulkEntry {H : Type} : Lit × DataW H → Nat
  | (.string bytes, d) => bytes.length + uptoBulk d + 1
  | (_, d) => uptoBulk d + 1
 end
def uptoSmall : (H : Type) → List (DataW H) → Bool := fun _ ds => decide (uptoBulkAll ds ≤ 1048576)
def OpenSpec.upto (s : _root_.Go.ChangeSpec) : _root_.Go.OpenSpec := { _root_.Go.OpenSpec.ofChange s with cond := some uptoSmall }

/-- 'laws.FnInverse', WHERE WHAT IT READS IS OF BULK AT MOST 1048576: true; the input reads as it did. -/
def fnInverseUptoRow : OpenClaim := { program := "ytbfffpdcpoejnaa", sum := "ca40f41fa3900ba5474900db7d966f153f2687ca90d0981875df6e3c92d685e2", func := "loop.example/g00907/laws.FnInverse", spec := "fnInverse", unfollowed := true, recurses := true, apart := false, narrowed := true }
def FnInverseUptoSaid : Prop := fnInverseUptoRow.holds Try.pinned (OpenSpec.upto fnInverseSpec)

/-- 'laws.FnCompose', WHERE WHAT IT READS IS OF BULK AT MOST 1048576: true; the input reads as it did. -/
def fnComposeUptoRow : OpenClaim := { program := "ytbfffpdcpoejnaa", sum := "ca40f41fa3900ba5474900db7d966f153f2687ca90d0981875df6e3c92d685e2", func := "loop.example/g00907/laws.FnCompose", spec := "fnCompose", unfollowed := true, recurses := true, apart := false, narrowed := true }
def FnComposeUptoSaid : Prop := fnComposeUptoRow.holds Try.pinned (OpenSpec.upto fnComposeSpec)

/-- 'laws.FnRanks', WHERE WHAT IT READS IS OF BULK AT MOST 1048576: true; the input reads as it did. -/
def fnRanksUptoRow : OpenClaim := { program := "ytbfffpdcpoejnaa", sum := "ca40f41fa3900ba5474900db7d966f153f2687ca90d0981875df6e3c92d685e2", func := "loop.example/g00907/laws.FnRanks", spec := "fnRanks", apart := false, narrowed := true }
def FnRanksUptoSaid : Prop := fnRanksUptoRow.holds Try.pinned (OpenSpec.upto fnRanksSpec)

/-- 'laws.FnInsertion', WHERE WHAT IT READS IS OF BULK AT MOST 1048576: true; the input reads as it did. -/
def fnInsertionUptoRow : OpenClaim := { program := "ytbfffpdcpoejnaa", sum := "ca40f41fa3900ba5474900db7d966f153f2687ca90d0981875df6e3c92d685e2", func := "loop.example/g00907/laws.FnInsertion", spec := "fnInsertion", unfollowed := true, recurses := true, apart := false, narrowed := true }
def FnInsertionUptoSaid : Prop := fnInsertionUptoRow.holds Try.pinned (OpenSpec.upto fnInsertionSpec)

/-- 'laws.FnSorted', WHERE WHAT IT READS IS OF BULK AT MOST 1048576: true; the input reads as it did. -/
def fnSortedUptoRow : OpenClaim := { program := "ytbfffpdcpoejnaa", sum := "ca40f41fa3900ba5474900db7d966f153f2687ca90d0981875df6e3c92d685e2", func := "loop.example/g00907/laws.FnSorted", spec := "fnSorted", unfollowed := true, recurses := true, apart := false, narrowed := true }
def FnSortedUptoSaid : Prop := fnSortedUptoRow.holds Try.pinned (OpenSpec.upto fnSortedSpec)

/-- 'laws.FnGallop', WHERE WHAT IT READS IS OF BULK AT MOST 1048576: true; the input reads as it did. -/
def fnGallopUptoRow : OpenClaim := { program := "ytbfffpdcpoejnaa", sum := "ca40f41fa3900ba5474900db7d966f153f2687ca90d0981875df6e3c92d685e2", func := "loop.example/g00907/laws.FnGallop", spec := "fnGallop", unfollowed := true, recurses := true, apart := false, narrowed := true }
def FnGallopUptoSaid : Prop := fnGallopUptoRow.holds Try.pinned (OpenSpec.upto fnGallopSpec)

/-- 'laws.FnRunMerges', WHERE WHAT IT READS IS OF BULK AT MOST 1048576: true; the input reads as it did. -/
def fnRunMergesUptoRow : OpenClaim := { program := "ytbfffpdcpoejnaa", sum := "ca40f41fa3900ba5474900db7d966f153f2687ca90d0981875df6e3c92d685e2", func := "loop.example/g00907/laws.FnRunMerges", spec := "fnRunMerges", unfollowed := true, recurses := true, apart := false, narrowed := true }
def FnRunMergesUptoSaid : Prop := fnRunMergesUptoRow.holds Try.pinned (OpenSpec.upto fnRunMergesSpec)

/-- 'laws.FnOrders', WHERE WHAT IT READS IS OF BULK AT MOST 1048576: true; the input reads as it did. -/
def fnOrdersUptoRow : OpenClaim := { program := "ytbfffpdcpoejnaa", sum := "ca40f41fa3900ba5474900db7d966f153f2687ca90d0981875df6e3c92d685e2", func := "loop.example/g00907/laws.FnOrders", spec := "fnOrders", unfollowed := true, recurses := true, apart := false, narrowed := true }
def FnOrdersUptoSaid : Prop := fnOrdersUptoRow.holds Try.pinned (OpenSpec.upto fnOrdersSpec)

end Rows
end Go.Proofs.Ytbfffpdcpoejnaa
