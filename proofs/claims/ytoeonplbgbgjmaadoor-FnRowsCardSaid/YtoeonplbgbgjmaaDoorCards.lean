/-
  DERIVED. GIVEN WITH THE SEED: THE CARDS: each row of YtoeonplbgbgjmaaDoorRows.lean that lists a variable, with what it lists TIED to the program's text (the seventh form; the later family's looks); each row that meets fmt, with fmt's text TOLD by the authors' own Lean function (tested against real Go, not proved from fmt's source: count such statements apart). THE CARD IS WHAT COUNTS. Prove the row's statement (the work); the ties are given (YtoeonplbgbgjmaaDoorTie.lean); close each card by the builder's one call (the guide's Derived/Test/ToyasCard.lean, 'card_holds'). Laid BY PROGRAM, IN A SANDBOX (cutbox-door.mjs). By AI agents, Wed Nov 11 2026. No macro, syntax, notation, axiom, sorry.
-/
import Derived.Test.YtoeonplbgbgjmaaDoorRows
import GoSem.ClaimSeven
namespace Go.Proofs.YtoeonplbgbgjmaaDoor
namespace Rows

/-- THE TIED CARD OF 'laws.FnExactFormatSpecs'. -/
def fnExactFormatSpecsCard : Claim7 := { stood := { row := fnExactFormatSpecsRow, standIns := [], harness := (true, "52db38d6cdf68ff3d411ae3b08b2037a07f48644ff4e7643af02966f07ba7274"), looks := true }, kinds := [], alts := [], laidByText := true, laidKinds := [.data, .data, .data], laidTests := true, laidLooks := .later }
def FnExactFormatSpecsCardSaid : Prop := Claim7.holds Tryd.pinned (.plain (OpenSpec.ofChange fnExactFormatSpecsSpec)) fnExactFormatSpecsCard

/-- THE TIED CARD OF 'laws.FnExactParseSpecs'. -/
def fnExactParseSpecsCard : Claim7 := { stood := { row := fnExactParseSpecsRow, standIns := [], harness := (true, "52db38d6cdf68ff3d411ae3b08b2037a07f48644ff4e7643af02966f07ba7274"), looks := true }, kinds := [], alts := [], laidByText := true, laidKinds := [.data, .data, .data, .data, .pinned], laidTests := true, laidLooks := .later }
def FnExactParseSpecsCardSaid : Prop := Claim7.holds Tryd.pinned (.plain (OpenSpec.ofChange fnExactParseSpecsSpec)) fnExactParseSpecsCard

/-- THE TIED CARD OF 'laws.FnExactCompareRows'. -/
def fnExactCompareRowsCard : Claim7 := { stood := { row := fnExactCompareRowsRow, standIns := [], harness := (true, "52db38d6cdf68ff3d411ae3b08b2037a07f48644ff4e7643af02966f07ba7274"), looks := true }, kinds := [], alts := [], laidByText := true, laidKinds := [.data, .data, .data, .sentinel, .sentinel], laidTests := true, laidLooks := .later }
def FnExactCompareRowsCardSaid : Prop := Claim7.holds Tryd.pinned (.plain (OpenSpec.ofChange fnExactCompareRowsSpec)) fnExactCompareRowsCard

/-- THE TIED CARD OF 'laws.FnExactSortRows'. -/
def fnExactSortRowsCard : Claim7 := { stood := { row := fnExactSortRowsRow, standIns := [], harness := (true, "52db38d6cdf68ff3d411ae3b08b2037a07f48644ff4e7643af02966f07ba7274"), looks := true }, kinds := [], alts := [], laidByText := true, laidKinds := [.data, .data, .data, .sentinel, .sentinel], laidTests := true, laidLooks := .later }
def FnExactSortRowsCardSaid : Prop := Claim7.holds Tryd.pinned (.plain (OpenSpec.ofChange fnExactSortRowsSpec)) fnExactSortRowsCard

/-- THE TIED CARD OF 'laws.FnSplitJoin'. -/
def fnSplitJoinCard : Claim7 := { stood := { row := fnSplitJoinRow, standIns := [], harness := (true, "52db38d6cdf68ff3d411ae3b08b2037a07f48644ff4e7643af02966f07ba7274"), looks := true }, kinds := [], alts := [], laidByText := true, laidKinds := [.data, .pinned], laidTests := true, laidLooks := .later }
def FnSplitJoinCardSaid : Prop := Claim7.holds Tryd.pinned (.plain (OpenSpec.ofChange fnSplitJoinSpec)) fnSplitJoinCard

/-- THE TIED CARD OF 'laws.FnStrings'. -/
def fnStringsCard : Claim7 := { stood := { row := fnStringsRow, standIns := [], harness := (true, "52db38d6cdf68ff3d411ae3b08b2037a07f48644ff4e7643af02966f07ba7274"), looks := true }, kinds := [], alts := [], laidByText := true, laidKinds := [.data, .data, .data, .sentinel, .sentinel], laidTests := true, laidLooks := .later }
def FnStringsCardSaid : Prop := Claim7.holds Tryd.pinned (.plain (OpenSpec.ofChange fnStringsSpec)) fnStringsCard

/-- THE TIED CARD OF 'laws.FnSpecs'. -/
def fnSpecsCard : Claim7 := { stood := { row := fnSpecsRow, standIns := [], harness := (true, "52db38d6cdf68ff3d411ae3b08b2037a07f48644ff4e7643af02966f07ba7274"), looks := true }, kinds := [], alts := [], laidByText := true, laidKinds := [.data, .data, .data, .data, .pinned], laidTests := true, laidLooks := .later }
def FnSpecsCardSaid : Prop := Claim7.holds Tryd.pinned (.plain (OpenSpec.ofChange fnSpecsSpec)) fnSpecsCard

/-- THE TIED CARD OF 'laws.FnRows'. -/
def fnRowsCard : Claim7 := { stood := { row := fnRowsRow, standIns := [], harness := (true, "52db38d6cdf68ff3d411ae3b08b2037a07f48644ff4e7643af02966f07ba7274"), looks := true }, kinds := [], alts := [], laidByText := true, laidKinds := [.data, .data, .data, .sentinel, .sentinel], laidTests := true, laidLooks := .later }
def FnRowsCardSaid : Prop := Claim7.holds Tryd.pinned (.plain (OpenSpec.ofChange fnRowsSpec)) fnRowsCard

/-- THE SECOND FORM's CARD OF 'laws.FnExactFormatSpecs'. -/
def fnExactFormatSpecsUptoCard : Claim7 := { stood := { row := fnExactFormatSpecsUptoRow, standIns := [], harness := (true, "52db38d6cdf68ff3d411ae3b08b2037a07f48644ff4e7643af02966f07ba7274"), looks := true }, kinds := [], alts := [], laidByText := true, laidKinds := [.data, .data, .data], laidTests := true, laidLooks := .later }
def FnExactFormatSpecsUptoCardSaid : Prop := Claim7.holds Tryd.pinned (.plain (OpenSpec.upto fnExactFormatSpecsSpec)) fnExactFormatSpecsUptoCard

/-- THE SECOND FORM's CARD OF 'laws.FnExactParseSpecs'. -/
def fnExactParseSpecsUptoCard : Claim7 := { stood := { row := fnExactParseSpecsUptoRow, standIns := [], harness := (true, "52db38d6cdf68ff3d411ae3b08b2037a07f48644ff4e7643af02966f07ba7274"), looks := true }, kinds := [], alts := [], laidByText := true, laidKinds := [.data, .data, .data, .data, .pinned], laidTests := true, laidLooks := .later }
def FnExactParseSpecsUptoCardSaid : Prop := Claim7.holds Tryd.pinned (.plain (OpenSpec.upto fnExactParseSpecsSpec)) fnExactParseSpecsUptoCard

/-- THE SECOND FORM's CARD OF 'laws.FnExactCompareRows'. -/
def fnExactCompareRowsUptoCard : Claim7 := { stood := { row := fnExactCompareRowsUptoRow, standIns := [], harness := (true, "52db38d6cdf68ff3d411ae3b08b2037a07f48644ff4e7643af02966f07ba7274"), looks := true }, kinds := [], alts := [], laidByText := true, laidKinds := [.data, .data, .data, .sentinel, .sentinel], laidTests := true, laidLooks := .later }
def FnExactCompareRowsUptoCardSaid : Prop := Claim7.holds Tryd.pinned (.plain (OpenSpec.upto fnExactCompareRowsSpec)) fnExactCompareRowsUptoCard

/-- THE SECOND FORM's CARD OF 'laws.FnExactSortRows'. -/
def fnExactSortRowsUptoCard : Claim7 := { stood := { row := fnExactSortRowsUptoRow, standIns := [], harness := (true, "52db38d6cdf68ff3d411ae3b08b2037a07f48644ff4e7643af02966f07ba7274"), looks := true }, kinds := [], alts := [], laidByText := true, laidKinds := [.data, .data, .data, .sentinel, .sentinel], laidTests := true, laidLooks := .later }
def FnExactSortRowsUptoCardSaid : Prop := Claim7.holds Tryd.pinned (.plain (OpenSpec.upto fnExactSortRowsSpec)) fnExactSortRowsUptoCard

/-- THE SECOND FORM's CARD OF 'laws.FnSplitJoin'. -/
def fnSplitJoinUptoCard : Claim7 := { stood := { row := fnSplitJoinUptoRow, standIns := [], harness := (true, "52db38d6cdf68ff3d411ae3b08b2037a07f48644ff4e7643af02966f07ba7274"), looks := true }, kinds := [], alts := [], laidByText := true, laidKinds := [.data, .pinned], laidTests := true, laidLooks := .later }
def FnSplitJoinUptoCardSaid : Prop := Claim7.holds Tryd.pinned (.plain (OpenSpec.upto fnSplitJoinSpec)) fnSplitJoinUptoCard

/-- THE SECOND FORM's CARD OF 'laws.FnStrings'. -/
def fnStringsUptoCard : Claim7 := { stood := { row := fnStringsUptoRow, standIns := [], harness := (true, "52db38d6cdf68ff3d411ae3b08b2037a07f48644ff4e7643af02966f07ba7274"), looks := true }, kinds := [], alts := [], laidByText := true, laidKinds := [.data, .data, .data, .sentinel, .sentinel], laidTests := true, laidLooks := .later }
def FnStringsUptoCardSaid : Prop := Claim7.holds Tryd.pinned (.plain (OpenSpec.upto fnStringsSpec)) fnStringsUptoCard

/-- THE SECOND FORM's CARD OF 'laws.FnSpecs'. -/
def fnSpecsUptoCard : Claim7 := { stood := { row := fnSpecsUptoRow, standIns := [], harness := (true, "52db38d6cdf68ff3d411ae3b08b2037a07f48644ff4e7643af02966f07ba7274"), looks := true }, kinds := [], alts := [], laidByText := true, laidKinds := [.data, .data, .data, .data, .pinned], laidTests := true, laidLooks := .later }
def FnSpecsUptoCardSaid : Prop := Claim7.holds Tryd.pinned (.plain (OpenSpec.upto fnSpecsSpec)) fnSpecsUptoCard

/-- THE SECOND FORM's CARD OF 'laws.FnRows'. -/
def fnRowsUptoCard : Claim7 := { stood := { row := fnRowsUptoRow, standIns := [], harness := (true, "52db38d6cdf68ff3d411ae3b08b2037a07f48644ff4e7643af02966f07ba7274"), looks := true }, kinds := [], alts := [], laidByText := true, laidKinds := [.data, .data, .data, .sentinel, .sentinel], laidTests := true, laidLooks := .later }
def FnRowsUptoCardSaid : Prop := Claim7.holds Tryd.pinned (.plain (OpenSpec.upto fnRowsSpec)) fnRowsUptoCard
end Rows
end Go.Proofs.YtoeonplbgbgjmaaDoor
