/-
  DERIVED. GIVEN WITH THE SEED: THE CARDS: each row of YtkddphdhcejdaaaDoorRows.lean that lists a variable, with what it lists TIED to the program's text (the seventh form; the later family's looks); each row that meets fmt, with fmt's text TOLD by the authors' own Lean function (tested against real Go, not proved from fmt's source: count such statements apart). THE CARD IS WHAT COUNTS. Prove the row's statement (the work); the ties are given (YtkddphdhcejdaaaDoorTie.lean); close each card by the builder's one call (the guide's Derived/Test/ToyasCard.lean, 'card_holds'). Laid BY PROGRAM, IN A SANDBOX (cutbox-door.mjs). By AI agents, Wed Nov 11 2026. No macro, syntax, notation, axiom, sorry.
-/
import Derived.Test.YtkddphdhcejdaaaDoorRows
import GoSem.ClaimSeven
namespace Go.Proofs.YtkddphdhcejdaaaDoor
namespace Rows

/-- THE TIED CARD OF 'backstaylaw02.ValueLists'. -/
def valueListsCard : Claim7 := { stood := { row := valueListsRow, standIns := [], harness := (true, "8b6bdd14151a64e71b37d85b9d6576b8d39e16793f0cf08ac84288f564ac96a5"), looks := true }, kinds := [], alts := [], laidByText := true, laidKinds := [.data, .data, .data, .sentinel, .sentinel, .data], laidTests := true, laidLooks := .later }
def ValueListsCardSaid : Prop := Claim7.holds Tryd.pinned (.plain (OpenSpec.ofChange valueListsSpec)) valueListsCard

/-- THE TIED CARD OF 'backstaylaw02.ValueNames'. -/
def valueNamesCard : Claim7 := { stood := { row := valueNamesRow, standIns := [], harness := (true, "8b6bdd14151a64e71b37d85b9d6576b8d39e16793f0cf08ac84288f564ac96a5"), looks := true }, kinds := [], alts := [], laidByText := true, laidKinds := [.data, .data, .data, .sentinel, .sentinel, .data], laidTests := true, laidLooks := .later }
def ValueNamesCardSaid : Prop := Claim7.holds Tryd.pinned (.plain (OpenSpec.ofChange valueNamesSpec)) valueNamesCard

/-- THE TIED CARD OF 'backstaylaw17.RecordBack'. -/
def recordBackCard : Claim7 := { stood := { row := recordBackRow, standIns := [], harness := (true, "8b6bdd14151a64e71b37d85b9d6576b8d39e16793f0cf08ac84288f564ac96a5"), looks := true }, kinds := [], alts := [], laidByText := true, laidKinds := [.data, .data, .data, .sentinel, .sentinel], laidTests := true, laidLooks := .later }
def RecordBackCardSaid : Prop := Claim7.holds Tryd.pinned (.plain (OpenSpec.ofChange recordBackSpec)) recordBackCard

/-- THE TIED CARD OF 'backstaylaw17.RecordNames'. -/
def recordNamesCard : Claim7 := { stood := { row := recordNamesRow, standIns := [], harness := (true, "8b6bdd14151a64e71b37d85b9d6576b8d39e16793f0cf08ac84288f564ac96a5"), looks := true }, kinds := [], alts := [], laidByText := true, laidKinds := [.data, .data, .data, .sentinel, .sentinel], laidTests := true, laidLooks := .later }
def RecordNamesCardSaid : Prop := Claim7.holds Tryd.pinned (.plain (OpenSpec.ofChange recordNamesSpec)) recordNamesCard

/-- THE TIED CARD OF 'backstaylaw07.FunctionParts'. -/
def functionPartsCard : Claim7 := { stood := { row := functionPartsRow, standIns := [], harness := (true, "8b6bdd14151a64e71b37d85b9d6576b8d39e16793f0cf08ac84288f564ac96a5"), looks := true }, kinds := [], alts := [], laidByText := true, laidKinds := [.data, .data, .data, .sentinel, .sentinel, .listed, .data], laidTests := true, laidLooks := .later }
def FunctionPartsCardSaid : Prop := Claim7.holds Tryd.pinned (.plain (OpenSpec.ofChange functionPartsSpec)) functionPartsCard

/-- THE TIED CARD OF 'backstaylaw07.FunctionBegins'. -/
def functionBeginsCard : Claim7 := { stood := { row := functionBeginsRow, standIns := [], harness := (true, "8b6bdd14151a64e71b37d85b9d6576b8d39e16793f0cf08ac84288f564ac96a5"), looks := true }, kinds := [], alts := [], laidByText := true, laidKinds := [.data, .data, .data, .sentinel, .sentinel, .listed, .data], laidTests := true, laidLooks := .later }
def FunctionBeginsCardSaid : Prop := Claim7.holds Tryd.pinned (.plain (OpenSpec.ofChange functionBeginsSpec)) functionBeginsCard

/-- THE SECOND FORM's CARD OF 'backstaylaw02.ValueLists'. -/
def valueListsUptoCard : Claim7 := { stood := { row := valueListsUptoRow, standIns := [], harness := (true, "8b6bdd14151a64e71b37d85b9d6576b8d39e16793f0cf08ac84288f564ac96a5"), looks := true }, kinds := [], alts := [], laidByText := true, laidKinds := [.data, .data, .data, .sentinel, .sentinel, .data], laidTests := true, laidLooks := .later }
def ValueListsUptoCardSaid : Prop := Claim7.holds Tryd.pinned (.plain (OpenSpec.upto valueListsSpec)) valueListsUptoCard

/-- THE SECOND FORM's CARD OF 'backstaylaw02.ValueNames'. -/
def valueNamesUptoCard : Claim7 := { stood := { row := valueNamesUptoRow, standIns := [], harness := (true, "8b6bdd14151a64e71b37d85b9d6576b8d39e16793f0cf08ac84288f564ac96a5"), looks := true }, kinds := [], alts := [], laidByText := true, laidKinds := [.data, .data, .data, .sentinel, .sentinel, .data], laidTests := true, laidLooks := .later }
def ValueNamesUptoCardSaid : Prop := Claim7.holds Tryd.pinned (.plain (OpenSpec.upto valueNamesSpec)) valueNamesUptoCard

/-- THE SECOND FORM's CARD OF 'backstaylaw17.RecordBack'. -/
def recordBackUptoCard : Claim7 := { stood := { row := recordBackUptoRow, standIns := [], harness := (true, "8b6bdd14151a64e71b37d85b9d6576b8d39e16793f0cf08ac84288f564ac96a5"), looks := true }, kinds := [], alts := [], laidByText := true, laidKinds := [.data, .data, .data, .sentinel, .sentinel], laidTests := true, laidLooks := .later }
def RecordBackUptoCardSaid : Prop := Claim7.holds Tryd.pinned (.plain (OpenSpec.upto recordBackSpec)) recordBackUptoCard

/-- THE SECOND FORM's CARD OF 'backstaylaw17.RecordNames'. -/
def recordNamesUptoCard : Claim7 := { stood := { row := recordNamesUptoRow, standIns := [], harness := (true, "8b6bdd14151a64e71b37d85b9d6576b8d39e16793f0cf08ac84288f564ac96a5"), looks := true }, kinds := [], alts := [], laidByText := true, laidKinds := [.data, .data, .data, .sentinel, .sentinel], laidTests := true, laidLooks := .later }
def RecordNamesUptoCardSaid : Prop := Claim7.holds Tryd.pinned (.plain (OpenSpec.upto recordNamesSpec)) recordNamesUptoCard

/-- THE SECOND FORM's CARD OF 'backstaylaw07.FunctionParts'. -/
def functionPartsUptoCard : Claim7 := { stood := { row := functionPartsUptoRow, standIns := [], harness := (true, "8b6bdd14151a64e71b37d85b9d6576b8d39e16793f0cf08ac84288f564ac96a5"), looks := true }, kinds := [], alts := [], laidByText := true, laidKinds := [.data, .data, .data, .sentinel, .sentinel, .listed, .data], laidTests := true, laidLooks := .later }
def FunctionPartsUptoCardSaid : Prop := Claim7.holds Tryd.pinned (.plain (OpenSpec.upto functionPartsSpec)) functionPartsUptoCard

/-- THE SECOND FORM's CARD OF 'backstaylaw07.FunctionBegins'. -/
def functionBeginsUptoCard : Claim7 := { stood := { row := functionBeginsUptoRow, standIns := [], harness := (true, "8b6bdd14151a64e71b37d85b9d6576b8d39e16793f0cf08ac84288f564ac96a5"), looks := true }, kinds := [], alts := [], laidByText := true, laidKinds := [.data, .data, .data, .sentinel, .sentinel, .listed, .data], laidTests := true, laidLooks := .later }
def FunctionBeginsUptoCardSaid : Prop := Claim7.holds Tryd.pinned (.plain (OpenSpec.upto functionBeginsSpec)) functionBeginsUptoCard
end Rows
end Go.Proofs.YtkddphdhcejdaaaDoor
