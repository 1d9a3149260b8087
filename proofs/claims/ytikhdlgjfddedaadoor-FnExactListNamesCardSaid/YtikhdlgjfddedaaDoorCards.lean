/-
  DERIVED. GIVEN WITH THE SEED: THE CARDS: each row of YtikhdlgjfddedaaDoorRows.lean that lists a variable, with what it lists TIED to the program's text (the seventh form; the later family's looks); each row that meets fmt, with fmt's text TOLD by the authors' own Lean function (tested against real Go, not proved from fmt's source: count such statements apart). THE CARD IS WHAT COUNTS. Prove the row's statement (the work); the ties are given (YtikhdlgjfddedaaDoorTie.lean); close each card by the builder's one call (the guide's Derived/Test/ToyasCard.lean, 'card_holds'). Laid BY PROGRAM, IN A SANDBOX (cutbox-door.mjs). By AI agents, Wed Nov 11 2026. No macro, syntax, notation, axiom, sorry.
-/
import Derived.Test.YtikhdlgjfddedaaDoorRows
import GoSem.ClaimSeven
namespace Go.Proofs.YtikhdlgjfddedaaDoor
namespace Rows

/-- THE TIED CARD OF 'laws.FnExactFindNode'. -/
def fnExactFindNodeCard : Claim7 := { stood := { row := fnExactFindNodeRow, standIns := [], harness := (true, "8edc4f11389829de064443c8de1bd86532c92341b374bcfd1fcf93b73b1c19f9"), looks := false }, kinds := [], alts := [], laidByText := true, laidKinds := [.data, .pinned], laidTests := true, laidLooks := .later }
def FnExactFindNodeCardSaid : Prop := Claim7.holds Tryd.pinned (.plain (OpenSpec.ofChange fnExactFindNodeSpec)) fnExactFindNodeCard

/-- THE TIED CARD OF 'laws.FnExactSameFile'. -/
def fnExactSameFileCard : Claim7 := { stood := { row := fnExactSameFileRow, standIns := [], harness := (true, "8edc4f11389829de064443c8de1bd86532c92341b374bcfd1fcf93b73b1c19f9"), looks := false }, kinds := [], alts := [], laidByText := true, laidKinds := [.data, .pinned], laidTests := true, laidLooks := .later }
def FnExactSameFileCardSaid : Prop := Claim7.holds Tryd.pinned (.plain (OpenSpec.ofChange fnExactSameFileSpec)) fnExactSameFileCard

/-- THE TIED CARD OF 'laws.FnExactMayAt'. -/
def fnExactMayAtCard : Claim7 := { stood := { row := fnExactMayAtRow, standIns := [], harness := (true, "8edc4f11389829de064443c8de1bd86532c92341b374bcfd1fcf93b73b1c19f9"), looks := false }, kinds := [], alts := [], laidByText := true, laidKinds := [.data, .pinned], laidTests := true, laidLooks := .later }
def FnExactMayAtCardSaid : Prop := Claim7.holds Tryd.pinned (.plain (OpenSpec.ofChange fnExactMayAtSpec)) fnExactMayAtCard

/-- THE TIED CARD OF 'laws.FnExactReadFile'. -/
def fnExactReadFileCard : Claim7 := { stood := { row := fnExactReadFileRow, standIns := [], harness := (true, "8edc4f11389829de064443c8de1bd86532c92341b374bcfd1fcf93b73b1c19f9"), looks := false }, kinds := [], alts := [], laidByText := true, laidKinds := [.data, .pinned], laidTests := true, laidLooks := .later }
def FnExactReadFileCardSaid : Prop := Claim7.holds Tryd.pinned (.plain (OpenSpec.ofChange fnExactReadFileSpec)) fnExactReadFileCard

/-- THE TIED CARD OF 'laws.FnExactPlaceFor'. -/
def fnExactPlaceForCard : Claim7 := { stood := { row := fnExactPlaceForRow, standIns := [], harness := (true, "8edc4f11389829de064443c8de1bd86532c92341b374bcfd1fcf93b73b1c19f9"), looks := false }, kinds := [], alts := [], laidByText := true, laidKinds := [.data, .pinned], laidTests := true, laidLooks := .later }
def FnExactPlaceForCardSaid : Prop := Claim7.holds Tryd.pinned (.plain (OpenSpec.ofChange fnExactPlaceForSpec)) fnExactPlaceForCard

/-- THE TIED CARD OF 'laws.FnExactMayDrop'. -/
def fnExactMayDropCard : Claim7 := { stood := { row := fnExactMayDropRow, standIns := [], harness := (true, "8edc4f11389829de064443c8de1bd86532c92341b374bcfd1fcf93b73b1c19f9"), looks := false }, kinds := [], alts := [], laidByText := true, laidKinds := [.data, .pinned], laidTests := true, laidLooks := .later }
def FnExactMayDropCardSaid : Prop := Claim7.holds Tryd.pinned (.plain (OpenSpec.ofChange fnExactMayDropSpec)) fnExactMayDropCard

/-- THE TIED CARD OF 'laws.FnExactListNames'. -/
def fnExactListNamesCard : Claim7 := { stood := { row := fnExactListNamesRow, standIns := [], harness := (true, "8edc4f11389829de064443c8de1bd86532c92341b374bcfd1fcf93b73b1c19f9"), looks := false }, kinds := [], alts := [], laidByText := true, laidKinds := [.data, .pinned], laidTests := true, laidLooks := .later }
def FnExactListNamesCardSaid : Prop := Claim7.holds Tryd.pinned (.plain (OpenSpec.ofChange fnExactListNamesSpec)) fnExactListNamesCard

/-- THE TIED CARD OF 'laws.FnExactChangeMode'. -/
def fnExactChangeModeCard : Claim7 := { stood := { row := fnExactChangeModeRow, standIns := [], harness := (true, "8edc4f11389829de064443c8de1bd86532c92341b374bcfd1fcf93b73b1c19f9"), looks := false }, kinds := [], alts := [], laidByText := true, laidKinds := [.data, .pinned], laidTests := true, laidLooks := .later }
def FnExactChangeModeCardSaid : Prop := Claim7.holds Tryd.pinned (.plain (OpenSpec.ofChange fnExactChangeModeSpec)) fnExactChangeModeCard

/-- THE TIED CARD OF 'laws.FnExactGiveNode'. -/
def fnExactGiveNodeCard : Claim7 := { stood := { row := fnExactGiveNodeRow, standIns := [], harness := (true, "8edc4f11389829de064443c8de1bd86532c92341b374bcfd1fcf93b73b1c19f9"), looks := false }, kinds := [], alts := [], laidByText := true, laidKinds := [.data, .pinned], laidTests := true, laidLooks := .later }
def FnExactGiveNodeCardSaid : Prop := Claim7.holds Tryd.pinned (.plain (OpenSpec.ofChange fnExactGiveNodeSpec)) fnExactGiveNodeCard

/-- THE TIED CARD OF 'laws.FnExactWriteFile'. -/
def fnExactWriteFileCard : Claim7 := { stood := { row := fnExactWriteFileRow, standIns := [], harness := (true, "8edc4f11389829de064443c8de1bd86532c92341b374bcfd1fcf93b73b1c19f9"), looks := false }, kinds := [], alts := [], laidByText := true, laidKinds := [.data, .pinned], laidTests := true, laidLooks := .later }
def FnExactWriteFileCardSaid : Prop := Claim7.holds Tryd.pinned (.plain (OpenSpec.ofChange fnExactWriteFileSpec)) fnExactWriteFileCard

/-- THE SECOND FORM's CARD OF 'laws.FnExactFindNode'. -/
def fnExactFindNodeUptoCard : Claim7 := { stood := { row := fnExactFindNodeUptoRow, standIns := [], harness := (true, "8edc4f11389829de064443c8de1bd86532c92341b374bcfd1fcf93b73b1c19f9"), looks := false }, kinds := [], alts := [], laidByText := true, laidKinds := [.data, .pinned], laidTests := true, laidLooks := .later }
def FnExactFindNodeUptoCardSaid : Prop := Claim7.holds Tryd.pinned (.plain (OpenSpec.upto fnExactFindNodeSpec)) fnExactFindNodeUptoCard

/-- THE SECOND FORM's CARD OF 'laws.FnExactSameFile'. -/
def fnExactSameFileUptoCard : Claim7 := { stood := { row := fnExactSameFileUptoRow, standIns := [], harness := (true, "8edc4f11389829de064443c8de1bd86532c92341b374bcfd1fcf93b73b1c19f9"), looks := false }, kinds := [], alts := [], laidByText := true, laidKinds := [.data, .pinned], laidTests := true, laidLooks := .later }
def FnExactSameFileUptoCardSaid : Prop := Claim7.holds Tryd.pinned (.plain (OpenSpec.upto fnExactSameFileSpec)) fnExactSameFileUptoCard

/-- THE SECOND FORM's CARD OF 'laws.FnExactMayAt'. -/
def fnExactMayAtUptoCard : Claim7 := { stood := { row := fnExactMayAtUptoRow, standIns := [], harness := (true, "8edc4f11389829de064443c8de1bd86532c92341b374bcfd1fcf93b73b1c19f9"), looks := false }, kinds := [], alts := [], laidByText := true, laidKinds := [.data, .pinned], laidTests := true, laidLooks := .later }
def FnExactMayAtUptoCardSaid : Prop := Claim7.holds Tryd.pinned (.plain (OpenSpec.upto fnExactMayAtSpec)) fnExactMayAtUptoCard

/-- THE SECOND FORM's CARD OF 'laws.FnExactReadFile'. -/
def fnExactReadFileUptoCard : Claim7 := { stood := { row := fnExactReadFileUptoRow, standIns := [], harness := (true, "8edc4f11389829de064443c8de1bd86532c92341b374bcfd1fcf93b73b1c19f9"), looks := false }, kinds := [], alts := [], laidByText := true, laidKinds := [.data, .pinned], laidTests := true, laidLooks := .later }
def FnExactReadFileUptoCardSaid : Prop := Claim7.holds Tryd.pinned (.plain (OpenSpec.upto fnExactReadFileSpec)) fnExactReadFileUptoCard

/-- THE SECOND FORM's CARD OF 'laws.FnExactPlaceFor'. -/
def fnExactPlaceForUptoCard : Claim7 := { stood := { row := fnExactPlaceForUptoRow, standIns := [], harness := (true, "8edc4f11389829de064443c8de1bd86532c92341b374bcfd1fcf93b73b1c19f9"), looks := false }, kinds := [], alts := [], laidByText := true, laidKinds := [.data, .pinned], laidTests := true, laidLooks := .later }
def FnExactPlaceForUptoCardSaid : Prop := Claim7.holds Tryd.pinned (.plain (OpenSpec.upto fnExactPlaceForSpec)) fnExactPlaceForUptoCard

/-- THE SECOND FORM's CARD OF 'laws.FnExactMayDrop'. -/
def fnExactMayDropUptoCard : Claim7 := { stood := { row := fnExactMayDropUptoRow, standIns := [], harness := (true, "8edc4f11389829de064443c8de1bd86532c92341b374bcfd1fcf93b73b1c19f9"), looks := false }, kinds := [], alts := [], laidByText := true, laidKinds := [.data, .pinned], laidTests := true, laidLooks := .later }
def FnExactMayDropUptoCardSaid : Prop := Claim7.holds Tryd.pinned (.plain (OpenSpec.upto fnExactMayDropSpec)) fnExactMayDropUptoCard

/-- THE SECOND FORM's CARD OF 'laws.FnExactListNames'. -/
def fnExactListNamesUptoCard : Claim7 := { stood := { row := fnExactListNamesUptoRow, standIns := [], harness := (true, "8edc4f11389829de064443c8de1bd86532c92341b374bcfd1fcf93b73b1c19f9"), looks := false }, kinds := [], alts := [], laidByText := true, laidKinds := [.data, .pinned], laidTests := true, laidLooks := .later }
def FnExactListNamesUptoCardSaid : Prop := Claim7.holds Tryd.pinned (.plain (OpenSpec.upto fnExactListNamesSpec)) fnExactListNamesUptoCard

/-- THE SECOND FORM's CARD OF 'laws.FnExactChangeMode'. -/
def fnExactChangeModeUptoCard : Claim7 := { stood := { row := fnExactChangeModeUptoRow, standIns := [], harness := (true, "8edc4f11389829de064443c8de1bd86532c92341b374bcfd1fcf93b73b1c19f9"), looks := false }, kinds := [], alts := [], laidByText := true, laidKinds := [.data, .pinned], laidTests := true, laidLooks := .later }
def FnExactChangeModeUptoCardSaid : Prop := Claim7.holds Tryd.pinned (.plain (OpenSpec.upto fnExactChangeModeSpec)) fnExactChangeModeUptoCard

/-- THE SECOND FORM's CARD OF 'laws.FnExactGiveNode'. -/
def fnExactGiveNodeUptoCard : Claim7 := { stood := { row := fnExactGiveNodeUptoRow, standIns := [], harness := (true, "8edc4f11389829de064443c8de1bd86532c92341b374bcfd1fcf93b73b1c19f9"), looks := false }, kinds := [], alts := [], laidByText := true, laidKinds := [.data, .pinned], laidTests := true, laidLooks := .later }
def FnExactGiveNodeUptoCardSaid : Prop := Claim7.holds Tryd.pinned (.plain (OpenSpec.upto fnExactGiveNodeSpec)) fnExactGiveNodeUptoCard

/-- THE SECOND FORM's CARD OF 'laws.FnExactWriteFile'. -/
def fnExactWriteFileUptoCard : Claim7 := { stood := { row := fnExactWriteFileUptoRow, standIns := [], harness := (true, "8edc4f11389829de064443c8de1bd86532c92341b374bcfd1fcf93b73b1c19f9"), looks := false }, kinds := [], alts := [], laidByText := true, laidKinds := [.data, .pinned], laidTests := true, laidLooks := .later }
def FnExactWriteFileUptoCardSaid : Prop := Claim7.holds Tryd.pinned (.plain (OpenSpec.upto fnExactWriteFileSpec)) fnExactWriteFileUptoCard
end Rows
end Go.Proofs.YtikhdlgjfddedaaDoor
