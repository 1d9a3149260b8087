/-
  DERIVED. GIVEN WITH THE SEED: THE CARDS: each row of YtbnjjpgacemicaaGreatDoorRows.lean that lists a variable, with what it lists TIED to the program's text (the seventh form; the later family's looks); each row that meets fmt, with fmt's text TOLD by the authors' own Lean function (tested against real Go, not proved from fmt's source: count such statements apart). THE CARD IS WHAT COUNTS. Prove the row's statement (the work); the ties are given (YtbnjjpgacemicaaGreatDoorTie.lean); close each card by the builder's one call (the guide's Derived/Test/ToyasCard.lean, 'card_holds'). Laid BY PROGRAM, IN A SANDBOX (cutbox-door.mjs). By AI agents, Wed Nov 11 2026. No macro, syntax, notation, axiom, sorry.
-/
import Derived.Test.YtbnjjpgacemicaaGreatDoorRows
import GoSem.ClaimSeven
namespace Go.Proofs.YtbnjjpgacemicaaGreatDoor
namespace Rows

/-- THE TIED CARD OF 'laws.FnExactDropName'. -/
def fnExactDropNameCard : Claim7 := { stood := { row := fnExactDropNameRow, standIns := [], harness := (true, "853babf7f4b1fb43098aa917b59561aca5afb03885ec0f9804264bb03d2e8c4e"), looks := false }, kinds := [], alts := [], laidByText := true, laidKinds := [.data, .pinned], laidTests := true, laidLooks := .later }
def FnExactDropNameCardSaid : Prop := Claim7.holds Tryz.pinned (.plain (OpenSpec.ofChange fnExactDropNameSpec)) fnExactDropNameCard

/-- THE TIED CARD OF 'laws.FnExactMakeNode'. -/
def fnExactMakeNodeCard : Claim7 := { stood := { row := fnExactMakeNodeRow, standIns := [], harness := (true, "853babf7f4b1fb43098aa917b59561aca5afb03885ec0f9804264bb03d2e8c4e"), looks := false }, kinds := [], alts := [], laidByText := true, laidKinds := [.data, .pinned], laidTests := true, laidLooks := .later }
def FnExactMakeNodeCardSaid : Prop := Claim7.holds Tryz.pinned (.plain (OpenSpec.ofChange fnExactMakeNodeSpec)) fnExactMakeNodeCard

/-- THE TIED CARD OF 'laws.FnExactLinkName'. -/
def fnExactLinkNameCard : Claim7 := { stood := { row := fnExactLinkNameRow, standIns := [], harness := (true, "853babf7f4b1fb43098aa917b59561aca5afb03885ec0f9804264bb03d2e8c4e"), looks := false }, kinds := [], alts := [], laidByText := true, laidKinds := [.data, .pinned], laidTests := true, laidLooks := .later }
def FnExactLinkNameCardSaid : Prop := Claim7.holds Tryz.pinned (.plain (OpenSpec.ofChange fnExactLinkNameSpec)) fnExactLinkNameCard

/-- THE TIED CARD OF 'laws.FnExactMakeFolders'. -/
def fnExactMakeFoldersCard : Claim7 := { stood := { row := fnExactMakeFoldersRow, standIns := [], harness := (true, "853babf7f4b1fb43098aa917b59561aca5afb03885ec0f9804264bb03d2e8c4e"), looks := false }, kinds := [], alts := [], laidByText := true, laidKinds := [.data, .pinned], laidTests := true, laidLooks := .later }
def FnExactMakeFoldersCardSaid : Prop := Claim7.holds Tryz.pinned (.plain (OpenSpec.ofChange fnExactMakeFoldersSpec)) fnExactMakeFoldersCard

/-- THE TIED CARD OF 'laws.FnExactMoveName'. -/
def fnExactMoveNameCard : Claim7 := { stood := { row := fnExactMoveNameRow, standIns := [], harness := (true, "853babf7f4b1fb43098aa917b59561aca5afb03885ec0f9804264bb03d2e8c4e"), looks := false }, kinds := [], alts := [], laidByText := true, laidKinds := [.data, .pinned], laidTests := true, laidLooks := .later }
def FnExactMoveNameCardSaid : Prop := Claim7.holds Tryz.pinned (.plain (OpenSpec.ofChange fnExactMoveNameSpec)) fnExactMoveNameCard

/-- THE TIED CARD OF 'laws.FnExactCopyFile'. -/
def fnExactCopyFileCard : Claim7 := { stood := { row := fnExactCopyFileRow, standIns := [], harness := (true, "853babf7f4b1fb43098aa917b59561aca5afb03885ec0f9804264bb03d2e8c4e"), looks := false }, kinds := [], alts := [], laidByText := true, laidKinds := [.data, .pinned], laidTests := true, laidLooks := .later }
def FnExactCopyFileCardSaid : Prop := Claim7.holds Tryz.pinned (.plain (OpenSpec.ofChange fnExactCopyFileSpec)) fnExactCopyFileCard

/-- THE SECOND FORM's CARD OF 'laws.FnExactDropName'. -/
def fnExactDropNameUptoCard : Claim7 := { stood := { row := fnExactDropNameUptoRow, standIns := [], harness := (true, "853babf7f4b1fb43098aa917b59561aca5afb03885ec0f9804264bb03d2e8c4e"), looks := false }, kinds := [], alts := [], laidByText := true, laidKinds := [.data, .pinned], laidTests := true, laidLooks := .later }
def FnExactDropNameUptoCardSaid : Prop := Claim7.holds Tryz.pinned (.plain (OpenSpec.upto fnExactDropNameSpec)) fnExactDropNameUptoCard

/-- THE SECOND FORM's CARD OF 'laws.FnExactMakeNode'. -/
def fnExactMakeNodeUptoCard : Claim7 := { stood := { row := fnExactMakeNodeUptoRow, standIns := [], harness := (true, "853babf7f4b1fb43098aa917b59561aca5afb03885ec0f9804264bb03d2e8c4e"), looks := false }, kinds := [], alts := [], laidByText := true, laidKinds := [.data, .pinned], laidTests := true, laidLooks := .later }
def FnExactMakeNodeUptoCardSaid : Prop := Claim7.holds Tryz.pinned (.plain (OpenSpec.upto fnExactMakeNodeSpec)) fnExactMakeNodeUptoCard

/-- THE SECOND FORM's CARD OF 'laws.FnExactLinkName'. -/
def fnExactLinkNameUptoCard : Claim7 := { stood := { row := fnExactLinkNameUptoRow, standIns := [], harness := (true, "853babf7f4b1fb43098aa917b59561aca5afb03885ec0f9804264bb03d2e8c4e"), looks := false }, kinds := [], alts := [], laidByText := true, laidKinds := [.data, .pinned], laidTests := true, laidLooks := .later }
def FnExactLinkNameUptoCardSaid : Prop := Claim7.holds Tryz.pinned (.plain (OpenSpec.upto fnExactLinkNameSpec)) fnExactLinkNameUptoCard

/-- THE SECOND FORM's CARD OF 'laws.FnExactMakeFolders'. -/
def fnExactMakeFoldersUptoCard : Claim7 := { stood := { row := fnExactMakeFoldersUptoRow, standIns := [], harness := (true, "853babf7f4b1fb43098aa917b59561aca5afb03885ec0f9804264bb03d2e8c4e"), looks := false }, kinds := [], alts := [], laidByText := true, laidKinds := [.data, .pinned], laidTests := true, laidLooks := .later }
def FnExactMakeFoldersUptoCardSaid : Prop := Claim7.holds Tryz.pinned (.plain (OpenSpec.upto fnExactMakeFoldersSpec)) fnExactMakeFoldersUptoCard

/-- THE SECOND FORM's CARD OF 'laws.FnExactMoveName'. -/
def fnExactMoveNameUptoCard : Claim7 := { stood := { row := fnExactMoveNameUptoRow, standIns := [], harness := (true, "853babf7f4b1fb43098aa917b59561aca5afb03885ec0f9804264bb03d2e8c4e"), looks := false }, kinds := [], alts := [], laidByText := true, laidKinds := [.data, .pinned], laidTests := true, laidLooks := .later }
def FnExactMoveNameUptoCardSaid : Prop := Claim7.holds Tryz.pinned (.plain (OpenSpec.upto fnExactMoveNameSpec)) fnExactMoveNameUptoCard

/-- THE SECOND FORM's CARD OF 'laws.FnExactCopyFile'. -/
def fnExactCopyFileUptoCard : Claim7 := { stood := { row := fnExactCopyFileUptoRow, standIns := [], harness := (true, "853babf7f4b1fb43098aa917b59561aca5afb03885ec0f9804264bb03d2e8c4e"), looks := false }, kinds := [], alts := [], laidByText := true, laidKinds := [.data, .pinned], laidTests := true, laidLooks := .later }
def FnExactCopyFileUptoCardSaid : Prop := Claim7.holds Tryz.pinned (.plain (OpenSpec.upto fnExactCopyFileSpec)) fnExactCopyFileUptoCard
end Rows
end Go.Proofs.YtbnjjpgacemicaaGreatDoor
