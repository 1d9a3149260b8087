/-
  DERIVED. GIVEN WITH THE SEED: THE CARDS: each row of YtlnlpholhnbifaaDoorRows.lean that lists a variable, with what it lists TIED to the program's text (the seventh form; the later family's looks); each row that meets fmt, with fmt's text TOLD by the authors' own Lean function (tested against real Go, not proved from fmt's source: count such statements apart). THE CARD IS WHAT COUNTS. Prove the row's statement (the work); the ties are given (YtlnlpholhnbifaaDoorTie.lean); close each card by the builder's one call (the guide's Derived/Test/ToyasCard.lean, 'card_holds'). Laid BY PROGRAM, IN A SANDBOX (cutbox-door.mjs). By AI agents, Wed Nov 11 2026. No macro, syntax, notation, axiom, sorry.
-/
import Derived.Test.YtlnlpholhnbifaaDoorRows
import GoSem.ClaimSeven
namespace Go.Proofs.YtlnlpholhnbifaaDoor
namespace Rows

/-- THE TIED CARD OF 'laws.FnExactAboveOf'. -/
def fnExactAboveOfCard : Claim7 := { stood := { row := fnExactAboveOfRow, standIns := [], harness := (true, "a89723e2d3387c80b5a5c0e2c7cf7c5abc307fd3d798e3a2c6e09770759acb4b"), looks := false }, kinds := [], alts := [], laidByText := true, laidKinds := [.data, .pinned], laidTests := true, laidLooks := .later }
def FnExactAboveOfCardSaid : Prop := Claim7.holds Tryd.pinned (.plain (OpenSpec.ofChange fnExactAboveOfSpec)) fnExactAboveOfCard

/-- THE TIED CARD OF 'laws.FnExactPathParts'. -/
def fnExactPathPartsCard : Claim7 := { stood := { row := fnExactPathPartsRow, standIns := [], harness := (true, "a89723e2d3387c80b5a5c0e2c7cf7c5abc307fd3d798e3a2c6e09770759acb4b"), looks := false }, kinds := [], alts := [], laidByText := true, laidKinds := [.data, .pinned], laidTests := true, laidLooks := .later }
def FnExactPathPartsCardSaid : Prop := Claim7.holds Tryd.pinned (.plain (OpenSpec.ofChange fnExactPathPartsSpec)) fnExactPathPartsCard

/-- THE TIED CARD OF 'laws.FnJoinPath'. -/
def fnJoinPathCard : Claim7 := { stood := { row := fnJoinPathRow, standIns := [], harness := (true, "a89723e2d3387c80b5a5c0e2c7cf7c5abc307fd3d798e3a2c6e09770759acb4b"), looks := false }, kinds := [], alts := [], laidByText := true, laidKinds := [.data, .pinned], laidTests := true, laidLooks := .later }
def FnJoinPathCardSaid : Prop := Claim7.holds Tryd.pinned (.plain (OpenSpec.ofChange fnJoinPathSpec)) fnJoinPathCard

/-- THE TIED CARD OF 'laws.FnPathParts'. -/
def fnPathPartsCard : Claim7 := { stood := { row := fnPathPartsRow, standIns := [], harness := (true, "a89723e2d3387c80b5a5c0e2c7cf7c5abc307fd3d798e3a2c6e09770759acb4b"), looks := false }, kinds := [], alts := [], laidByText := true, laidKinds := [.data, .pinned], laidTests := true, laidLooks := .later }
def FnPathPartsCardSaid : Prop := Claim7.holds Tryd.pinned (.plain (OpenSpec.ofChange fnPathPartsSpec)) fnPathPartsCard

/-- THE SECOND FORM's CARD OF 'laws.FnExactAboveOf'. -/
def fnExactAboveOfUptoCard : Claim7 := { stood := { row := fnExactAboveOfUptoRow, standIns := [], harness := (true, "a89723e2d3387c80b5a5c0e2c7cf7c5abc307fd3d798e3a2c6e09770759acb4b"), looks := false }, kinds := [], alts := [], laidByText := true, laidKinds := [.data, .pinned], laidTests := true, laidLooks := .later }
def FnExactAboveOfUptoCardSaid : Prop := Claim7.holds Tryd.pinned (.plain (OpenSpec.upto fnExactAboveOfSpec)) fnExactAboveOfUptoCard

/-- THE SECOND FORM's CARD OF 'laws.FnExactPathParts'. -/
def fnExactPathPartsUptoCard : Claim7 := { stood := { row := fnExactPathPartsUptoRow, standIns := [], harness := (true, "a89723e2d3387c80b5a5c0e2c7cf7c5abc307fd3d798e3a2c6e09770759acb4b"), looks := false }, kinds := [], alts := [], laidByText := true, laidKinds := [.data, .pinned], laidTests := true, laidLooks := .later }
def FnExactPathPartsUptoCardSaid : Prop := Claim7.holds Tryd.pinned (.plain (OpenSpec.upto fnExactPathPartsSpec)) fnExactPathPartsUptoCard

/-- THE SECOND FORM's CARD OF 'laws.FnJoinPath'. -/
def fnJoinPathUptoCard : Claim7 := { stood := { row := fnJoinPathUptoRow, standIns := [], harness := (true, "a89723e2d3387c80b5a5c0e2c7cf7c5abc307fd3d798e3a2c6e09770759acb4b"), looks := false }, kinds := [], alts := [], laidByText := true, laidKinds := [.data, .pinned], laidTests := true, laidLooks := .later }
def FnJoinPathUptoCardSaid : Prop := Claim7.holds Tryd.pinned (.plain (OpenSpec.upto fnJoinPathSpec)) fnJoinPathUptoCard

/-- THE SECOND FORM's CARD OF 'laws.FnPathParts'. -/
def fnPathPartsUptoCard : Claim7 := { stood := { row := fnPathPartsUptoRow, standIns := [], harness := (true, "a89723e2d3387c80b5a5c0e2c7cf7c5abc307fd3d798e3a2c6e09770759acb4b"), looks := false }, kinds := [], alts := [], laidByText := true, laidKinds := [.data, .pinned], laidTests := true, laidLooks := .later }
def FnPathPartsUptoCardSaid : Prop := Claim7.holds Tryd.pinned (.plain (OpenSpec.upto fnPathPartsSpec)) fnPathPartsUptoCard
end Rows
end Go.Proofs.YtlnlpholhnbifaaDoor
