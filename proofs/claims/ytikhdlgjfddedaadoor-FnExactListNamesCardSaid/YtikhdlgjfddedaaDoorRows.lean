/-
  NARROWER THAN 'FOR EVERY INPUT', by the rows' own cells (each row's printed sentence says how): FnExactFindNode: laid · FnExactSameFile: laid · FnExactMayAt: laid · FnExactReadFile: laid · FnExactPlaceFor: laid · FnExactMayDrop: laid · FnExactListNames: laid · FnExactChangeMode: laid · FnExactGiveNode: laid · FnExactWriteFile: laid.
  DERIVED. THE GIVEN ROWS OF THIS SEAT. 10 by the template 'for every input the law returns true; each argument reads behind the call as it read before'; 0 by the template 'total and deterministic' (their statements: YtikhdlgjfddedaaDoorTotals.lean).
  GIVEN WITH THE SEED: the statements are not yours to turn. If you find one false, say at which input.
  Laid BY PROGRAM, IN A SANDBOX (cutbox-rows.mjs): the forced cells as the released guide's own fill.sh prints them over the translation ba4c32301396d54a… (all of the seat's roots in one cut). By AI agents, Wed Nov 11 2026. No macro, syntax, notation, axiom, sorry.
-/
import Derived.Test.YtikhdlgjfddedaaDoorChecked
import GoSem.PinnedTables
import GoSem.Claim
import GoSem.ClaimJoined
import GoSem.ClaimMapViews
import Derived.JoinedTies
import Derived.KernelRfl
namespace Go.Proofs.YtikhdlgjfddedaaDoor
/- THE CELL 'sum', in the pinned program and in every row, IS THE sha256 OF THE DUMP (.gsa) THAT YtikhdlgjfddedaaDoorProg.lean LOADS. Nothing in Lean hashes anything: it is a label: what it is worth is what the hold of that sum in a sandbox is worth. -/
noncomputable def Tryd.pinned : Pinned := { name := "ytikhdlgjfddedaadoor", sum := "ba4c32301396d54aba7ee8c67255e1af2caf19aa850393e96f17804c54cb2a8c", checked := Tryd.checked }
namespace Rows
def none {H : Type} : Left H := { results := [], args := [] }

/- WHAT THE LISTED PACKAGE-LEVEL VARIABLES READ AS WHEN THE CALL BEGINS. Each datum BY PROGRAM (the guide's laid-datum.mjs) off the statement by which the dump's own 'gosem.cut.vars' lays the variable. In a bare row this is a premise. The card (YtikhdlgjfddedaaDoorCards.lean) ties it to the program's text. -/
def laid_unicode_utf8_acceptRanges {H : Type} : DataW H := .agg [.agg [.lit (.int .u8 128), .lit (.int .u8 191)], .agg [.lit (.int .u8 160), .lit (.int .u8 191)], .agg [.lit (.int .u8 128), .lit (.int .u8 159)], .agg [.lit (.int .u8 144), .lit (.int .u8 191)], .agg [.lit (.int .u8 128), .lit (.int .u8 143)], .agg [.lit (.int .u8 0), .lit (.int .u8 0)], .agg [.lit (.int .u8 0), .lit (.int .u8 0)], .agg [.lit (.int .u8 0), .lit (.int .u8 0)], .agg [.lit (.int .u8 0), .lit (.int .u8 0)], .agg [.lit (.int .u8 0), .lit (.int .u8 0)], .agg [.lit (.int .u8 0), .lit (.int .u8 0)], .agg [.lit (.int .u8 0), .lit (.int .u8 0)], .agg [.lit (.int .u8 0), .lit (.int .u8 0)], .agg [.lit (.int .u8 0), .lit (.int .u8 0)], .agg [.lit (.int .u8 0), .lit (.int .u8 0)], .agg [.lit (.int .u8 0), .lit (.int .u8 0)]]
/-- One of Go's own tables, pinned by name: the form's constant. -/
def laid_unicode_utf8_first : DataW Unit := Go.Pinned.utf8First

/-- 'laws.FnExactFindNode': WHATEVER THE INPUT: true; the input reads as it did. -/
def fnExactFindNodeSpec : ChangeSpec := { name := "fnExactFindNode", fn := fun _ => fun
  | [d1, d2, d3] => { results := [.lit (.bool true)], args := [d1, d2, d3] }
  | _ => none }
def fnExactFindNodeRow : OpenClaim := { program := "ytikhdlgjfddedaadoor", sum := "ba4c32301396d54aba7ee8c67255e1af2caf19aa850393e96f17804c54cb2a8c", func := "loop.example/userspaces/laws.FnExactFindNode", spec := "fnExactFindNode", inPlace := ["internal/bytealg.CountString", "internal/bytealg.IndexByteString", "internal/bytealg.IndexString", "internal/abi.NoEscape", "internal/bytealg.MakeNoZero"], unfollowed := true, recurses := true, named := ["unicode/utf8.first", "unicode/utf8.acceptRanges", "internal/bytealg.MaxLen"], apart := false, laid := [("unicode/utf8.acceptRanges", laid_unicode_utf8_acceptRanges), ("unicode/utf8.first", laid_unicode_utf8_first)] }
def FnExactFindNodeSaid : Prop := fnExactFindNodeRow.holds Tryd.pinned (OpenSpec.ofChange fnExactFindNodeSpec)

/-- ITS FALSE NEIGHBOUR: 'it returns false'. Refute it at one input. -/
def fnExactFindNodeWrong : ChangeSpec := { name := "fnExactFindNode", fn := fun _ => fun
  | [d1, d2, d3] => { results := [.lit (.bool false)], args := [d1, d2, d3] }
  | _ => none }
def FnExactFindNodeWrongFalsely : Prop := fnExactFindNodeRow.holds Tryd.pinned (OpenSpec.ofChange fnExactFindNodeWrong)

/-- 'laws.FnExactSameFile': WHATEVER THE INPUT: true; the input reads as it did. -/
def fnExactSameFileSpec : ChangeSpec := { name := "fnExactSameFile", fn := fun _ => fun
  | [d1, d2, d3, d4] => { results := [.lit (.bool true)], args := [d1, d2, d3, d4] }
  | _ => none }
def fnExactSameFileRow : OpenClaim := { program := "ytikhdlgjfddedaadoor", sum := "ba4c32301396d54aba7ee8c67255e1af2caf19aa850393e96f17804c54cb2a8c", func := "loop.example/userspaces/laws.FnExactSameFile", spec := "fnExactSameFile", inPlace := ["internal/bytealg.CountString", "internal/bytealg.IndexByteString", "internal/bytealg.IndexString", "internal/abi.NoEscape", "internal/bytealg.MakeNoZero"], unfollowed := true, recurses := true, named := ["unicode/utf8.first", "unicode/utf8.acceptRanges", "internal/bytealg.MaxLen"], apart := false, laid := [("unicode/utf8.acceptRanges", laid_unicode_utf8_acceptRanges), ("unicode/utf8.first", laid_unicode_utf8_first)] }
def FnExactSameFileSaid : Prop := fnExactSameFileRow.holds Tryd.pinned (OpenSpec.ofChange fnExactSameFileSpec)

/-- ITS FALSE NEIGHBOUR: 'it returns false'. Refute it at one input. -/
def fnExactSameFileWrong : ChangeSpec := { name := "fnExactSameFile", fn := fun _ => fun
  | [d1, d2, d3, d4] => { results := [.lit (.bool false)], args := [d1, d2, d3, d4] }
  | _ => none }
def FnExactSameFileWrongFalsely : Prop := fnExactSameFileRow.holds Tryd.pinned (OpenSpec.ofChange fnExactSameFileWrong)

/-- 'laws.FnExactMayAt': WHATEVER THE INPUT: true; the input reads as it did. -/
def fnExactMayAtSpec : ChangeSpec := { name := "fnExactMayAt", fn := fun _ => fun
  | [d1, d2, d3, d4] => { results := [.lit (.bool true)], args := [d1, d2, d3, d4] }
  | _ => none }
def fnExactMayAtRow : OpenClaim := { program := "ytikhdlgjfddedaadoor", sum := "ba4c32301396d54aba7ee8c67255e1af2caf19aa850393e96f17804c54cb2a8c", func := "loop.example/userspaces/laws.FnExactMayAt", spec := "fnExactMayAt", inPlace := ["internal/bytealg.CountString", "internal/bytealg.IndexByteString", "internal/bytealg.IndexString", "internal/abi.NoEscape", "internal/bytealg.MakeNoZero"], unfollowed := true, recurses := true, named := ["unicode/utf8.first", "unicode/utf8.acceptRanges", "internal/bytealg.MaxLen"], apart := false, laid := [("unicode/utf8.acceptRanges", laid_unicode_utf8_acceptRanges), ("unicode/utf8.first", laid_unicode_utf8_first)] }
def FnExactMayAtSaid : Prop := fnExactMayAtRow.holds Tryd.pinned (OpenSpec.ofChange fnExactMayAtSpec)

/-- ITS FALSE NEIGHBOUR: 'it returns false'. Refute it at one input. -/
def fnExactMayAtWrong : ChangeSpec := { name := "fnExactMayAt", fn := fun _ => fun
  | [d1, d2, d3, d4] => { results := [.lit (.bool false)], args := [d1, d2, d3, d4] }
  | _ => none }
def FnExactMayAtWrongFalsely : Prop := fnExactMayAtRow.holds Tryd.pinned (OpenSpec.ofChange fnExactMayAtWrong)

/-- 'laws.FnExactReadFile': WHATEVER THE INPUT: true; the input reads as it did. -/
def fnExactReadFileSpec : ChangeSpec := { name := "fnExactReadFile", fn := fun _ => fun
  | [d1, d2, d3] => { results := [.lit (.bool true)], args := [d1, d2, d3] }
  | _ => none }
def fnExactReadFileRow : OpenClaim := { program := "ytikhdlgjfddedaadoor", sum := "ba4c32301396d54aba7ee8c67255e1af2caf19aa850393e96f17804c54cb2a8c", func := "loop.example/userspaces/laws.FnExactReadFile", spec := "fnExactReadFile", inPlace := ["internal/bytealg.CountString", "internal/bytealg.IndexByteString", "internal/bytealg.IndexString", "internal/abi.NoEscape", "internal/bytealg.MakeNoZero"], unfollowed := true, recurses := true, named := ["unicode/utf8.first", "unicode/utf8.acceptRanges", "internal/bytealg.MaxLen"], apart := false, laid := [("unicode/utf8.acceptRanges", laid_unicode_utf8_acceptRanges), ("unicode/utf8.first", laid_unicode_utf8_first)] }
def FnExactReadFileSaid : Prop := fnExactReadFileRow.holds Tryd.pinned (OpenSpec.ofChange fnExactReadFileSpec)

/-- ITS FALSE NEIGHBOUR: 'it returns false'. Refute it at one input. -/
def fnExactReadFileWrong : ChangeSpec := { name := "fnExactReadFile", fn := fun _ => fun
  | [d1, d2, d3] => { results := [.lit (.bool false)], args := [d1, d2, d3] }
  | _ => none }
def FnExactReadFileWrongFalsely : Prop := fnExactReadFileRow.holds Tryd.pinned (OpenSpec.ofChange fnExactReadFileWrong)

/-- 'laws.FnExactPlaceFor': WHATEVER THE INPUT: true; the input reads as it did. -/
def fnExactPlaceForSpec : ChangeSpec := { name := "fnExactPlaceFor", fn := fun _ => fun
  | [d1, d2, d3] => { results := [.lit (.bool true)], args := [d1, d2, d3] }
  | _ => none }
def fnExactPlaceForRow : OpenClaim := { program := "ytikhdlgjfddedaadoor", sum := "ba4c32301396d54aba7ee8c67255e1af2caf19aa850393e96f17804c54cb2a8c", func := "loop.example/userspaces/laws.FnExactPlaceFor", spec := "fnExactPlaceFor", inPlace := ["internal/bytealg.CountString", "internal/bytealg.IndexByteString", "internal/bytealg.IndexString", "internal/abi.NoEscape", "internal/bytealg.MakeNoZero"], unfollowed := true, recurses := true, named := ["unicode/utf8.first", "unicode/utf8.acceptRanges", "internal/bytealg.MaxLen"], apart := false, laid := [("unicode/utf8.acceptRanges", laid_unicode_utf8_acceptRanges), ("unicode/utf8.first", laid_unicode_utf8_first)] }
def FnExactPlaceForSaid : Prop := fnExactPlaceForRow.holds Tryd.pinned (OpenSpec.ofChange fnExactPlaceForSpec)

/-- ITS FALSE NEIGHBOUR: 'it returns false'. Refute it at one input. -/
def fnExactPlaceForWrong : ChangeSpec := { name := "fnExactPlaceFor", fn := fun _ => fun
  | [d1, d2, d3] => { results := [.lit (.bool false)], args := [d1, d2, d3] }
  | _ => none }
def FnExactPlaceForWrongFalsely : Prop := fnExactPlaceForRow.holds Tryd.pinned (OpenSpec.ofChange fnExactPlaceForWrong)

/-- 'laws.FnExactMayDrop': WHATEVER THE INPUT: true; the input reads as it did. -/
def fnExactMayDropSpec : ChangeSpec := { name := "fnExactMayDrop", fn := fun _ => fun
  | [d1, d2, d3] => { results := [.lit (.bool true)], args := [d1, d2, d3] }
  | _ => none }
def fnExactMayDropRow : OpenClaim := { program := "ytikhdlgjfddedaadoor", sum := "ba4c32301396d54aba7ee8c67255e1af2caf19aa850393e96f17804c54cb2a8c", func := "loop.example/userspaces/laws.FnExactMayDrop", spec := "fnExactMayDrop", inPlace := ["internal/bytealg.CountString", "internal/bytealg.IndexByteString", "internal/bytealg.IndexString", "internal/abi.NoEscape", "internal/bytealg.MakeNoZero"], unfollowed := true, recurses := true, named := ["unicode/utf8.first", "unicode/utf8.acceptRanges", "internal/bytealg.MaxLen"], apart := false, laid := [("unicode/utf8.acceptRanges", laid_unicode_utf8_acceptRanges), ("unicode/utf8.first", laid_unicode_utf8_first)] }
def FnExactMayDropSaid : Prop := fnExactMayDropRow.holds Tryd.pinned (OpenSpec.ofChange fnExactMayDropSpec)

/-- ITS FALSE NEIGHBOUR: 'it returns false'. Refute it at one input. -/
def fnExactMayDropWrong : ChangeSpec := { name := "fnExactMayDrop", fn := fun _ => fun
  | [d1, d2, d3] => { results := [.lit (.bool false)], args := [d1, d2, d3] }
  | _ => none }
def FnExactMayDropWrongFalsely : Prop := fnExactMayDropRow.holds Tryd.pinned (OpenSpec.ofChange fnExactMayDropWrong)

/-- 'laws.FnExactListNames': WHATEVER THE INPUT: true; the input reads as it did. -/
def fnExactListNamesSpec : ChangeSpec := { name := "fnExactListNames", fn := fun _ => fun
  | [d1, d2, d3] => { results := [.lit (.bool true)], args := [d1, d2, d3] }
  | _ => none }
def fnExactListNamesRow : OpenClaim := { program := "ytikhdlgjfddedaadoor", sum := "ba4c32301396d54aba7ee8c67255e1af2caf19aa850393e96f17804c54cb2a8c", func := "loop.example/userspaces/laws.FnExactListNames", spec := "fnExactListNames", inPlace := ["internal/bytealg.CountString", "internal/bytealg.IndexByteString", "internal/bytealg.IndexString", "internal/abi.NoEscape", "internal/bytealg.MakeNoZero"], unfollowed := true, recurses := true, named := ["unicode/utf8.first", "unicode/utf8.acceptRanges", "internal/bytealg.MaxLen"], apart := false, laid := [("unicode/utf8.acceptRanges", laid_unicode_utf8_acceptRanges), ("unicode/utf8.first", laid_unicode_utf8_first)] }
def FnExactListNamesSaid : Prop := fnExactListNamesRow.holds Tryd.pinned (OpenSpec.ofChange fnExactListNamesSpec)

/-- ITS FALSE NEIGHBOUR: 'it returns false'. Refute it at one input. -/
def fnExactListNamesWrong : ChangeSpec := { name := "fnExactListNames", fn := fun _ => fun
  | [d1, d2, d3] => { results := [.lit (.bool false)], args := [d1, d2, d3] }
  | _ => none }
def FnExactListNamesWrongFalsely : Prop := fnExactListNamesRow.holds Tryd.pinned (OpenSpec.ofChange fnExactListNamesWrong)

/-- 'laws.FnExactChangeMode': WHATEVER THE INPUT: true; the input reads as it did. -/
def fnExactChangeModeSpec : ChangeSpec := { name := "fnExactChangeMode", fn := fun _ => fun
  | [d1, d2, d3, d4] => { results := [.lit (.bool true)], args := [d1, d2, d3, d4] }
  | _ => none }
def fnExactChangeModeRow : OpenClaim := { program := "ytikhdlgjfddedaadoor", sum := "ba4c32301396d54aba7ee8c67255e1af2caf19aa850393e96f17804c54cb2a8c", func := "loop.example/userspaces/laws.FnExactChangeMode", spec := "fnExactChangeMode", inPlace := ["internal/bytealg.CountString", "internal/bytealg.IndexByteString", "internal/bytealg.IndexString", "internal/abi.NoEscape", "internal/bytealg.MakeNoZero"], unfollowed := true, recurses := true, named := ["unicode/utf8.first", "unicode/utf8.acceptRanges", "internal/bytealg.MaxLen"], apart := false, laid := [("unicode/utf8.acceptRanges", laid_unicode_utf8_acceptRanges), ("unicode/utf8.first", laid_unicode_utf8_first)] }
def FnExactChangeModeSaid : Prop := fnExactChangeModeRow.holds Tryd.pinned (OpenSpec.ofChange fnExactChangeModeSpec)

/-- ITS FALSE NEIGHBOUR: 'it returns false'. Refute it at one input. -/
def fnExactChangeModeWrong : ChangeSpec := { name := "fnExactChangeMode", fn := fun _ => fun
  | [d1, d2, d3, d4] => { results := [.lit (.bool false)], args := [d1, d2, d3, d4] }
  | _ => none }
def FnExactChangeModeWrongFalsely : Prop := fnExactChangeModeRow.holds Tryd.pinned (OpenSpec.ofChange fnExactChangeModeWrong)

/-- 'laws.FnExactGiveNode': WHATEVER THE INPUT: true; the input reads as it did. -/
def fnExactGiveNodeSpec : ChangeSpec := { name := "fnExactGiveNode", fn := fun _ => fun
  | [d1, d2, d3, d4, d5] => { results := [.lit (.bool true)], args := [d1, d2, d3, d4, d5] }
  | _ => none }
def fnExactGiveNodeRow : OpenClaim := { program := "ytikhdlgjfddedaadoor", sum := "ba4c32301396d54aba7ee8c67255e1af2caf19aa850393e96f17804c54cb2a8c", func := "loop.example/userspaces/laws.FnExactGiveNode", spec := "fnExactGiveNode", inPlace := ["internal/bytealg.CountString", "internal/bytealg.IndexByteString", "internal/bytealg.IndexString", "internal/abi.NoEscape", "internal/bytealg.MakeNoZero"], unfollowed := true, recurses := true, named := ["unicode/utf8.first", "unicode/utf8.acceptRanges", "internal/bytealg.MaxLen"], apart := false, laid := [("unicode/utf8.acceptRanges", laid_unicode_utf8_acceptRanges), ("unicode/utf8.first", laid_unicode_utf8_first)] }
def FnExactGiveNodeSaid : Prop := fnExactGiveNodeRow.holds Tryd.pinned (OpenSpec.ofChange fnExactGiveNodeSpec)

/-- ITS FALSE NEIGHBOUR: 'it returns false'. Refute it at one input. -/
def fnExactGiveNodeWrong : ChangeSpec := { name := "fnExactGiveNode", fn := fun _ => fun
  | [d1, d2, d3, d4, d5] => { results := [.lit (.bool false)], args := [d1, d2, d3, d4, d5] }
  | _ => none }
def FnExactGiveNodeWrongFalsely : Prop := fnExactGiveNodeRow.holds Tryd.pinned (OpenSpec.ofChange fnExactGiveNodeWrong)

/-- 'laws.FnExactWriteFile': WHATEVER THE INPUT: true; the input reads as it did. -/
def fnExactWriteFileSpec : ChangeSpec := { name := "fnExactWriteFile", fn := fun _ => fun
  | [d1, d2, d3, d4] => { results := [.lit (.bool true)], args := [d1, d2, d3, d4] }
  | _ => none }
def fnExactWriteFileRow : OpenClaim := { program := "ytikhdlgjfddedaadoor", sum := "ba4c32301396d54aba7ee8c67255e1af2caf19aa850393e96f17804c54cb2a8c", func := "loop.example/userspaces/laws.FnExactWriteFile", spec := "fnExactWriteFile", inPlace := ["internal/bytealg.CountString", "internal/bytealg.IndexByteString", "internal/bytealg.IndexString", "internal/abi.NoEscape", "internal/bytealg.MakeNoZero"], unfollowed := true, recurses := true, named := ["unicode/utf8.first", "unicode/utf8.acceptRanges", "internal/bytealg.MaxLen"], apart := false, laid := [("unicode/utf8.acceptRanges", laid_unicode_utf8_acceptRanges), ("unicode/utf8.first", laid_unicode_utf8_first)] }
def FnExactWriteFileSaid : Prop := fnExactWriteFileRow.holds Tryd.pinned (OpenSpec.ofChange fnExactWriteFileSpec)

/-- ITS FALSE NEIGHBOUR: 'it returns false'. Refute it at one input. -/
def fnExactWriteFileWrong : ChangeSpec := { name := "fnExactWriteFile", fn := fun _ => fun
  | [d1, d2, d3, d4] => { results := [.lit (.bool false)], args := [d1, d2, d3, d4] }
  | _ => none }
def FnExactWriteFileWrongFalsely : Prop := fnExactWriteFileRow.holds Tryd.pinned (OpenSpec.ofChange fnExactWriteFileWrong)

/- THE SECOND FORM. 'bulk': how many values and letters a reading holds, each counted each time it is reached (what is shared counts as often as it is met; a slice's spare places count too). A statement '..UptoSaid' is the law's where the arguments, and the package variables that the reading takes, are together of bulk at most 1048576: NARROWER than '..Said'. Prove '..Said' where nothing that the law and all that it calls make is longer than what came in: it says more and counts as full. Else prove '..UptoSaid'. A law counts once. -/
mutual
def uptoBulk {H : Type} : DataW H → Nat
  | .lit (.string bytes) => bytes.length + 1
  | .lit _ => 1
  | .nil => 1
  | .ptr d => uptoBulk d + 1
  | .slice elems spare => uptoBulkAll elems + uptoBulkAll spare + 1
  | .agg parts => uptoBulkAll parts + 1
  | .iface _ d => uptoBulk d + 1
  | .map entries => uptoBulkEntries entries + 1
  | .held _ => 1
def uptoBulkAll {H : Type} : List (DataW H) → Nat
  | [] => 0
  | d :: r => uptoBulk d + uptoBulkAll r
def uptoBulkEntries {H : Type} : List (Lit × DataW H) → Nat
  | [] => 0
  | x :: r => uptoBulkEntry x + uptoBulkEntries r
def uptoBulkEntry {H : Type} : Lit × DataW H → Nat
  | (.string bytes, d) => bytes.length + uptoBulk d + 1
  | (_, d) => uptoBulk d + 1
 end
def uptoSmall : (H : Type) → List (DataW H) → Bool := fun _ ds => decide (uptoBulkAll ds ≤ 1048576)
def OpenSpec.upto (s : _root_.Go.ChangeSpec) : _root_.Go.OpenSpec := { _root_.Go.OpenSpec.ofChange s with cond := some uptoSmall }

/-- 'laws.FnExactFindNode', WHERE WHAT IT READS IS OF BULK AT MOST 1048576: true; the input reads as it did. -/
def fnExactFindNodeUptoRow : OpenClaim := { program := "ytikhdlgjfddedaadoor", sum := "ba4c32301396d54aba7ee8c67255e1af2caf19aa850393e96f17804c54cb2a8c", func := "loop.example/userspaces/laws.FnExactFindNode", spec := "fnExactFindNode", inPlace := ["internal/bytealg.CountString", "internal/bytealg.IndexByteString", "internal/bytealg.IndexString", "internal/abi.NoEscape", "internal/bytealg.MakeNoZero"], unfollowed := true, recurses := true, named := ["unicode/utf8.first", "unicode/utf8.acceptRanges", "internal/bytealg.MaxLen"], apart := false, laid := [("unicode/utf8.acceptRanges", laid_unicode_utf8_acceptRanges), ("unicode/utf8.first", laid_unicode_utf8_first)], narrowed := true }
def FnExactFindNodeUptoSaid : Prop := fnExactFindNodeUptoRow.holds Tryd.pinned (OpenSpec.upto fnExactFindNodeSpec)

/-- 'laws.FnExactSameFile', WHERE WHAT IT READS IS OF BULK AT MOST 1048576: true; the input reads as it did. -/
def fnExactSameFileUptoRow : OpenClaim := { program := "ytikhdlgjfddedaadoor", sum := "ba4c32301396d54aba7ee8c67255e1af2caf19aa850393e96f17804c54cb2a8c", func := "loop.example/userspaces/laws.FnExactSameFile", spec := "fnExactSameFile", inPlace := ["internal/bytealg.CountString", "internal/bytealg.IndexByteString", "internal/bytealg.IndexString", "internal/abi.NoEscape", "internal/bytealg.MakeNoZero"], unfollowed := true, recurses := true, named := ["unicode/utf8.first", "unicode/utf8.acceptRanges", "internal/bytealg.MaxLen"], apart := false, laid := [("unicode/utf8.acceptRanges", laid_unicode_utf8_acceptRanges), ("unicode/utf8.first", laid_unicode_utf8_first)], narrowed := true }
def FnExactSameFileUptoSaid : Prop := fnExactSameFileUptoRow.holds Tryd.pinned (OpenSpec.upto fnExactSameFileSpec)

/-- 'laws.FnExactMayAt', WHERE WHAT IT READS IS OF BULK AT MOST 1048576: true; the input reads as it did. -/
def fnExactMayAtUptoRow : OpenClaim := { program := "ytikhdlgjfddedaadoor", sum := "ba4c32301396d54aba7ee8c67255e1af2caf19aa850393e96f17804c54cb2a8c", func := "loop.example/userspaces/laws.FnExactMayAt", spec := "fnExactMayAt", inPlace := ["internal/bytealg.CountString", "internal/bytealg.IndexByteString", "internal/bytealg.IndexString", "internal/abi.NoEscape", "internal/bytealg.MakeNoZero"], unfollowed := true, recurses := true, named := ["unicode/utf8.first", "unicode/utf8.acceptRanges", "internal/bytealg.MaxLen"], apart := false, laid := [("unicode/utf8.acceptRanges", laid_unicode_utf8_acceptRanges), ("unicode/utf8.first", laid_unicode_utf8_first)], narrowed := true }
def FnExactMayAtUptoSaid : Prop := fnExactMayAtUptoRow.holds Tryd.pinned (OpenSpec.upto fnExactMayAtSpec)

/-- 'laws.FnExactReadFile', WHERE WHAT IT READS IS OF BULK AT MOST 1048576: true; the input reads as it did. -/
def fnExactReadFileUptoRow : OpenClaim := { program := "ytikhdlgjfddedaadoor", sum := "ba4c32301396d54aba7ee8c67255e1af2caf19aa850393e96f17804c54cb2a8c", func := "loop.example/userspaces/laws.FnExactReadFile", spec := "fnExactReadFile", inPlace := ["internal/bytealg.CountString", "internal/bytealg.IndexByteString", "internal/bytealg.IndexString", "internal/abi.NoEscape", "internal/bytealg.MakeNoZero"], unfollowed := true, recurses := true, named := ["unicode/utf8.first", "unicode/utf8.acceptRanges", "internal/bytealg.MaxLen"], apart := false, laid := [("unicode/utf8.acceptRanges", laid_unicode_utf8_acceptRanges), ("unicode/utf8.first", laid_unicode_utf8_first)], narrowed := true }
def FnExactReadFileUptoSaid : Prop := fnExactReadFileUptoRow.holds Tryd.pinned (OpenSpec.upto fnExactReadFileSpec)

/-- 'laws.FnExactPlaceFor', WHERE WHAT IT READS IS OF BULK AT MOST 1048576: true; the input reads as it did. -/
def fnExactPlaceForUptoRow : OpenClaim := { program := "ytikhdlgjfddedaadoor", sum := "ba4c32301396d54aba7ee8c67255e1af2caf19aa850393e96f17804c54cb2a8c", func := "loop.example/userspaces/laws.FnExactPlaceFor", spec := "fnExactPlaceFor", inPlace := ["internal/bytealg.CountString", "internal/bytealg.IndexByteString", "internal/bytealg.IndexString", "internal/abi.NoEscape", "internal/bytealg.MakeNoZero"], unfollowed := true, recurses := true, named := ["unicode/utf8.first", "unicode/utf8.acceptRanges", "internal/bytealg.MaxLen"], apart := false, laid := [("unicode/utf8.acceptRanges", laid_unicode_utf8_acceptRanges), ("unicode/utf8.first", laid_unicode_utf8_first)], narrowed := true }
def FnExactPlaceForUptoSaid : Prop := fnExactPlaceForUptoRow.holds Tryd.pinned (OpenSpec.upto fnExactPlaceForSpec)

/-- 'laws.FnExactMayDrop', WHERE WHAT IT READS IS OF BULK AT MOST 1048576: true; the input reads as it did. -/
def fnExactMayDropUptoRow : OpenClaim := { program := "ytikhdlgjfddedaadoor", sum := "ba4c32301396d54aba7ee8c67255e1af2caf19aa850393e96f17804c54cb2a8c", func := "loop.example/userspaces/laws.FnExactMayDrop", spec := "fnExactMayDrop", inPlace := ["internal/bytealg.CountString", "internal/bytealg.IndexByteString", "internal/bytealg.IndexString", "internal/abi.NoEscape", "internal/bytealg.MakeNoZero"], unfollowed := true, recurses := true, named := ["unicode/utf8.first", "unicode/utf8.acceptRanges", "internal/bytealg.MaxLen"], apart := false, laid := [("unicode/utf8.acceptRanges", laid_unicode_utf8_acceptRanges), ("unicode/utf8.first", laid_unicode_utf8_first)], narrowed := true }
def FnExactMayDropUptoSaid : Prop := fnExactMayDropUptoRow.holds Tryd.pinned (OpenSpec.upto fnExactMayDropSpec)

/-- 'laws.FnExactListNames', WHERE WHAT IT READS IS OF BULK AT MOST 1048576: true; the input reads as it did. -/
def fnExactListNamesUptoRow : OpenClaim := { program := "ytikhdlgjfddedaadoor", sum := "ba4c32301396d54aba7ee8c67255e1af2caf19aa850393e96f17804c54cb2a8c", func := "loop.example/userspaces/laws.FnExactListNames", spec := "fnExactListNames", inPlace := ["internal/bytealg.CountString", "internal/bytealg.IndexByteString", "internal/bytealg.IndexString", "internal/abi.NoEscape", "internal/bytealg.MakeNoZero"], unfollowed := true, recurses := true, named := ["unicode/utf8.first", "unicode/utf8.acceptRanges", "internal/bytealg.MaxLen"], apart := false, laid := [("unicode/utf8.acceptRanges", laid_unicode_utf8_acceptRanges), ("unicode/utf8.first", laid_unicode_utf8_first)], narrowed := true }
def FnExactListNamesUptoSaid : Prop := fnExactListNamesUptoRow.holds Tryd.pinned (OpenSpec.upto fnExactListNamesSpec)

/-- 'laws.FnExactChangeMode', WHERE WHAT IT READS IS OF BULK AT MOST 1048576: true; the input reads as it did. -/
def fnExactChangeModeUptoRow : OpenClaim := { program := "ytikhdlgjfddedaadoor", sum := "ba4c32301396d54aba7ee8c67255e1af2caf19aa850393e96f17804c54cb2a8c", func := "loop.example/userspaces/laws.FnExactChangeMode", spec := "fnExactChangeMode", inPlace := ["internal/bytealg.CountString", "internal/bytealg.IndexByteString", "internal/bytealg.IndexString", "internal/abi.NoEscape", "internal/bytealg.MakeNoZero"], unfollowed := true, recurses := true, named := ["unicode/utf8.first", "unicode/utf8.acceptRanges", "internal/bytealg.MaxLen"], apart := false, laid := [("unicode/utf8.acceptRanges", laid_unicode_utf8_acceptRanges), ("unicode/utf8.first", laid_unicode_utf8_first)], narrowed := true }
def FnExactChangeModeUptoSaid : Prop := fnExactChangeModeUptoRow.holds Tryd.pinned (OpenSpec.upto fnExactChangeModeSpec)

/-- 'laws.FnExactGiveNode', WHERE WHAT IT READS IS OF BULK AT MOST 1048576: true; the input reads as it did. -/
def fnExactGiveNodeUptoRow : OpenClaim := { program := "ytikhdlgjfddedaadoor", sum := "ba4c32301396d54aba7ee8c67255e1af2caf19aa850393e96f17804c54cb2a8c", func := "loop.example/userspaces/laws.FnExactGiveNode", spec := "fnExactGiveNode", inPlace := ["internal/bytealg.CountString", "internal/bytealg.IndexByteString", "internal/bytealg.IndexString", "internal/abi.NoEscape", "internal/bytealg.MakeNoZero"], unfollowed := true, recurses := true, named := ["unicode/utf8.first", "unicode/utf8.acceptRanges", "internal/bytealg.MaxLen"], apart := false, laid := [("unicode/utf8.acceptRanges", laid_unicode_utf8_acceptRanges), ("unicode/utf8.first", laid_unicode_utf8_first)], narrowed := true }
def FnExactGiveNodeUptoSaid : Prop := fnExactGiveNodeUptoRow.holds Tryd.pinned (OpenSpec.upto fnExactGiveNodeSpec)

/-- 'laws.FnExactWriteFile', WHERE WHAT IT READS IS OF BULK AT MOST 1048576: true; the input reads as it did. -/
def fnExactWriteFileUptoRow : OpenClaim := { program := "ytikhdlgjfddedaadoor", sum := "ba4c32301396d54aba7ee8c67255e1af2caf19aa850393e96f17804c54cb2a8c", func := "loop.example/userspaces/laws.FnExactWriteFile", spec := "fnExactWriteFile", inPlace := ["internal/bytealg.CountString", "internal/bytealg.IndexByteString", "internal/bytealg.IndexString", "internal/abi.NoEscape", "internal/bytealg.MakeNoZero"], unfollowed := true, recurses := true, named := ["unicode/utf8.first", "unicode/utf8.acceptRanges", "internal/bytealg.MaxLen"], apart := false, laid := [("unicode/utf8.acceptRanges", laid_unicode_utf8_acceptRanges), ("unicode/utf8.first", laid_unicode_utf8_first)], narrowed := true }
def FnExactWriteFileUptoSaid : Prop := fnExactWriteFileUptoRow.holds Tryd.pinned (OpenSpec.upto fnExactWriteFileSpec)

end Rows
end Go.Proofs.YtikhdlgjfddedaaDoor
