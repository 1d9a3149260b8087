/-
  NARROWER THAN 'FOR EVERY INPUT', by the rows' own cells (each row's printed sentence says how): FnExactDropName: laid · FnExactMakeNode: laid · FnExactLinkName: laid · FnExactMakeFolders: laid · FnExactMoveName: laid · FnExactCopyFile: laid.
  DERIVED. THE GIVEN ROWS OF THIS SEAT. 6 by the template 'for every input the law returns true; each argument reads behind the call as it read before'; 0 by the template 'total and deterministic' (their statements: YtbnjjpgacemicaaGreatDoorTotals.lean).
  GIVEN WITH THE SEED: the statements are not yours to turn. If you find one false, say at which input.
  Laid BY PROGRAM, IN A SANDBOX (cutbox-rows.mjs): the forced cells as the released guide's own fill.sh prints them over the translation 3b73e30bdfc2482d… (all of the seat's roots in one cut). By AI agents, Wed Nov 11 2026. No macro, syntax, notation, axiom, sorry.
-/
import Derived.Test.YtbnjjpgacemicaaGreatDoorChecked
import GoSem.PinnedTables
import GoSem.Claim
import GoSem.ClaimJoined
import GoSem.ClaimMapViews
import Derived.JoinedTies
import Derived.KernelRfl
namespace Go.Proofs.YtbnjjpgacemicaaGreatDoor
/- THE CELL 'sum', in the pinned program and in every row, IS THE sha256 OF THE DUMP (.gsa) THAT YtbnjjpgacemicaaGreatDoorProg.lean LOADS. Nothing in Lean hashes anything: it is a label: what it is worth is what the hold of that sum in a sandbox is worth. -/
noncomputable def Tryz.pinned : Pinned := { name := "ytbnjjpgacemicaagreatdoor", sum := "3b73e30bdfc2482dce1e5d4f47320b6fe0dc4e900681105f7f0b795ef4cf3285", checked := Tryz.checked }
namespace Rows
def none {H : Type} : Left H := { results := [], args := [] }

/- WHAT THE LISTED PACKAGE-LEVEL VARIABLES READ AS WHEN THE CALL BEGINS. Each datum BY PROGRAM (the guide's laid-datum.mjs) off the statement by which the dump's own 'gosem.cut.vars' lays the variable. In a bare row this is a premise. The card (YtbnjjpgacemicaaGreatDoorCards.lean) ties it to the program's text. -/
def laid_unicode_utf8_acceptRanges {H : Type} : DataW H := .agg [.agg [.lit (.int .u8 128), .lit (.int .u8 191)], .agg [.lit (.int .u8 160), .lit (.int .u8 191)], .agg [.lit (.int .u8 128), .lit (.int .u8 159)], .agg [.lit (.int .u8 144), .lit (.int .u8 191)], .agg [.lit (.int .u8 128), .lit (.int .u8 143)], .agg [.lit (.int .u8 0), .lit (.int .u8 0)], .agg [.lit (.int .u8 0), .lit (.int .u8 0)], .agg [.lit (.int .u8 0), .lit (.int .u8 0)], .agg [.lit (.int .u8 0), .lit (.int .u8 0)], .agg [.lit (.int .u8 0), .lit (.int .u8 0)], .agg [.lit (.int .u8 0), .lit (.int .u8 0)], .agg [.lit (.int .u8 0), .lit (.int .u8 0)], .agg [.lit (.int .u8 0), .lit (.int .u8 0)], .agg [.lit (.int .u8 0), .lit (.int .u8 0)], .agg [.lit (.int .u8 0), .lit (.int .u8 0)], .agg [.lit (.int .u8 0), .lit (.int .u8 0)]]
/-- One of Go's own tables, pinned by name: the form's constant. -/
def laid_unicode_utf8_first : DataW Unit := Go.Pinned.utf8First

/-- 'laws.FnExactDropName': WHATEVER THE INPUT: true; the input reads as it did. -/
def fnExactDropNameSpec : ChangeSpec := { name := "fnExactDropName", fn := fun _ => fun
  | [d1, d2, d3] => { results := [.lit (.bool true)], args := [d1, d2, d3] }
  | _ => none }
def fnExactDropNameRow : OpenClaim := { program := "ytbnjjpgacemicaagreatdoor", sum := "3b73e30bdfc2482dce1e5d4f47320b6fe0dc4e900681105f7f0b795ef4cf3285", func := "loop.example/userspaces/laws.FnExactDropName", spec := "fnExactDropName", inPlace := ["internal/bytealg.CountString", "internal/bytealg.IndexByteString", "internal/bytealg.IndexString", "internal/abi.NoEscape", "internal/bytealg.MakeNoZero"], unfollowed := true, recurses := true, named := ["unicode/utf8.first", "unicode/utf8.acceptRanges", "internal/bytealg.MaxLen"], apart := false, laid := [("unicode/utf8.acceptRanges", laid_unicode_utf8_acceptRanges), ("unicode/utf8.first", laid_unicode_utf8_first)] }
def FnExactDropNameSaid : Prop := fnExactDropNameRow.holds Tryz.pinned (OpenSpec.ofChange fnExactDropNameSpec)

/-- ITS FALSE NEIGHBOUR: 'it returns false'. Refute it at one input. -/
def fnExactDropNameWrong : ChangeSpec := { name := "fnExactDropName", fn := fun _ => fun
  | [d1, d2, d3] => { results := [.lit (.bool false)], args := [d1, d2, d3] }
  | _ => none }
def FnExactDropNameWrongFalsely : Prop := fnExactDropNameRow.holds Tryz.pinned (OpenSpec.ofChange fnExactDropNameWrong)

/-- 'laws.FnExactMakeNode': WHATEVER THE INPUT: true; the input reads as it did. -/
def fnExactMakeNodeSpec : ChangeSpec := { name := "fnExactMakeNode", fn := fun _ => fun
  | [d1, d2, d3, d4, d5] => { results := [.lit (.bool true)], args := [d1, d2, d3, d4, d5] }
  | _ => none }
def fnExactMakeNodeRow : OpenClaim := { program := "ytbnjjpgacemicaagreatdoor", sum := "3b73e30bdfc2482dce1e5d4f47320b6fe0dc4e900681105f7f0b795ef4cf3285", func := "loop.example/userspaces/laws.FnExactMakeNode", spec := "fnExactMakeNode", inPlace := ["internal/bytealg.CountString", "internal/bytealg.IndexByteString", "internal/bytealg.IndexString", "internal/abi.NoEscape", "internal/bytealg.MakeNoZero", "slices.overlaps[string]", "slices.overlaps[int]"], unfollowed := true, recurses := true, named := ["unicode/utf8.first", "unicode/utf8.acceptRanges", "internal/bytealg.MaxLen"], apart := false, laid := [("unicode/utf8.acceptRanges", laid_unicode_utf8_acceptRanges), ("unicode/utf8.first", laid_unicode_utf8_first)] }
def FnExactMakeNodeSaid : Prop := fnExactMakeNodeRow.holds Tryz.pinned (OpenSpec.ofChange fnExactMakeNodeSpec)

/-- ITS FALSE NEIGHBOUR: 'it returns false'. Refute it at one input. -/
def fnExactMakeNodeWrong : ChangeSpec := { name := "fnExactMakeNode", fn := fun _ => fun
  | [d1, d2, d3, d4, d5] => { results := [.lit (.bool false)], args := [d1, d2, d3, d4, d5] }
  | _ => none }
def FnExactMakeNodeWrongFalsely : Prop := fnExactMakeNodeRow.holds Tryz.pinned (OpenSpec.ofChange fnExactMakeNodeWrong)

/-- 'laws.FnExactLinkName': WHATEVER THE INPUT: true; the input reads as it did. -/
def fnExactLinkNameSpec : ChangeSpec := { name := "fnExactLinkName", fn := fun _ => fun
  | [d1, d2, d3, d4] => { results := [.lit (.bool true)], args := [d1, d2, d3, d4] }
  | _ => none }
def fnExactLinkNameRow : OpenClaim := { program := "ytbnjjpgacemicaagreatdoor", sum := "3b73e30bdfc2482dce1e5d4f47320b6fe0dc4e900681105f7f0b795ef4cf3285", func := "loop.example/userspaces/laws.FnExactLinkName", spec := "fnExactLinkName", inPlace := ["internal/bytealg.CountString", "internal/bytealg.IndexByteString", "internal/bytealg.IndexString", "internal/abi.NoEscape", "internal/bytealg.MakeNoZero", "slices.overlaps[string]", "slices.overlaps[int]"], unfollowed := true, recurses := true, named := ["unicode/utf8.first", "unicode/utf8.acceptRanges", "internal/bytealg.MaxLen"], apart := false, laid := [("unicode/utf8.acceptRanges", laid_unicode_utf8_acceptRanges), ("unicode/utf8.first", laid_unicode_utf8_first)] }
def FnExactLinkNameSaid : Prop := fnExactLinkNameRow.holds Tryz.pinned (OpenSpec.ofChange fnExactLinkNameSpec)

/-- ITS FALSE NEIGHBOUR: 'it returns false'. Refute it at one input. -/
def fnExactLinkNameWrong : ChangeSpec := { name := "fnExactLinkName", fn := fun _ => fun
  | [d1, d2, d3, d4] => { results := [.lit (.bool false)], args := [d1, d2, d3, d4] }
  | _ => none }
def FnExactLinkNameWrongFalsely : Prop := fnExactLinkNameRow.holds Tryz.pinned (OpenSpec.ofChange fnExactLinkNameWrong)

/-- 'laws.FnExactMakeFolders': WHATEVER THE INPUT: true; the input reads as it did. -/
def fnExactMakeFoldersSpec : ChangeSpec := { name := "fnExactMakeFolders", fn := fun _ => fun
  | [d1, d2, d3, d4] => { results := [.lit (.bool true)], args := [d1, d2, d3, d4] }
  | _ => none }
def fnExactMakeFoldersRow : OpenClaim := { program := "ytbnjjpgacemicaagreatdoor", sum := "3b73e30bdfc2482dce1e5d4f47320b6fe0dc4e900681105f7f0b795ef4cf3285", func := "loop.example/userspaces/laws.FnExactMakeFolders", spec := "fnExactMakeFolders", inPlace := ["internal/bytealg.CountString", "internal/bytealg.IndexByteString", "internal/bytealg.IndexString", "internal/abi.NoEscape", "internal/bytealg.MakeNoZero", "slices.overlaps[string]", "slices.overlaps[int]"], unfollowed := true, recurses := true, named := ["unicode/utf8.first", "unicode/utf8.acceptRanges", "internal/bytealg.MaxLen"], apart := false, laid := [("unicode/utf8.acceptRanges", laid_unicode_utf8_acceptRanges), ("unicode/utf8.first", laid_unicode_utf8_first)] }
def FnExactMakeFoldersSaid : Prop := fnExactMakeFoldersRow.holds Tryz.pinned (OpenSpec.ofChange fnExactMakeFoldersSpec)

/-- ITS FALSE NEIGHBOUR: 'it returns false'. Refute it at one input. -/
def fnExactMakeFoldersWrong : ChangeSpec := { name := "fnExactMakeFolders", fn := fun _ => fun
  | [d1, d2, d3, d4] => { results := [.lit (.bool false)], args := [d1, d2, d3, d4] }
  | _ => none }
def FnExactMakeFoldersWrongFalsely : Prop := fnExactMakeFoldersRow.holds Tryz.pinned (OpenSpec.ofChange fnExactMakeFoldersWrong)

/-- 'laws.FnExactMoveName': WHATEVER THE INPUT: true; the input reads as it did. -/
def fnExactMoveNameSpec : ChangeSpec := { name := "fnExactMoveName", fn := fun _ => fun
  | [d1, d2, d3, d4] => { results := [.lit (.bool true)], args := [d1, d2, d3, d4] }
  | _ => none }
def fnExactMoveNameRow : OpenClaim := { program := "ytbnjjpgacemicaagreatdoor", sum := "3b73e30bdfc2482dce1e5d4f47320b6fe0dc4e900681105f7f0b795ef4cf3285", func := "loop.example/userspaces/laws.FnExactMoveName", spec := "fnExactMoveName", inPlace := ["internal/bytealg.CountString", "internal/bytealg.IndexByteString", "internal/bytealg.IndexString", "internal/abi.NoEscape", "internal/bytealg.MakeNoZero", "slices.overlaps[string]", "slices.overlaps[int]"], unfollowed := true, recurses := true, named := ["unicode/utf8.first", "unicode/utf8.acceptRanges", "internal/bytealg.MaxLen"], apart := false, laid := [("unicode/utf8.acceptRanges", laid_unicode_utf8_acceptRanges), ("unicode/utf8.first", laid_unicode_utf8_first)] }
def FnExactMoveNameSaid : Prop := fnExactMoveNameRow.holds Tryz.pinned (OpenSpec.ofChange fnExactMoveNameSpec)

/-- ITS FALSE NEIGHBOUR: 'it returns false'. Refute it at one input. -/
def fnExactMoveNameWrong : ChangeSpec := { name := "fnExactMoveName", fn := fun _ => fun
  | [d1, d2, d3, d4] => { results := [.lit (.bool false)], args := [d1, d2, d3, d4] }
  | _ => none }
def FnExactMoveNameWrongFalsely : Prop := fnExactMoveNameRow.holds Tryz.pinned (OpenSpec.ofChange fnExactMoveNameWrong)

/-- 'laws.FnExactCopyFile': WHATEVER THE INPUT: true; the input reads as it did. -/
def fnExactCopyFileSpec : ChangeSpec := { name := "fnExactCopyFile", fn := fun _ => fun
  | [d1, d2, d3, d4] => { results := [.lit (.bool true)], args := [d1, d2, d3, d4] }
  | _ => none }
def fnExactCopyFileRow : OpenClaim := { program := "ytbnjjpgacemicaagreatdoor", sum := "3b73e30bdfc2482dce1e5d4f47320b6fe0dc4e900681105f7f0b795ef4cf3285", func := "loop.example/userspaces/laws.FnExactCopyFile", spec := "fnExactCopyFile", inPlace := ["internal/bytealg.CountString", "internal/bytealg.IndexByteString", "internal/bytealg.IndexString", "internal/abi.NoEscape", "internal/bytealg.MakeNoZero", "slices.overlaps[string]", "slices.overlaps[int]"], unfollowed := true, recurses := true, named := ["unicode/utf8.first", "unicode/utf8.acceptRanges", "internal/bytealg.MaxLen"], apart := false, laid := [("unicode/utf8.acceptRanges", laid_unicode_utf8_acceptRanges), ("unicode/utf8.first", laid_unicode_utf8_first)] }
def FnExactCopyFileSaid : Prop := fnExactCopyFileRow.holds Tryz.pinned (OpenSpec.ofChange fnExactCopyFileSpec)

/-- ITS FALSE NEIGHBOUR: 'it returns false'. Refute it at one input. -/
def fnExactCopyFileWrong : ChangeSpec := { name := "fnExactCopyFile", fn := fun _ => fun
  | [d1, d2, d3, d4] => { results := [.lit (.bool false)], args := [d1, d2, d3, d4] }
  | _ => none }
def FnExactCopyFileWrongFalsely : Prop := fnExactCopyFileRow.holds Tryz.pinned (OpenSpec.ofChange fnExactCopyFileWrong)

/- THE SECOND FORM. 'bulk': how many values and letters a reading holds, each counted each time it is reached (what is shared counts as often as it is met; a slice's spare places count too). A statement '..UptoSaid' is the law's where the arguments, and the package variables that the reading takes, are together of bulk at most 1048576: NARROWER than '..Said'. Prove '..Said' where nothing that the law and all that it calls make is longer than what came in: it says more and counts as full. Else prove '..UptoSaid'. A law counts once. -/
mutual
def uptoBulk {H : Type} : DataW H → Nat
  | .lit (.string bytes) => bytes.length + 1
  | .lit _ => 1
  | .nil => 1
  | .ptr d => uptoBulk d + 1
  | .slice elems spare => uptoBulkAll elems + uptoBulkAll spare + 1
  | .agg parts => uptoBulkAll parts + 1
  | .iface _ d => uptoBulk d + 1
  | .map entries => uptoBulkEntries entries + 1
  | .held _ => 1
def uptoBulkAll {H : Type} : List (DataW H) → Nat
  | [] => 0
  | d :: r => uptoBulk d + uptoBulkAll r
def uptoBulkEntries {H : Type} : List (Lit × DataW H) → Nat
  | [] => 0
  | x :: r => uptoBulkEntry x + uptoBulkEntries r
def uptoBulkEntry {H : Type} : Lit × DataW H → Nat
  | (.string bytes, d) => bytes.length + uptoBulk d + 1
  | (_, d) => uptoBulk d + 1
 end
def uptoSmall : (H : Type) → List (DataW H) → Bool := fun _ ds => decide (uptoBulkAll ds ≤ 1048576)
def OpenSpec.upto (s : _root_.Go.ChangeSpec) : _root_.Go.OpenSpec := { _root_.Go.OpenSpec.ofChange s with cond := some uptoSmall }

/-- 'laws.FnExactDropName', WHERE WHAT IT READS IS OF BULK AT MOST 1048576: true; the input reads as it did. -/
def fnExactDropNameUptoRow : OpenClaim := { program := "ytbnjjpgacemicaagreatdoor", sum := "3b73e30bdfc2482dce1e5d4f47320b6fe0dc4e900681105f7f0b795ef4cf3285", func := "loop.example/userspaces/laws.FnExactDropName", spec := "fnExactDropName", inPlace := ["internal/bytealg.CountString", "internal/bytealg.IndexByteString", "internal/bytealg.IndexString", "internal/abi.NoEscape", "internal/bytealg.MakeNoZero"], unfollowed := true, recurses := true, named := ["unicode/utf8.first", "unicode/utf8.acceptRanges", "internal/bytealg.MaxLen"], apart := false, laid := [("unicode/utf8.acceptRanges", laid_unicode_utf8_acceptRanges), ("unicode/utf8.first", laid_unicode_utf8_first)], narrowed := true }
def FnExactDropNameUptoSaid : Prop := fnExactDropNameUptoRow.holds Tryz.pinned (OpenSpec.upto fnExactDropNameSpec)

/-- 'laws.FnExactMakeNode', WHERE WHAT IT READS IS OF BULK AT MOST 1048576: true; the input reads as it did. -/
def fnExactMakeNodeUptoRow : OpenClaim := { program := "ytbnjjpgacemicaagreatdoor", sum := "3b73e30bdfc2482dce1e5d4f47320b6fe0dc4e900681105f7f0b795ef4cf3285", func := "loop.example/userspaces/laws.FnExactMakeNode", spec := "fnExactMakeNode", inPlace := ["internal/bytealg.CountString", "internal/bytealg.IndexByteString", "internal/bytealg.IndexString", "internal/abi.NoEscape", "internal/bytealg.MakeNoZero", "slices.overlaps[string]", "slices.overlaps[int]"], unfollowed := true, recurses := true, named := ["unicode/utf8.first", "unicode/utf8.acceptRanges", "internal/bytealg.MaxLen"], apart := false, laid := [("unicode/utf8.acceptRanges", laid_unicode_utf8_acceptRanges), ("unicode/utf8.first", laid_unicode_utf8_first)], narrowed := true }
def FnExactMakeNodeUptoSaid : Prop := fnExactMakeNodeUptoRow.holds Tryz.pinned (OpenSpec.upto fnExactMakeNodeSpec)

/-- 'laws.FnExactLinkName', WHERE WHAT IT READS IS OF BULK AT MOST 1048576: true; the input reads as it did. -/
def fnExactLinkNameUptoRow : OpenClaim := { program := "ytbnjjpgacemicaagreatdoor", sum := "3b73e30bdfc2482dce1e5d4f47320b6fe0dc4e900681105f7f0b795ef4cf3285", func := "loop.example/userspaces/laws.FnExactLinkName", spec := "fnExactLinkName", inPlace := ["internal/bytealg.CountString", "internal/bytealg.IndexByteString", "internal/bytealg.IndexString", "internal/abi.NoEscape", "internal/bytealg.MakeNoZero", "slices.overlaps[string]", "slices.overlaps[int]"], unfollowed := true, recurses := true, named := ["unicode/utf8.first", "unicode/utf8.acceptRanges", "internal/bytealg.MaxLen"], apart := false, laid := [("unicode/utf8.acceptRanges", laid_unicode_utf8_acceptRanges), ("unicode/utf8.first", laid_unicode_utf8_first)], narrowed := true }
def FnExactLinkNameUptoSaid : Prop := fnExactLinkNameUptoRow.holds Tryz.pinned (OpenSpec.upto fnExactLinkNameSpec)

/-- 'laws.FnExactMakeFolders', WHERE WHAT IT READS IS OF BULK AT MOST 1048576: true; the input reads as it did. -/
def fnExactMakeFoldersUptoRow : OpenClaim := { program := "ytbnjjpgacemicaagreatdoor", sum := "3b73e30bdfc2482dce1e5d4f47320b6fe0dc4e900681105f7f0b795ef4cf3285", func := "loop.example/userspaces/laws.FnExactMakeFolders", spec := "fnExactMakeFolders", inPlace := ["internal/bytealg.CountString", "internal/bytealg.IndexByteString", "internal/bytealg.IndexString", "internal/abi.NoEscape", "internal/bytealg.MakeNoZero", "slices.overlaps[string]", "slices.overlaps[int]"], unfollowed := true, recurses := true, named := ["unicode/utf8.first", "unicode/utf8.acceptRanges", "internal/bytealg.MaxLen"], apart := false, laid := [("unicode/utf8.acceptRanges", laid_unicode_utf8_acceptRanges), ("unicode/utf8.first", laid_unicode_utf8_first)], narrowed := true }
def FnExactMakeFoldersUptoSaid : Prop := fnExactMakeFoldersUptoRow.holds Tryz.pinned (OpenSpec.upto fnExactMakeFoldersSpec)

/-- 'laws.FnExactMoveName', WHERE WHAT IT READS IS OF BULK AT MOST 1048576: true; the input reads as it did. -/
def fnExactMoveNameUptoRow : OpenClaim := { program := "ytbnjjpgacemicaagreatdoor", sum := "3b73e30bdfc2482dce1e5d4f47320b6fe0dc4e900681105f7f0b795ef4cf3285", func := "loop.example/userspaces/laws.FnExactMoveName", spec := "fnExactMoveName", inPlace := ["internal/bytealg.CountString", "internal/bytealg.IndexByteString", "internal/bytealg.IndexString", "internal/abi.NoEscape", "internal/bytealg.MakeNoZero", "slices.overlaps[string]", "slices.overlaps[int]"], unfollowed := true, recurses := true, named := ["unicode/utf8.first", "unicode/utf8.acceptRanges", "internal/bytealg.MaxLen"], apart := false, laid := [("unicode/utf8.acceptRanges", laid_unicode_utf8_acceptRanges), ("unicode/utf8.first", laid_unicode_utf8_first)], narrowed := true }
def FnExactMoveNameUptoSaid : Prop := fnExactMoveNameUptoRow.holds Tryz.pinned (OpenSpec.upto fnExactMoveNameSpec)

/-- 'laws.FnExactCopyFile', WHERE WHAT IT READS IS OF BULK AT MOST 1048576: true; the input reads as it did. -/
def fnExactCopyFileUptoRow : OpenClaim := { program := "ytbnjjpgacemicaagreatdoor", sum := "3b73e30bdfc2482dce1e5d4f47320b6fe0dc4e900681105f7f0b795ef4cf3285", func := "loop.example/userspaces/laws.FnExactCopyFile", spec := "fnExactCopyFile", inPlace := ["internal/bytealg.CountString", "internal/bytealg.IndexByteString", "internal/bytealg.IndexString", "internal/abi.NoEscape", "internal/bytealg.MakeNoZero", "slices.overlaps[string]", "slices.overlaps[int]"], unfollowed := true, recurses := true, named := ["unicode/utf8.first", "unicode/utf8.acceptRanges", "internal/bytealg.MaxLen"], apart := false, laid := [("unicode/utf8.acceptRanges", laid_unicode_utf8_acceptRanges), ("unicode/utf8.first", laid_unicode_utf8_first)], narrowed := true }
def FnExactCopyFileUptoSaid : Prop := fnExactCopyFileUptoRow.holds Tryz.pinned (OpenSpec.upto fnExactCopyFileSpec)

end Rows
end Go.Proofs.YtbnjjpgacemicaaGreatDoor
