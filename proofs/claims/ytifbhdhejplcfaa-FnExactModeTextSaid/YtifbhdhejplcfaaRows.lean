/-
  No cell of these rows narrows 'for every input' (looked for: loops, veiled, ifaces, maps, wideKeys, modest, calm, conditions, laid).
  DERIVED. THE GIVEN ROWS OF THIS SEAT. 12 by the template 'for every input the law returns true; each argument reads behind the call as it read before'; 0 by the template 'total and deterministic' (their statements: YtifbhdhejplcfaaTotals.lean).
  GIVEN WITH THE SEED: the statements are not yours to turn. If you find one false, say at which input.
  Laid BY PROGRAM, IN A SANDBOX (cutbox-rows.mjs): the forced cells as the released guide's own fill.sh prints them over the translation 9b5bd1f800f4a907… (all of the seat's roots in one cut). By AI agents, Wed Nov 11 2026. No macro, syntax, notation, axiom, sorry.
-/
import Derived.Test.YtifbhdhejplcfaaChecked
import GoSem.Claim
import GoSem.ClaimJoined
import GoSem.ClaimMapViews
import Derived.JoinedTies
import Derived.KernelRfl
namespace Go.Proofs.Ytifbhdhejplcfaa
/- THE CELL 'sum', in the pinned program and in every row, IS THE sha256 OF THE DUMP (.gsa) THAT YtifbhdhejplcfaaProg.lean LOADS. Nothing in Lean hashes anything: it is a label: what it is worth is what the hold of that sum in a sandbox is worth. -/
noncomputable def Try.pinned : Pinned := { name := "ytifbhdhejplcfaa", sum := "9b5bd1f800f4a90746ac6a52686cf4f3d84dc6f8ae5ad22e773c9912b2477f30", checked := Try.checked }
namespace Rows
def none {H : Type} : Left H := { results := [], args := [] }

/-- 'laws.FnExactConstants': WHATEVER THE INPUT: true; the input reads as it did. -/
def fnExactConstantsSpec : ChangeSpec := { name := "fnExactConstants", fn := fun _ => fun
  | [] => { results := [.lit (.bool true)], args := [] }
  | _ => none }
def fnExactConstantsRow : OpenClaim := { program := "ytifbhdhejplcfaa", sum := "9b5bd1f800f4a90746ac6a52686cf4f3d84dc6f8ae5ad22e773c9912b2477f30", func := "loop.example/userspaces/laws.FnExactConstants", spec := "fnExactConstants", apart := false }
def FnExactConstantsSaid : Prop := fnExactConstantsRow.holds Try.pinned (OpenSpec.ofChange fnExactConstantsSpec)

/-- ITS FALSE NEIGHBOUR: 'it returns false'. Refute it at one input. -/
def fnExactConstantsWrong : ChangeSpec := { name := "fnExactConstants", fn := fun _ => fun
  | [] => { results := [.lit (.bool false)], args := [] }
  | _ => none }
def FnExactConstantsWrongFalsely : Prop := fnExactConstantsRow.holds Try.pinned (OpenSpec.ofChange fnExactConstantsWrong)

/-- 'laws.FnExactHasGroup': WHATEVER THE INPUT: true; the input reads as it did. -/
def fnExactHasGroupSpec : ChangeSpec := { name := "fnExactHasGroup", fn := fun _ => fun
  | [d1, d2] => { results := [.lit (.bool true)], args := [d1, d2] }
  | _ => none }
def fnExactHasGroupRow : OpenClaim := { program := "ytifbhdhejplcfaa", sum := "9b5bd1f800f4a90746ac6a52686cf4f3d84dc6f8ae5ad22e773c9912b2477f30", func := "loop.example/userspaces/laws.FnExactHasGroup", spec := "fnExactHasGroup", apart := false }
def FnExactHasGroupSaid : Prop := fnExactHasGroupRow.holds Try.pinned (OpenSpec.ofChange fnExactHasGroupSpec)

/-- ITS FALSE NEIGHBOUR: 'it returns false'. Refute it at one input. -/
def fnExactHasGroupWrong : ChangeSpec := { name := "fnExactHasGroup", fn := fun _ => fun
  | [d1, d2] => { results := [.lit (.bool false)], args := [d1, d2] }
  | _ => none }
def FnExactHasGroupWrongFalsely : Prop := fnExactHasGroupRow.holds Try.pinned (OpenSpec.ofChange fnExactHasGroupWrong)

/-- 'laws.FnExactFaultText': WHATEVER THE INPUT: true; the input reads as it did. -/
def fnExactFaultTextSpec : ChangeSpec := { name := "fnExactFaultText", fn := fun _ => fun
  | [d] => { results := [.lit (.bool true)], args := [d] }
  | _ => none }
def fnExactFaultTextRow : OpenClaim := { program := "ytifbhdhejplcfaa", sum := "9b5bd1f800f4a90746ac6a52686cf4f3d84dc6f8ae5ad22e773c9912b2477f30", func := "loop.example/userspaces/laws.FnExactFaultText", spec := "fnExactFaultText", apart := false }
def FnExactFaultTextSaid : Prop := fnExactFaultTextRow.holds Try.pinned (OpenSpec.ofChange fnExactFaultTextSpec)

/-- ITS FALSE NEIGHBOUR: 'it returns false'. Refute it at one input. -/
def fnExactFaultTextWrong : ChangeSpec := { name := "fnExactFaultText", fn := fun _ => fun
  | [d] => { results := [.lit (.bool false)], args := [d] }
  | _ => none }
def FnExactFaultTextWrongFalsely : Prop := fnExactFaultTextRow.holds Try.pinned (OpenSpec.ofChange fnExactFaultTextWrong)

/-- 'laws.FnExactMaskMode': WHATEVER THE INPUT: true; the input reads as it did. -/
def fnExactMaskModeSpec : ChangeSpec := { name := "fnExactMaskMode", fn := fun _ => fun
  | [d1, d2] => { results := [.lit (.bool true)], args := [d1, d2] }
  | _ => none }
def fnExactMaskModeRow : OpenClaim := { program := "ytifbhdhejplcfaa", sum := "9b5bd1f800f4a90746ac6a52686cf4f3d84dc6f8ae5ad22e773c9912b2477f30", func := "loop.example/userspaces/laws.FnExactMaskMode", spec := "fnExactMaskMode", apart := false }
def FnExactMaskModeSaid : Prop := fnExactMaskModeRow.holds Try.pinned (OpenSpec.ofChange fnExactMaskModeSpec)

/-- ITS FALSE NEIGHBOUR: 'it returns false'. Refute it at one input. -/
def fnExactMaskModeWrong : ChangeSpec := { name := "fnExactMaskMode", fn := fun _ => fun
  | [d1, d2] => { results := [.lit (.bool false)], args := [d1, d2] }
  | _ => none }
def FnExactMaskModeWrongFalsely : Prop := fnExactMaskModeRow.holds Try.pinned (OpenSpec.ofChange fnExactMaskModeWrong)

/-- 'laws.FnExactRightsFor': WHATEVER THE INPUT: true; the input reads as it did. -/
def fnExactRightsForSpec : ChangeSpec := { name := "fnExactRightsFor", fn := fun _ => fun
  | [d1, d2] => { results := [.lit (.bool true)], args := [d1, d2] }
  | _ => none }
def fnExactRightsForRow : OpenClaim := { program := "ytifbhdhejplcfaa", sum := "9b5bd1f800f4a90746ac6a52686cf4f3d84dc6f8ae5ad22e773c9912b2477f30", func := "loop.example/userspaces/laws.FnExactRightsFor", spec := "fnExactRightsFor", apart := false }
def FnExactRightsForSaid : Prop := fnExactRightsForRow.holds Try.pinned (OpenSpec.ofChange fnExactRightsForSpec)

/-- ITS FALSE NEIGHBOUR: 'it returns false'. Refute it at one input. -/
def fnExactRightsForWrong : ChangeSpec := { name := "fnExactRightsFor", fn := fun _ => fun
  | [d1, d2] => { results := [.lit (.bool false)], args := [d1, d2] }
  | _ => none }
def FnExactRightsForWrongFalsely : Prop := fnExactRightsForRow.holds Try.pinned (OpenSpec.ofChange fnExactRightsForWrong)

/-- 'laws.FnExactCredValid': WHATEVER THE INPUT: true; the input reads as it did. -/
def fnExactCredValidSpec : ChangeSpec := { name := "fnExactCredValid", fn := fun _ => fun
  | [d] => { results := [.lit (.bool true)], args := [d] }
  | _ => none }
def fnExactCredValidRow : OpenClaim := { program := "ytifbhdhejplcfaa", sum := "9b5bd1f800f4a90746ac6a52686cf4f3d84dc6f8ae5ad22e773c9912b2477f30", func := "loop.example/userspaces/laws.FnExactCredValid", spec := "fnExactCredValid", apart := false }
def FnExactCredValidSaid : Prop := fnExactCredValidRow.holds Try.pinned (OpenSpec.ofChange fnExactCredValidSpec)

/-- ITS FALSE NEIGHBOUR: 'it returns false'. Refute it at one input. -/
def fnExactCredValidWrong : ChangeSpec := { name := "fnExactCredValid", fn := fun _ => fun
  | [d] => { results := [.lit (.bool false)], args := [d] }
  | _ => none }
def FnExactCredValidWrongFalsely : Prop := fnExactCredValidRow.holds Try.pinned (OpenSpec.ofChange fnExactCredValidWrong)

/-- 'laws.FnExactNameValid': WHATEVER THE INPUT: true; the input reads as it did. -/
def fnExactNameValidSpec : ChangeSpec := { name := "fnExactNameValid", fn := fun _ => fun
  | [d] => { results := [.lit (.bool true)], args := [d] }
  | _ => none }
def fnExactNameValidRow : OpenClaim := { program := "ytifbhdhejplcfaa", sum := "9b5bd1f800f4a90746ac6a52686cf4f3d84dc6f8ae5ad22e773c9912b2477f30", func := "loop.example/userspaces/laws.FnExactNameValid", spec := "fnExactNameValid", apart := false }
def FnExactNameValidSaid : Prop := fnExactNameValidRow.holds Try.pinned (OpenSpec.ofChange fnExactNameValidSpec)

/-- ITS FALSE NEIGHBOUR: 'it returns false'. Refute it at one input. -/
def fnExactNameValidWrong : ChangeSpec := { name := "fnExactNameValid", fn := fun _ => fun
  | [d] => { results := [.lit (.bool false)], args := [d] }
  | _ => none }
def FnExactNameValidWrongFalsely : Prop := fnExactNameValidRow.holds Try.pinned (OpenSpec.ofChange fnExactNameValidWrong)

/-- 'laws.FnExactModeText': WHATEVER THE INPUT: true; the input reads as it did. -/
def fnExactModeTextSpec : ChangeSpec := { name := "fnExactModeText", fn := fun _ => fun
  | [d] => { results := [.lit (.bool true)], args := [d] }
  | _ => none }
def fnExactModeTextRow : OpenClaim := { program := "ytifbhdhejplcfaa", sum := "9b5bd1f800f4a90746ac6a52686cf4f3d84dc6f8ae5ad22e773c9912b2477f30", func := "loop.example/userspaces/laws.FnExactModeText", spec := "fnExactModeText", apart := false }
def FnExactModeTextSaid : Prop := fnExactModeTextRow.holds Try.pinned (OpenSpec.ofChange fnExactModeTextSpec)

/-- ITS FALSE NEIGHBOUR: 'it returns false'. Refute it at one input. -/
def fnExactModeTextWrong : ChangeSpec := { name := "fnExactModeText", fn := fun _ => fun
  | [d] => { results := [.lit (.bool false)], args := [d] }
  | _ => none }
def FnExactModeTextWrongFalsely : Prop := fnExactModeTextRow.holds Try.pinned (OpenSpec.ofChange fnExactModeTextWrong)

/-- 'laws.FnExactClassOf': WHATEVER THE INPUT: true; the input reads as it did. -/
def fnExactClassOfSpec : ChangeSpec := { name := "fnExactClassOf", fn := fun _ => fun
  | [d1, d2, d3] => { results := [.lit (.bool true)], args := [d1, d2, d3] }
  | _ => none }
def fnExactClassOfRow : OpenClaim := { program := "ytifbhdhejplcfaa", sum := "9b5bd1f800f4a90746ac6a52686cf4f3d84dc6f8ae5ad22e773c9912b2477f30", func := "loop.example/userspaces/laws.FnExactClassOf", spec := "fnExactClassOf", apart := false }
def FnExactClassOfSaid : Prop := fnExactClassOfRow.holds Try.pinned (OpenSpec.ofChange fnExactClassOfSpec)

/-- ITS FALSE NEIGHBOUR: 'it returns false'. Refute it at one input. -/
def fnExactClassOfWrong : ChangeSpec := { name := "fnExactClassOf", fn := fun _ => fun
  | [d1, d2, d3] => { results := [.lit (.bool false)], args := [d1, d2, d3] }
  | _ => none }
def FnExactClassOfWrongFalsely : Prop := fnExactClassOfRow.holds Try.pinned (OpenSpec.ofChange fnExactClassOfWrong)

/-- 'laws.FnExactActAs': WHATEVER THE INPUT: true; the input reads as it did. -/
def fnExactActAsSpec : ChangeSpec := { name := "fnExactActAs", fn := fun _ => fun
  | [d1, d2] => { results := [.lit (.bool true)], args := [d1, d2] }
  | _ => none }
def fnExactActAsRow : OpenClaim := { program := "ytifbhdhejplcfaa", sum := "9b5bd1f800f4a90746ac6a52686cf4f3d84dc6f8ae5ad22e773c9912b2477f30", func := "loop.example/userspaces/laws.FnExactActAs", spec := "fnExactActAs", apart := false }
def FnExactActAsSaid : Prop := fnExactActAsRow.holds Try.pinned (OpenSpec.ofChange fnExactActAsSpec)

/-- ITS FALSE NEIGHBOUR: 'it returns false'. Refute it at one input. -/
def fnExactActAsWrong : ChangeSpec := { name := "fnExactActAs", fn := fun _ => fun
  | [d1, d2] => { results := [.lit (.bool false)], args := [d1, d2] }
  | _ => none }
def FnExactActAsWrongFalsely : Prop := fnExactActAsRow.holds Try.pinned (OpenSpec.ofChange fnExactActAsWrong)

/-- 'laws.FnExactRunAs': WHATEVER THE INPUT: true; the input reads as it did. -/
def fnExactRunAsSpec : ChangeSpec := { name := "fnExactRunAs", fn := fun _ => fun
  | [d1, d2, d3] => { results := [.lit (.bool true)], args := [d1, d2, d3] }
  | _ => none }
def fnExactRunAsRow : OpenClaim := { program := "ytifbhdhejplcfaa", sum := "9b5bd1f800f4a90746ac6a52686cf4f3d84dc6f8ae5ad22e773c9912b2477f30", func := "loop.example/userspaces/laws.FnExactRunAs", spec := "fnExactRunAs", apart := false }
def FnExactRunAsSaid : Prop := fnExactRunAsRow.holds Try.pinned (OpenSpec.ofChange fnExactRunAsSpec)

/-- ITS FALSE NEIGHBOUR: 'it returns false'. Refute it at one input. -/
def fnExactRunAsWrong : ChangeSpec := { name := "fnExactRunAs", fn := fun _ => fun
  | [d1, d2, d3] => { results := [.lit (.bool false)], args := [d1, d2, d3] }
  | _ => none }
def FnExactRunAsWrongFalsely : Prop := fnExactRunAsRow.holds Try.pinned (OpenSpec.ofChange fnExactRunAsWrong)

/-- 'laws.FnExactSetUser': WHATEVER THE INPUT: true; the input reads as it did. -/
def fnExactSetUserSpec : ChangeSpec := { name := "fnExactSetUser", fn := fun _ => fun
  | [d1, d2] => { results := [.lit (.bool true)], args := [d1, d2] }
  | _ => none }
def fnExactSetUserRow : OpenClaim := { program := "ytifbhdhejplcfaa", sum := "9b5bd1f800f4a90746ac6a52686cf4f3d84dc6f8ae5ad22e773c9912b2477f30", func := "loop.example/userspaces/laws.FnExactSetUser", spec := "fnExactSetUser", apart := false }
def FnExactSetUserSaid : Prop := fnExactSetUserRow.holds Try.pinned (OpenSpec.ofChange fnExactSetUserSpec)

/-- ITS FALSE NEIGHBOUR: 'it returns false'. Refute it at one input. -/
def fnExactSetUserWrong : ChangeSpec := { name := "fnExactSetUser", fn := fun _ => fun
  | [d1, d2] => { results := [.lit (.bool false)], args := [d1, d2] }
  | _ => none }
def FnExactSetUserWrongFalsely : Prop := fnExactSetUserRow.holds Try.pinned (OpenSpec.ofChange fnExactSetUserWrong)

/- THE SECOND FORM. 'bulk': how many values and letters a reading holds, each counted each time it is reached (what is shared counts as often as it is met; a slice's spare places count too). A statement '..UptoSaid' is the law's where the arguments, and the package variables that the reading takes, are together of bulk at most 1048576: NARROWER than '..Said'. Prove '..Said' where nothing that the law and all that it calls make is longer than what came in: it says more and counts as full. Else prove '..UptoSaid'. A law counts once. -/
mutual
def uptoBulk {H : Type} : DataW H → Nat
  | .lit (.string bytes) => bytes.length + 1
  | .lit _ => 1
  | .nil => 1
  | .ptr d => uptoBulk d + 1
  | .slice elems spare => uptoBulkAll elems + uptoBulkAll spare + 1
  | .agg parts => uptoBulkAll parts + 1
  | .iface _ d => uptoBulk d + 1
  | .map entries => uptoBulkEntries entries + 1
  | .held _ => 1
def uptoBulkAll {H : Type} : List (DataW H) → Nat
  | [] => 0
  | d :: r => uptoBulk d + uptoBulkAll r
def uptoBulkEntries {H : Type} : List (Lit × DataW H) → Nat
  | [] => 0
  | x :: r => uptoBulkEntry x + uptoBulkEntries r
def uptoBulkEntry {H : Type} : Lit × DataW H → Nat
  | (.string bytes, d) => bytes.length + uptoBulk d + 1
  | (_, d) => uptoBulk d + 1
 end
def uptoSmall : (H : Type) → List (DataW H) → Bool := fun _ ds => decide (uptoBulkAll ds ≤ 1048576)
def OpenSpec.upto (s : _root_.Go.ChangeSpec) : _root_.Go.OpenSpec := { _root_.Go.OpenSpec.ofChange s with cond := some uptoSmall }

/-- 'laws.FnExactConstants', WHERE WHAT IT READS IS OF BULK AT MOST 1048576: true; the input reads as it did. -/
def fnExactConstantsUptoRow : OpenClaim := { program := "ytifbhdhejplcfaa", sum := "9b5bd1f800f4a90746ac6a52686cf4f3d84dc6f8ae5ad22e773c9912b2477f30", func := "loop.example/userspaces/laws.FnExactConstants", spec := "fnExactConstants", apart := false, narrowed := true }
def FnExactConstantsUptoSaid : Prop := fnExactConstantsUptoRow.holds Try.pinned (OpenSpec.upto fnExactConstantsSpec)

/-- 'laws.FnExactHasGroup', WHERE WHAT IT READS IS OF BULK AT MOST 1048576: true; the input reads as it did. -/
def fnExactHasGroupUptoRow : OpenClaim := { program := "ytifbhdhejplcfaa", sum := "9b5bd1f800f4a90746ac6a52686cf4f3d84dc6f8ae5ad22e773c9912b2477f30", func := "loop.example/userspaces/laws.FnExactHasGroup", spec := "fnExactHasGroup", apart := false, narrowed := true }
def FnExactHasGroupUptoSaid : Prop := fnExactHasGroupUptoRow.holds Try.pinned (OpenSpec.upto fnExactHasGroupSpec)

/-- 'laws.FnExactFaultText', WHERE WHAT IT READS IS OF BULK AT MOST 1048576: true; the input reads as it did. -/
def fnExactFaultTextUptoRow : OpenClaim := { program := "ytifbhdhejplcfaa", sum := "9b5bd1f800f4a90746ac6a52686cf4f3d84dc6f8ae5ad22e773c9912b2477f30", func := "loop.example/userspaces/laws.FnExactFaultText", spec := "fnExactFaultText", apart := false, narrowed := true }
def FnExactFaultTextUptoSaid : Prop := fnExactFaultTextUptoRow.holds Try.pinned (OpenSpec.upto fnExactFaultTextSpec)

/-- 'laws.FnExactMaskMode', WHERE WHAT IT READS IS OF BULK AT MOST 1048576: true; the input reads as it did. -/
def fnExactMaskModeUptoRow : OpenClaim := { program := "ytifbhdhejplcfaa", sum := "9b5bd1f800f4a90746ac6a52686cf4f3d84dc6f8ae5ad22e773c9912b2477f30", func := "loop.example/userspaces/laws.FnExactMaskMode", spec := "fnExactMaskMode", apart := false, narrowed := true }
def FnExactMaskModeUptoSaid : Prop := fnExactMaskModeUptoRow.holds Try.pinned (OpenSpec.upto fnExactMaskModeSpec)

/-- 'laws.FnExactRightsFor', WHERE WHAT IT READS IS OF BULK AT MOST 1048576: true; the input reads as it did. -/
def fnExactRightsForUptoRow : OpenClaim := { program := "ytifbhdhejplcfaa", sum := "9b5bd1f800f4a90746ac6a52686cf4f3d84dc6f8ae5ad22e773c9912b2477f30", func := "loop.example/userspaces/laws.FnExactRightsFor", spec := "fnExactRightsFor", apart := false, narrowed := true }
def FnExactRightsForUptoSaid : Prop := fnExactRightsForUptoRow.holds Try.pinned (OpenSpec.upto fnExactRightsForSpec)

/-- 'laws.FnExactCredValid', WHERE WHAT IT READS IS OF BULK AT MOST 1048576: true; the input reads as it did. -/
def fnExactCredValidUptoRow : OpenClaim := { program := "ytifbhdhejplcfaa", sum := "9b5bd1f800f4a90746ac6a52686cf4f3d84dc6f8ae5ad22e773c9912b2477f30", func := "loop.example/userspaces/laws.FnExactCredValid", spec := "fnExactCredValid", apart := false, narrowed := true }
def FnExactCredValidUptoSaid : Prop := fnExactCredValidUptoRow.holds Try.pinned (OpenSpec.upto fnExactCredValidSpec)

/-- 'laws.FnExactNameValid', WHERE WHAT IT READS IS OF BULK AT MOST 1048576: true; the input reads as it did. -/
def fnExactNameValidUptoRow : OpenClaim := { program := "ytifbhdhejplcfaa", sum := "9b5bd1f800f4a90746ac6a52686cf4f3d84dc6f8ae5ad22e773c9912b2477f30", func := "loop.example/userspaces/laws.FnExactNameValid", spec := "fnExactNameValid", apart := false, narrowed := true }
def FnExactNameValidUptoSaid : Prop := fnExactNameValidUptoRow.holds Try.pinned (OpenSpec.upto fnExactNameValidSpec)

/-- 'laws.FnExactModeText', WHERE WHAT IT READS IS OF BULK AT MOST 1048576: true; the input reads as it did. -/
def fnExactModeTextUptoRow : OpenClaim := { program := "ytifbhdhejplcfaa", sum := "9b5bd1f800f4a90746ac6a52686cf4f3d84dc6f8ae5ad22e773c9912b2477f30", func := "loop.example/userspaces/laws.FnExactModeText", spec := "fnExactModeText", apart := false, narrowed := true }
def FnExactModeTextUptoSaid : Prop := fnExactModeTextUptoRow.holds Try.pinned (OpenSpec.upto fnExactModeTextSpec)

/-- 'laws.FnExactClassOf', WHERE WHAT IT READS IS OF BULK AT MOST 1048576: true; the input reads as it did. -/
def fnExactClassOfUptoRow : OpenClaim := { program := "ytifbhdhejplcfaa", sum := "9b5bd1f800f4a90746ac6a52686cf4f3d84dc6f8ae5ad22e773c9912b2477f30", func := "loop.example/userspaces/laws.FnExactClassOf", spec := "fnExactClassOf", apart := false, narrowed := true }
def FnExactClassOfUptoSaid : Prop := fnExactClassOfUptoRow.holds Try.pinned (OpenSpec.upto fnExactClassOfSpec)

/-- 'laws.FnExactActAs', WHERE WHAT IT READS IS OF BULK AT MOST 1048576: true; the input reads as it did. -/
def fnExactActAsUptoRow : OpenClaim := { program := "ytifbhdhejplcfaa", sum := "9b5bd1f800f4a90746ac6a52686cf4f3d84dc6f8ae5ad22e773c9912b2477f30", func := "loop.example/userspaces/laws.FnExactActAs", spec := "fnExactActAs", apart := false, narrowed := true }
def FnExactActAsUptoSaid : Prop := fnExactActAsUptoRow.holds Try.pinned (OpenSpec.upto fnExactActAsSpec)

/-- 'laws.FnExactRunAs', WHERE WHAT IT READS IS OF BULK AT MOST 1048576: true; the input reads as it did. -/
def fnExactRunAsUptoRow : OpenClaim := { program := "ytifbhdhejplcfaa", sum := "9b5bd1f800f4a90746ac6a52686cf4f3d84dc6f8ae5ad22e773c9912b2477f30", func := "loop.example/userspaces/laws.FnExactRunAs", spec := "fnExactRunAs", apart := false, narrowed := true }
def FnExactRunAsUptoSaid : Prop := fnExactRunAsUptoRow.holds Try.pinned (OpenSpec.upto fnExactRunAsSpec)

/-- 'laws.FnExactSetUser', WHERE WHAT IT READS IS OF BULK AT MOST 1048576: true; the input reads as it did. -/
def fnExactSetUserUptoRow : OpenClaim := { program := "ytifbhdhejplcfaa", sum := "9b5bd1f800f4a90746ac6a52686cf4f3d84dc6f8ae5ad22e773c9912b2477f30", func := "loop.example/userspaces/laws.FnExactSetUser", spec := "fnExactSetUser", apart := false, narrowed := true }
def FnExactSetUserUptoSaid : Prop := fnExactSetUserUptoRow.holds Try.pinned (OpenSpec.upto fnExactSetUserSpec)

end Rows
end Go.Proofs.Ytifbhdhejplcfaa
